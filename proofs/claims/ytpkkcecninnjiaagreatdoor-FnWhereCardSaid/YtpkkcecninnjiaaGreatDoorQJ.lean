/- joined -/
import Derived.Test.YtpkkcecninnjiaaGreatDoorQI
set_option linter.unusedSimpArgs false
set_option linter.unusedVariables false
section
namespace Go.My
open Go.Eng
variable {b:UInt8}{c i j k r:Int}{n:Nat}{ns:List Nd}{rd:Bool}{s t x:Aa}{v:Ad}{w:List KT}
def LX(s:Aa)(w:List KT):Prop:=∀(p:Aa) (n:Nat) (br:Int),s.length+1≤n→∃l,Ey (p++s) n p.length br=some l∧l.map kt=w
theorem c5F:LX [] []:=fun p n br hn=>by
 cases n with
 |zero=>simp at hn
 |succ n=>exact⟨[],by unfold Ey;simp,rfl⟩
theorem DM{b:UInt8}(hb:b=32∨b=10)(h:LX s w):LX (b::s) w:=fun p n br hn=>by
 cases n with
 |zero=>simp at hn
 |succ n=>
  have hg:(p++b::s)[((p.length:Nat):Int).toNat]? =some b:=by simp
  have e:(p++[b])++s=p++b::s:=by simp
  have el:((p++[b]).length:Int)=p.length+1:=by simp
  have hn2:s.length+1≤n:=by simp only[AE] at hn;omega
  rcases hb with rfl|rfl
  ·obtain⟨l,h1,h2⟩:=h (p++[32]) n br hn2
   rw[e,el] at h1
   refine⟨l,?_,h2⟩
   unfold Ey;rw[hg];simp only;rw[if_pos (by decide)];exact h1
  ·obtain⟨l,h1,h2⟩:=h (p++[10]) n (br+1) hn2
   rw[e,el] at h1
   refine⟨l,?_,h2⟩
   unfold Ey;rw[hg];simp only;rw[if_neg (by decide),if_pos (by decide)];exact h1
def SG(k:Int)(x s:Aa):Prop:=(x≠[]∧(x.headD 0).toNat≠32∧(x.headD 0).toNat≠10)∧AW (x++s)=⟨k,x,x.length,true⟩
theorem MG(hs:SG k x s)(h:LX s w):LX (x++s) ((k,x)::w):=fun p n br hn=>by
 obtain⟨⟨h1,h2,h3⟩,h4⟩:=hs
 obtain⟨b,t,rfl⟩:=List.exists_cons_of_ne_nil h1
 cases n with
 |zero=>simp at hn
 |succ n=>
  have hg:(p++(b::t++s))[((p.length:Nat):Int).toNat]? =some b:=by simp
  have hd:(p++(b::t++s)).drop ((p.length:Nat):Int).toNat=b::t++s:=by simp
  have e:(p++(b::t))++s=p++(b::t++s):=by simp
  have el:((p++(b::t)).length:Int)=p.length+((b::t).length:Nat):=by simp
  obtain⟨l,g1,g2⟩:=h (p++(b::t)) n 0 (by simp only[Ba,AE] at hn;omega)
  rw[e,el] at g1
  refine⟨⟨k,b::t,p.length,decide (br>1)⟩::l,?_,by rw[En,g2];rfl⟩
  simp only[Nb] at h2 h3
  unfold Ey
  rw[hg];simp only
  rw[if_neg h2,if_neg h3,hd,h4]
  simp only[BN]
  rw[g1];rfl
theorem c5G(h:LX t w)(hl:t.length≤3000):∃l,Cr t=some l∧l.map kt=w:=by
 obtain⟨l,h1,h2⟩:=h [] (t.length+1) 0 (by omega)
 exact⟨l,by rw[Cr,if_neg (by omega)];exact h1,h2⟩
def Nx(s:Aa):Prop:=∀c,s.head? =some c→BA c=false
theorem FZ{b:UInt8}(h:BA b=false):Nx (b::s):=fun c hc=>by simp at hc;rw[←hc];exact h
theorem UQ(h:CK x k=true):x≠[]∧AW x=⟨k,x,x.length,true⟩:=by
 simp only[CK,AY,EV,Bf,DB] at h
 obtain⟨h1,h2,h3,h4,h5⟩:=h
 refine⟨fun e=>by rw[e] at h1;simp at h1,?_⟩
 cases hx:AW x with
 |mk a b c d=>
  rw[hx] at h2 h3 h4 h5
  simp only at h2 h3 h4 h5
  rw[h2,h3,h4,h5]
theorem b1y(h:(AW (b::t)).kind=1):BQ b=true:=by
 unfold AW at h;simp only at h
 split at h
 ·assumption
 split at h;·cases h
 split at h;·cases h
 split at h;·cases h
 split at h;·cases h
 split at h<;>cases h
theorem c5H(h:(AW (b::t)).kind=2):BQ b=false∧Bh b=true:=by
 unfold AW at h;simp only at h
 split at h;·cases h
 rename_i h1
 split at h
 ·rename_i h2;exact⟨by simpa using h1,h2⟩
 split at h;·cases h
 split at h;·cases h
 split at h;·cases h
 split at h<;>cases h
theorem c5I(h:(AW (b::t)).kind=3):(BQ b=false∧Bh b=false)∧b.toNat=39:=by
 unfold AW at h;simp only at h
 split at h;·cases h
 rename_i h1
 split at h;·cases h
 rename_i h2
 split at h
 ·rename_i h3;exact⟨⟨by simpa using h1,by simpa using h2⟩,h3⟩
 split at h;·cases h
 split at h;·cases h
 split at h<;>cases h
theorem b1z(h:CK x 1=true)(hs:Nx s):SG 1 x s:=by
 obtain⟨h1,h2⟩:=UQ h
 obtain⟨b,t,rfl⟩:=List.exists_cons_of_ne_nil h1
 have hf:=b1y (t:=t) (by rw[h2])
 refine⟨⟨h1,Sh (.inl hf)⟩,?_⟩
 rw[Ub hf] at h2
 simp only[SgR.mk.injEq,Bf] at h2
 obtain⟨_,h3,_,h4⟩:=h2
 have e:(b::t++s).takeWhile BA=b::t:=Se (fun c hc=>by rw[←h3] at hc;exact Sf hc) hs
 rw[h3] at h4
 have:=Ub (t:=t++s) hf
 rw[show b::(t++s)=b::t++s from rfl,e,Ht h4] at this
 exact this
theorem c5J(h:CK x 2=true)(hs:Nx s):SG 2 x s:=by
 obtain⟨h1,h2⟩:=UQ h
 obtain⟨b,t,rfl⟩:=List.exists_cons_of_ne_nil h1
 obtain⟨hf,hg⟩:=c5H (t:=t) (by rw[h2])
 refine⟨⟨h1,Sh (.inr (.inl hg))⟩,?_⟩
 rw[Uc hf hg] at h2
 simp only[SgR.mk.injEq,Bf] at h2
 obtain⟨_,h3,_,h4⟩:=h2
 have e:(b::t++s).takeWhile Bh=b::t:=Se (fun c hc=>by rw[←h3] at hc;exact Sf hc) fun c hc=>by
  have:=hs c hc
  simp only[BA,Bool.or_eq_false_iff] at this;exact this.2
 rw[h3] at h4
 have:=Uc (t:=t++s) hf hg
 rw[show b::(t++s)=b::t++s from rfl,e,Ht h4] at this
 exact this
theorem c5K(h:CK x 3=true):SG 3 x s:=by
 obtain⟨h1,h2⟩:=UQ h
 obtain⟨b,t,rfl⟩:=List.exists_cons_of_ne_nil h1
 obtain⟨⟨hf,hg⟩,h39⟩:=c5I (t:=t) (by rw[h2])
 refine⟨⟨h1,Sh (.inr (.inr h39))⟩,?_⟩
 have e:∀l,AW (b::l)=⟨3,(Df (b::l)).1,(Df (b::l)).1.length,(Df (b::l)).2⟩:=fun l=>by
  simp only[AW,hf,hg,h39,Bl,Br,BN]
 rw[e] at h2
 simp only[SgR.mk.injEq] at h2
 obtain⟨_,h3,_,h4⟩:=h2
 have hq:Df (b::(t++s))=(b::t,true):=by
  rw[Ud] at h3 h4 ⊢
  simp only[Na,GU] at h3 h4 ⊢
  cases hi:Dk isQ t with
  |none=>rw[hi] at h4;cases h4
  |some i=>
   have hlt:=Ue hi
   rw[hi] at h3 h4
   rw[a3O hi]
   simp only at h3 h4 ⊢
   rw[show b::(t++s)=b::t++s from rfl,Ix (by simp only[AE];omega),h4,h3]
 rw[EW,e,hq]
theorem c5L(h:CK x 5=true):SG 5 x (10::s):=by
 obtain⟨h1,h2⟩:=UQ h
 have:=b1x (s:=x) (by rw[h2])
 rw[h2] at this
 exact⟨this.1,this.2 _ (.inl ⟨rfl,s,rfl⟩)⟩
theorem b1A{b:UInt8}{l:Aa}(h1:BQ b=false)(h2:Bh b=false)(h3:b.toNat≠39)(h4:b≠47):AW (b::l)=if BW ((b::l).take 2) then⟨4,(b::l).take 2,((b::l).take 2).length,true⟩ else if BW ((b::l).take 1) then⟨4,(b::l).take 1,1,true⟩ else⟨0,[],0,false⟩:=by
 have hl:(b::l).take 2≠[47,47]:=by
  intro e
  rw[Kh] at e
  simp only[HQ] at e;exact h4 e.1
 simp only[AW,h1,h2,h3,hl,Bl,Br]
theorem a3R(hb:BQ b=false∧Bh b=false∧b.toNat≠39∧b≠47∧BW [b]=true)(hc:∀c r,s=c::r→BW [b,c]=false):SG 4 [b] s:=by
 obtain⟨h1,h2,h3,h4,h5⟩:=hb
 refine⟨Yl h5,?_⟩
 rw[List.singleton_append,b1A h1 h2 h3 h4]
 cases s with
 |nil=>rw[show(b::[]).take 2=[b] from rfl,if_pos h5]
 |cons c r=>
  rw[show(b::c::r).take 2=[b,c] from rfl,hc c r rfl]
  simp [h5]
theorem c5M{c:UInt8}(hb:BQ b=false∧Bh b=false∧b.toNat≠39∧b≠47∧BW [b,c]=true):SG 4 [b,c] s:=by
 obtain⟨h1,h2,h3,h4,h5⟩:=hb
 refine⟨Yl h5,?_⟩
 rw[show [b,c]++s=b::c::s from rfl,b1A h1 h2 h3 h4,show(b::c::s).take 2=[b,c] from rfl,if_pos h5]
def MH:Aa:=[40,41,91,93,44,59,123,125,63,58,60,43,45,42]
theorem b1B(h:b∈MH):BA b=false∧∀s,SG 4 [b] s:=by
 simp only[MH,EX,List.not_mem_nil,or_false] at h
 rcases h with rfl|rfl|rfl|rfl|rfl|rfl|rfl|rfl|rfl|rfl|rfl|rfl|rfl|rfl<;>
  exact⟨by decide,fun s=>a3R (by decide) fun c r _=>by simp [BW,mk2]⟩
theorem FE{b:UInt8}(hb:b∈MH)(h:LX s w):LX (b::s) ((4,[b])::w):=MG ((b1B hb).2 s) h
theorem UR{b c:UInt8}(hb:BQ b=false∧Bh b=false∧b.toNat≠39∧b≠47∧BW [b,c]=true)(h:LX s w):LX (b::c::s) ((4,[b,c])::w):=MG (c5M hb) h
theorem c5N(hs:s.head? =some 32∨s.head? =some 10)(h:LX s w):LX (61::s) ((4,[61])::w):=MG (x:=[61]) (a3R (by decide) fun c r e=>by
 subst e
 rcases hs with hs|hs<;>(simp at hs;subst hs;decide)) h
theorem c5O(hs:∀c,s.head? =some c→BQ c=true)(h:LX s w):LX (46::s) ((4,[46])::w):=MG (x:=[46]) (a3R (by decide) fun c r e=>by
 subst e
 have:=hs c rfl
 have hc:c≠46:=fun e=>by rw[e] at this;revert this;decide
 simp [BW,mk2,hc]) h
theorem c5P(hx:HV x=true)(h:LX s w):LX (x++s) ((4,x)::w):=by
 simp only[HV,CG,DB] at hx
 rcases hx with rfl|rfl|rfl|rfl|rfl|rfl|rfl
 ·exact UR (by decide) h
 ·exact UR (by decide) h
 ·exact UR (by decide) h
 all_goals exact FE (by decide) h
theorem MI(hx:DK x=true)(hs:Nx s)(h:LX s w):LX (x++s) ((1,x)::w):=MG (b1z (by
 simp only[DK,AY] at hx;exact hx.1) hs) h
theorem c5Q(hx:DK x=true):∀c,(x++s).head?=some c→BQ c=true:=fun c hc=>by
 simp only[DK,AY] at hx
 obtain⟨h1,h2⟩:=UQ hx.1
 obtain⟨b,t,rfl⟩:=List.exists_cons_of_ne_nil h1
 simp at hc;subst hc
 exact b1y (t:=t) (by rw[h2])
theorem NW(hx:CK x 1=true)(hs:Nx s)(h:LX s w):LX (x++s) ((1,x)::w):=MG (b1z hx hs) h
structure Ru where
 vals:Int
 cost:Int
structure Ch where
 text:Aa
 rule:Int
 fr:Int
 space:Bool
 nest:Int
structure Sn where
 fr:Int
 tuu:Int
 cost:Int
structure Ti where
 kid:Int
 up:Int
structure Pc where
 ind:Int
 rules:List Ru
 chunks:List Ch
 spans:List Sn
 ties:List Ti
variable {p:Pc}
def ruA:Ru→List AV:=fun r=>[.int .i64 r.vals,.int .i64 r.cost]
def chA:Ch→List AV:=fun c=>[.str c.text,.int .i64 c.rule,.int .i64 c.fr,.bool c.space,.int .i64 c.nest]
def snA:Sn→List AV:=fun s=>[.int .i64 s.fr,.int .i64 s.tuu,.int .i64 s.cost]
def tiA:Ti→List AV:=fun t=>[.int .i64 t.kid,.int .i64 t.up]
theorem EO(r:Ru):ruA r=[.int .i64 r.vals,.int .i64 r.cost]:=rfl
theorem EP(c:Ch):chA c=[.str c.text,.int .i64 c.rule,.int .i64 c.fr,.bool c.space,.int .i64 c.nest]:=rfl
theorem EQ(s:Sn):snA s=[.int .i64 s.fr,.int .i64 s.tuu,.int .i64 s.cost]:=rfl
theorem ER(t:Ti):tiA t=[.int .i64 t.kid,.int .i64 t.up]:=rfl
abbrev oRu (l:List Ru):AV:= .sl true 0 2 Ru ruA l
abbrev bRu (l:List Ru):AV:= .sl false 0 2 Ru ruA l
abbrev oCh (l:List Ch):AV:= .sl true 0 5 Ch chA l
abbrev bCh (l:List Ch):AV:= .sl false 0 5 Ch chA l
abbrev oSn (l:List Sn):AV:= .sl true 0 3 Sn snA l
abbrev bSn (l:List Sn):AV:= .sl false 0 3 Sn snA l
abbrev oTi (l:List Ti):AV:= .sl true 0 2 Ti tiA l
abbrev bTi (l:List Ti):AV:= .sl false 0 2 Ti tiA l
def pcA(o:Bool)(p:Pc):List AV:=[.int .i64 p.ind,.sl o 0 2 Ru ruA p.rules,.sl o 0 5 Ch chA p.chunks,.sl o 0 3 Sn snA p.spans,.sl o 0 2 Ti tiA p.ties]
structure Bs where
 rules:List Ru
 chunks:List Ch
 spans:List Sn
 ties:List Ti
 text:Aa
variable {f:Int→Int→Bs→Bs}
def IZ(rd:Bool)(s:Bs):Bool:=rd&&decide (s.rules.length<8)
def Bx(rd:Bool)(v c:Int)(s:Bs):Bs:=if IZ rd s then⟨s.rules++[⟨v,c⟩],s.chunks,s.spans,s.ties,s.text⟩ else s
def AP(rd:Bool)(s:Bs):Int:=if IZ rd s then s.rules.length else-1
def As(t:Aa)(s:Bs):Bs:=⟨s.rules,s.chunks,s.spans,s.ties,s.text++t⟩
def AZ(r fr:Int)(sp:Bool)(nest:Int)(s:Bs):Bs:=
 if 0≤r∧s.chunks.length<79 then⟨s.rules,s.chunks++[⟨s.text,r,fr,sp,min nest 40⟩],s.spans,s.ties,[]⟩
 else if sp then As [32] s else s
def DY(kid up:Int)(s:Bs):Bs:=if(0≤kid∧0≤up)∧s.ties.length<20 then⟨s.rules,s.chunks,s.spans,s.ties++[⟨kid,up⟩],s.text⟩ else s
def Il(fr:Int)(s:Bs):Bs:=if fr≤(s.chunks.length:Int)-1∧s.spans.length<40 then⟨s.rules,s.chunks,s.spans++[⟨fr,(s.chunks.length:Int)-1,1⟩],s.ties,s.text⟩ else s
def Es(n:Nat)(s:Bs):Int:=if n<s.rules.length then n else-1
def up4(a:Int):Int:=min (a+4) 40
def itL(f:Int→Int→Bs→Bs)(r g inner:Int):Ad→Bool→Bs→Bs
 |[],_,s=>s
 |c::l,first,s=>itL f r g inner l false (f c inner (if first then s else AZ r g true inner (As [44] s)))
def FF(rd:Bool)(f:Int→Int→Bs→Bs)(op:Aa)(ks:Ad)(en:Aa)(a:Int)(s:Bs):Bs:=
 if ks=[] then As en (As op s)
 else As en (AZ (AP rd (As op s)) 1 false a
  (itL f (AP rd (As op s)) (min ks.length 2) (up4 a) ks true (AZ (AP rd (As op s)) 1 false (up4 a) (Bx rd (min ks.length 2+1) 1 (As op s)))))
def KI(ns:List Nd)(f:Int→Int→Bs→Bs)(r inner:Int)(c:Int)(s:Bs):Bs:=
 (fun s2=>if Ai ns c=1∨Ai ns c=2∨Ai ns c=3 then s2 else Il s.chunks.length s2)
   (if Ai ns c=7 then DY (Es s.rules.length (f c inner s)) r (f c inner s) else f c inner s)
def chL(ns:List Nd)(f:Int→Int→Bs→Bs)(r inner:Int)(t:Aa):Ad→Bool→Bs→Bs
 |[],_,s=>s
 |c::l,first,s=>chL ns f r inner t l false (KI ns f r inner c (if first then s else AZ r 1 true inner (As (32::t) s)))
def NX(ns:List Nd)(rd:Bool)(f:Int→Int→Bs→Bs)(x:Nd)(inner:Int)(s:Bs):Bs:=chL ns f (AP rd s) inner x.text x.kids true (Bx rd 2 1 s)
def pkT(i:Int):Aa:=if i=0 then [] else if i=1 then [63,32] else [58,32]
def KJ(ns:List Nd)(f:Int→Int→Bs→Bs)(r inner:Int)(c:Int)(s:Bs):Bs:=
 if Ai ns c=8 then DY (Es s.rules.length (f c inner s)) r (f c inner s) else f c inner s
def pkL(ns:List Nd)(f:Int→Int→Bs→Bs)(r inner:Int):Ad→Int→Bs→Bs
 |[],_,s=>s
 |c::l,i,s=>pkL ns f r inner l (i+1) (KJ ns f r inner c (if i=0 then s else As (pkT i) (AZ r 1 true inner s)))
def PB(ns:List Nd)(rd:Bool)(f:Int→Int→Bs→Bs)(x:Nd)(inner:Int)(s:Bs):Bs:=pkL ns f (AP rd s) inner x.kids 0 (Bx rd 2 1 s)
def Fg(ns:List Nd):Ad→Bool→Aa
 |[],_=>[]
 |c::l,first=>(if first then [] else [44,32])++(Ab ns c).text++Fg ns l false
def ET(ns:List Nd)(x:Nd):Aa:=40::(Fg ns (x.kids.take (x.kids.length-1)) true++[41])
def bFn(ns:List Nd)(rd:Bool)(f:Int→Int→Bs→Bs)(x:Nd)(inner:Int)(s:Bs):Bs:=
 f (kd x (x.kids.length-1)) inner (AZ (AP rd (As (ET ns x++[32,61,62]) s)) 1 true inner (Bx rd 2 2 (As (ET ns x++[32,61,62]) s)))
def caL(f:Int→Int→Bs→Bs)(r inner:Int):Ad→Bs→Bs
 |[],s=>s
 |c::l,s=>caL f r inner l (f c inner (As [46,46] (AZ r 1 false inner s)))
def b1C(rd:Bool)(f:Int→Int→Bs→Bs)(x:Nd)(a:Int)(s:Bs):Bs:=caL f (AP rd s) (up4 a) (x.kids.drop 1) (f (kd x 0) a (Bx rd 2 1 s))
def bV1(ns:List Nd)(rd:Bool)(f:Int→Int→Bs→Bs)(x:Nd)(a:Int)(s:Bs):Bs:=
 if x.kind=1∨x.kind=2∨x.kind=3 then As x.text s
 else if x.kind=11 then As [41] (f (kd x 0) a (As [40] s))
 else if x.kind=6 then As (46::x.text) (f (kd x 0) a s)
 else if x.kind=4 then FF rd f [91] x.kids [93] a s
 else if x.kind=5 then FF rd f [40] (x.kids.drop 1) [41] a (f (kd x 0) a s)
 else if x.kind=7 then NX ns rd f x (up4 a) s
 else if x.kind=8 then PB ns rd f x (up4 a) s
 else if x.kind=9 then bFn ns rd f x (up4 a) s
 else b1C rd f x a s
def bV(ns:List Nd)(rd:Bool):Nat→Int→Int→Bs→Bs
 |0,_,_,s=>s
 |n+1,k,a,s=>bV1 ns rd (bV ns rd n) (Ab ns k) a s
def JU(rd:Bool)(x:Nd)(s:Bs):Int:=if x.kind=7∨x.kind=8 then AP rd s else-1
def CB(l:List Ch):Nat:=(l.map fun c=>c.text.length).sum
def tot(s:Bs):Nat:=CB s.chunks+s.text.length
structure bLe (rd:Bool) (m:Nat) (s t:Bs):Prop where
 ru:s.rules.length≤t.rules.length
 ch:s.chunks.length≤t.chunks.length
 sp:s.spans.length≤t.spans.length
 ti:s.ties.length≤t.ties.length
 tt:tot t≤tot s+m
 fu:IZ rd s=false→t.rules=s.rules
theorem Im{s:Bs}:bLe rd 0 s s:=⟨Bu _,Bu _,Bu _,Bu _,by omega,fun _=>rfl⟩
theorem c5R{s t:Bs}(h:t.rules=s.rules):IZ rd t=IZ rd s:=by simp [IZ,h]
theorem CF{m:Nat}{s t u:Bs}(h:bLe rd m s t)(g:bLe rd n t u):bLe rd (m+n) s u:=
 ⟨by have:=h.ru;have:=g.ru;omega,by have:=h.ch;have:=g.ch;omega,by have:=h.sp;have:=g.sp;omega,by have:=h.ti;have:=g.ti;omega,by have:=h.tt;have:=g.tt;omega,
   fun hr=>by have h1:=h.fu hr;rw[g.fu (by rw[c5R h1];exact hr),h1]⟩
theorem Ds{m:Nat}{s t:Bs}(h:bLe rd m s t)(hm:m≤n):bLe rd n s t:=⟨h.ru,h.ch,h.sp,h.ti,by have:=h.tt;omega,h.fu⟩
theorem a3S{l m:List Ch}:CB (l++m)=CB l+CB m:=by simp [CB]
theorem Ga{s:Bs}:bLe rd t.length s (As t s):=
 ⟨Bu _,Bu _,Bu _,Bu _,by simp [tot,As];omega,fun _=>rfl⟩
theorem PC{v:Int}{s:Bs}:bLe rd 0 s (Bx rd v c s):=by
 unfold Bx
 split
 ·rename_i h
  exact⟨by simp,Bu _,Bu _,Bu _,by simp [tot],fun hf=>by rw[h] at hf;cases hf⟩
 ·exact Im
theorem Ja{fr nest:Int}{sp:Bool}{s:Bs}:bLe rd 1 s (AZ r fr sp nest s):=by
 unfold AZ
 split
 ·exact⟨Bu _,by simp,Bu _,Bu _,by simp [tot,a3S,CB],fun _=>rfl⟩
 ·split
  ·exact Ga (t:=[32])
  ·exact Ds Im (by omega)
theorem a3T{u:Int}{s:Bs}:bLe rd 0 s (DY k u s):=by
 unfold DY
 split
 ·exact⟨Bu _,Bu _,Bu _,by simp,by simp [tot],fun _=>rfl⟩
 ·exact Im
theorem c5S{f:Int}{s:Bs}:bLe rd 0 s (Il f s):=by
 unfold Il
 split
 ·exact⟨Bu _,Bu _,by simp,Bu _,by simp [tot],fun _=>rfl⟩
 ·exact Im
structure bOk (s:Bs):Prop where
 ru:s.rules.length≤8
 ch:s.chunks.length≤79
 sp:s.spans.length≤40
 ti:s.ties.length≤20
theorem Gb{s:Bs}(h:bOk s):bOk (As t s):=⟨h.ru,h.ch,h.sp,h.ti⟩
theorem Si{v:Int}{s:Bs}(h:bOk s):bOk (Bx rd v c s):=by
 unfold Bx;split
 ·rename_i hr
  simp [IZ] at hr
  exact⟨by simp;omega,h.ch,h.sp,h.ti⟩
 ·exact h
theorem JV{fr nest:Int}{sp:Bool}{s:Bs}(h:bOk s):bOk (AZ r fr sp nest s):=by
 unfold AZ;split
 ·exact⟨h.ru,by simp;omega,h.sp,h.ti⟩
 ·split
  ·exact Gb h
  ·exact h
theorem a3U{u:Int}{s:Bs}(h:bOk s):bOk (DY k u s):=by
 unfold DY;split
 ·exact⟨h.ru,h.ch,h.sp,by simp;omega⟩
 ·exact h
theorem c5T{f:Int}{s:Bs}(h:bOk s):bOk (Il f s):=by
 unfold Il;split
 ·exact⟨h.ru,h.ch,by simp;omega,h.ti⟩
 ·exact h
def stp(rd:Bool)(w:Int→Nat)(f:Int→Int→Bs→Bs)(l:Ad):Prop:=∀c∈l,∀a s,bLe rd (w c) s (f c a s)∧(bOk s→bOk (f c a s))
def wL(w:Int→Nat)(l:Ad):Nat:=(l.map w).sum
theorem Dy{w:Int→Nat}{c:Int}{l:Ad}:wL w (c::l)=w c+wL w l:=by simp [wL]
theorem c5U{w:Int→Nat}{l m:Ad}:wL w (l++m)=wL w l+wL w m:=by simp [wL]
theorem Ym{w:Int→Nat}{l:Ad}(h:stp rd w f (c::l)):stp rd w f l:=fun d hd=>h d (by simp [hd])
theorem b1D{rd:Bool}{w:Int→Nat}{f:Int→Int→Bs→Bs}{r g inner:Int}:∀ {l:Ad} {first:Bool} {s:Bs},stp rd w f l→
 bLe rd (2*l.length+wL w l) s (itL f r g inner l first s)∧(bOk s→bOk (itL f r g inner l first s))
 |[],first,s,h=>⟨Ds Im (by simp),id⟩
 |c::l,first,s,h=>by
  have h1:bLe rd 2 s (if first then s else AZ r g true inner (As [44] s))∧(bOk s→bOk (if first then s else AZ r g true inner (As [44] s))):=by
   split
   ·exact⟨Ds Im (by omega),id⟩
   ·exact⟨CF (m:=1) (n:=1) (Ga (t:=[44])) Ja,fun ho=>JV (Gb ho)⟩
  have h2:=h c (by simp) inner (if first then s else AZ r g true inner (As [44] s))
  have h3:=b1D (r:=r) (g:=g) (inner:=inner) (first:=false) (s:=f c inner (if first then s else AZ r g true inner (As [44] s))) (Ym h)
  rw[itL]
  exact⟨Ds (CF (CF h1.1 h2.1) h3.1) (by rw[Dy,AE];omega),fun ho=>h3.2 (h2.2 (h1.2 ho))⟩
theorem b1E{w:Int→Nat}{op en:Aa}{ks:Ad}{a:Int}{s:Bs}(h:stp rd w f ks)(ho:op.length≤1)(he:en.length≤1)(hk:ks.length≤12):
 bLe rd (28+wL w ks) s (FF rd f op ks en a s)∧(bOk s→bOk (FF rd f op ks en a s)):=by
 unfold FF
 split
 ·exact⟨Ds (CF Ga Ga) (by omega),fun h=>Gb (Gb h)⟩
 ·have h3:=b1D (r:=AP rd (As op s)) (g:=min ks.length 2) (inner:=up4 a) (first:=true) (s:=AZ (AP rd (As op s)) 1 false (up4 a) (Bx rd (min ks.length 2+1) 1 (As op s))) h
  refine⟨Ds (CF (CF (CF (CF (CF Ga PC) Ja) h3.1) Ja) Ga) (by omega),fun hh=>Gb (JV (h3.2 (JV (Si (Gb hh)))))⟩
theorem b1F{w:Int→Nat}{inner:Int}{s:Bs}(h:∀a s,bLe rd (w c) s (f c a s)∧(bOk s→bOk (f c a s))):
 bLe rd (w c) s (KI ns f r inner c s)∧(bOk s→bOk (KI ns f r inner c s)):=by
 have h1:=h inner s
 have h2:bLe rd (w c) s (if Ai ns c=7 then DY (Es s.rules.length (f c inner s)) r (f c inner s) else f c inner s)∧(bOk s→bOk (if Ai ns c=7 then DY (Es s.rules.length (f c inner s)) r (f c inner s) else f c inner s)):=by
  split
  ·exact⟨CF (n:=0) h1.1 a3T,fun ho=>a3U (h1.2 ho)⟩
  ·exact h1
 unfold KI
 simp only
 split
 ·exact h2
 ·exact⟨CF (n:=0) h2.1 c5S,fun ho=>c5T (h2.2 ho)⟩
theorem a3V{rd:Bool}{w:Int→Nat}{ns:List Nd}{f:Int→Int→Bs→Bs}{r inner:Int}{t:Aa}(ht:t.length≤2):∀ {l:Ad} {first:Bool} {s:Bs},stp rd w f l→
 bLe rd (4*l.length+wL w l) s (chL ns f r inner t l first s)∧(bOk s→bOk (chL ns f r inner t l first s))
 |[],first,s,h=>⟨Ds Im (by simp),id⟩
 |c::l,first,s,h=>by
  have h1:bLe rd 4 s (if first then s else AZ r 1 true inner (As (32::t) s))∧(bOk s→bOk (if first then s else AZ r 1 true inner (As (32::t) s))):=by
   split
   ·exact⟨Ds Im (by omega),id⟩
   ·exact⟨Ds (CF (n:=1) Ga Ja) (by simp;omega),fun ho=>JV (Gb ho)⟩
  have h2:=b1F (ns:=ns) (r:=r) (inner:=inner) (s:=if first then s else AZ r 1 true inner (As (32::t) s)) (h c (by simp))
  have h3:=a3V (ns:=ns) (r:=r) (inner:=inner) ht (first:=false) (s:=KI ns f r inner c (if first then s else AZ r 1 true inner (As (32::t) s))) (Ym h)
  rw[chL]
  exact⟨Ds (CF (CF h1.1 h2.1) h3.1) (by rw[Dy,AE];omega),fun ho=>h3.2 (h2.2 (h1.2 ho))⟩
theorem b1G{w:Int→Nat}{inner:Int}{s:Bs}(h:∀a s,bLe rd (w c) s (f c a s)∧(bOk s→bOk (f c a s))):
 bLe rd (w c) s (KJ ns f r inner c s)∧(bOk s→bOk (KJ ns f r inner c s)):=by
 have h1:=h inner s
 unfold KJ
 split
 ·exact⟨CF (n:=0) h1.1 a3T,fun ho=>a3U (h1.2 ho)⟩
 ·exact h1
theorem a3W{i:Int}:(pkT i).length≤2:=by
 unfold pkT;split
 ·simp
 ·split<;>simp
theorem a3X{rd:Bool}{w:Int→Nat}{ns:List Nd}{f:Int→Int→Bs→Bs}{r inner:Int}:∀ {l:Ad} {i:Int} {s:Bs},stp rd w f l→
 bLe rd (3*l.length+wL w l) s (pkL ns f r inner l i s)∧(bOk s→bOk (pkL ns f r inner l i s))
 |[],i,s,h=>⟨Ds Im (by simp),id⟩
 |c::l,i,s,h=>by
  have h1:bLe rd 3 s (if i=0 then s else As (pkT i) (AZ r 1 true inner s))∧(bOk s→bOk (if i=0 then s else As (pkT i) (AZ r 1 true inner s))):=by
   split
   ·exact⟨Ds Im (by omega),id⟩
   ·exact⟨Ds (CF (m:=1) Ja Ga) (by have:= @a3W i;omega),fun ho=>Gb (JV ho)⟩
  have h2:=b1G (ns:=ns) (r:=r) (inner:=inner) (s:=if i=0 then s else As (pkT i) (AZ r 1 true inner s)) (h c (by simp))
  have h3:=a3X (ns:=ns) (r:=r) (inner:=inner) (i:=i+1) (s:=KJ ns f r inner c (if i=0 then s else As (pkT i) (AZ r 1 true inner s))) (Ym h)
  rw[pkL]
  exact⟨Ds (CF (CF h1.1 h2.1) h3.1) (by rw[Dy,AE];omega),fun ho=>h3.2 (h2.2 (h1.2 ho))⟩
theorem b1H{rd:Bool}{w:Int→Nat}{f:Int→Int→Bs→Bs}{r inner:Int}:∀ {l:Ad} {s:Bs},stp rd w f l→
 bLe rd (3*l.length+wL w l) s (caL f r inner l s)∧(bOk s→bOk (caL f r inner l s))
 |[],s,h=>⟨Ds Im (by simp),id⟩
 |c::l,s,h=>by
  have h1:bLe rd 3 s (As [46,46] (AZ r 1 false inner s))∧(bOk s→bOk (As [46,46] (AZ r 1 false inner s))):=
   ⟨Ds (CF (m:=1) Ja Ga) (by simp),fun ho=>Gb (JV ho)⟩
  have h2:=h c (by simp) inner (As [46,46] (AZ r 1 false inner s))
  have h3:=b1H (r:=r) (inner:=inner) (s:=f c inner (As [46,46] (AZ r 1 false inner s))) (Ym h)
  rw[caL]
  exact⟨Ds (CF (CF h1.1 h2.1) h3.1) (by rw[Dy,AE];omega),fun ho=>h3.2 (h2.2 (h1.2 ho))⟩
def tW(ns:List Nd):Nat→Int→Nat
 |0,_=>0
 |n+1,k=>(Ab ns k).text.length+80+wL (tW ns n) (Ab ns k).kids
theorem b1I:(Ab ns k).text.length≤tW ns (n+1) k:=by rw[tW];omega
theorem Sj{ns:List Nd}{w:Int→Nat}:∀ {l:Ad} {first:Bool},(∀c∈l,(Ab ns c).text.length≤w c)→(Fg ns l first).length≤2*l.length+wL w l
 |[],_,_=>by simp [Fg]
 |c::l,first,h=>by
  have h1:=Sj (l:=l) (first:=false) fun d hd=>h d (by simp [hd])
  have h2:=h c (by simp)
  rw[Fg,Dy,AE,Ba,Ba]
  split<;>simp<;>omega
theorem DN{x:Nd}{i:Nat}(h:i<x.kids.length):kd x i∈x.kids:=by
 have e:x.kids[i]? =some x.kids[i]:=DS h
 rw[Dw e];exact List.getElem_mem h
theorem Sk{w:Int→Nat}{c:Int}:∀ {l:Ad},c∈l→w c≤wL w l
 |[],h=>by cases h
 |d::l,h=>by
  rw[Dy]
  rcases EX.1 h with rfl|h
  ·omega
  ·have:=Sk (w:=w) h;omega
theorem a3Y{w:Int→Nat}{x:Nd}(h:0<x.kids.length):w (kd x 0)+wL w (x.kids.drop 1)=wL w x.kids:=by
 obtain⟨k,t,ks,b⟩:=x
 match ks,h with
 |c::l,_=>simp [kd,wL]
theorem US{w:Int→Nat}{x:Nd}(h:0<x.kids.length):wL w (x.kids.take (x.kids.length-1))+w (kd x (x.kids.length-1))=wL w x.kids:=by
 have e:x.kids.drop (x.kids.length-1)=[kd x (x.kids.length-1)]:=by
  have hi:x.kids.length-1<x.kids.length:=by omega
  rw[Gh hi,EG (by omega),Dw (DS hi)]
 have:=c5U (w:=w) (l:=x.kids.take (x.kids.length-1)) (m:=x.kids.drop (x.kids.length-1))
 rw[Fw,e] at this
 rw[this];simp [wL]
theorem c5V{w:Int→Nat}{x:Nd}{a:Int}{s:Bs}(h:stp rd w f x.kids)(hk:x.kids.length≤12)(hlo:(Ci x.kind).1≤x.kids.length)(hv:Bg x.kind=true)
 (hn:∀c∈x.kids,(Ab ns c).text.length≤w c) (h7:x.kind=7→x.text.length≤2):
 bLe rd (x.text.length+80+wL w x.kids) s (bV1 ns rd f x a s)∧(bOk s→bOk (bV1 ns rd f x a s)):=by
 have hv:=Cm.1 hv
 have hpos:x.kind≠1→x.kind≠2→x.kind≠3→x.kind≠4→0<x.kids.length:=by
  intro h1 h2 h3 h4
  unfold Ci at hlo
  split at hlo
  ·omega
  ·split at hlo
   ·simp only at hlo;omega
   ·split at hlo
    ·simp only at hlo;omega
    ·split at hlo
     ·simp only at hlo;omega
     ·split at hlo
      ·simp only at hlo;omega
      ·omega
 unfold bV1
 split
 ·exact⟨Ds Ga (by omega),Gb⟩
 rename_i n1
 split
 ·rename_i hk
  have hm:=DN (hpos (by omega) (by omega) (by omega) (by omega))
  have h1:=h _ hm a (As [40] s)
  have:=Sk (w:=w) hm
  exact⟨Ds (CF (CF Ga h1.1) Ga) (by simp;omega),fun ho=>Gb (h1.2 (Gb ho))⟩
 split
 ·have hm:=DN (hpos (by omega) (by omega) (by omega) (by omega))
  have h1:=h _ hm a s
  have:=Sk (w:=w) hm
  exact⟨Ds (CF h1.1 Ga) (by simp;omega),fun ho=>Gb (h1.2 ho)⟩
 split
 ·have h1:=b1E (op:=[91]) (en:=[93]) (a:=a) (s:=s) h (by simp) (by simp) hk
  exact⟨Ds h1.1 (by omega),h1.2⟩
 split
 ·have hp:=hpos (by omega) (by omega) (by omega) (by omega)
  have h1:=h _ (DN hp) a s
  have h2:=b1E (rd:=rd) (w:=w) (f:=f) (ks:=x.kids.drop 1) (op:=[40]) (en:=[41]) (a:=a) (s:=f (kd x 0) a s) (fun c hc=>h c (Iw hc)) (by simp) (by simp) (by rw[GW];omega)
  have:=a3Y (w:=w) hp
  exact⟨Ds (CF h1.1 h2.1) (by omega),fun ho=>h2.2 (h1.2 ho)⟩
 split
 ·have h1:=a3V (ns:=ns) (r:=AP rd s) (inner:=up4 a) (t:=x.text) (h7 ‹_›) (first:=true) (s:=Bx rd 2 1 s) h
  exact⟨Ds (CF (m:=0) PC h1.1) (by omega),fun ho=>h1.2 (Si ho)⟩
 split
 ·have h1:=a3X (ns:=ns) (r:=AP rd s) (inner:=up4 a) (i:=0) (s:=Bx rd 2 1 s) h
  exact⟨Ds (CF (m:=0) PC h1.1) (by omega),fun ho=>h1.2 (Si ho)⟩
 split
 ·have hp:=hpos (by omega) (by omega) (by omega) (by omega)
  have h1:=h _ (DN (x:=x) (i:=x.kids.length-1) (by omega)) (up4 a) (AZ (AP rd (As (ET ns x++[32,61,62]) s)) 1 true (up4 a) (Bx rd 2 2 (As (ET ns x++[32,61,62]) s)))
  have h2:=Sj (ns:=ns) (w:=w) (l:=x.kids.take (x.kids.length-1)) (first:=true) fun c hc=>hn c (GX hc)
  have h3:=US (w:=w) hp
  have h4:(x.kids.take (x.kids.length-1)).length≤12:=by rw[DU];omega
  refine⟨Ds (CF (CF (CF (n:=0) Ga PC) Ja) h1.1) ?_,fun ho=>h1.2 (JV (Si (Gb ho)))⟩
  simp only[ET,Ba,AE,AX];omega
 ·have hp:=hpos (by omega) (by omega) (by omega) (by omega)
  have h1:=h _ (DN hp) a (Bx rd 2 1 s)
  have h2:=b1H (rd:=rd) (w:=w) (f:=f) (r:=AP rd s) (inner:=up4 a) (l:=x.kids.drop 1) (s:=f (kd x 0) a (Bx rd 2 1 s)) fun c hc=>h c (Iw hc)
  have:=a3Y (w:=w) hp
  have h4:(x.kids.drop 1).length≤12:=by rw[GW];omega
  exact⟨Ds (CF (CF (m:=0) PC h1.1) h2.1) (by omega),fun ho=>h2.2 (h1.2 (Si ho))⟩
theorem a3Z{l:Ad}(h:(l.map (Ai ns)).all Bg=true):∀c∈l,Bg (Ai ns c)=true:=by
 intro c hc
 rw[CC] at h
 exact h _ (Iu.2 ⟨c,hc,rfl⟩)
theorem c5W(h:JI k=true):Bg k=true:=by
 simp [JI] at h;subst h;rfl
theorem c5X(h:Nz k=true):Bg k=true:=by
 simp [Nz] at h;subst h;rfl
theorem b1J{x:Nd}(h:HB x.kind (x.kids.map (Ai ns))=true)(hv:Bg x.kind=true):∀c∈x.kids,Bg (Ai ns c)=true:=by
 have hv:=Cm.1 hv
 have hc:x.kind=1∨x.kind=2∨x.kind=3∨x.kind=4∨x.kind=5∨x.kind=6∨x.kind=7∨x.kind=8∨x.kind=9∨x.kind=10∨x.kind=11:=by omega
 have h0:∀l:Ad,l.length=0→∀c∈l,Bg (Ai ns c)=true:=fun l hl c hc=>by
  have:=Qv hl;subst this;cases hc
 have ha:∀(p:Bool),(p&&(x.kids.map (Ai ns)).all Bg)=true→∀c∈x.kids,Bg (Ai ns c)=true:=fun p hp=>by
  rw[AY] at hp;exact a3Z hp.2
 have e1:∀k:Int,x.kind=k→HB k (x.kids.map (Ai ns))=true:=fun k e=>by rw[←e];exact h
 rcases hc with e|e|e|e|e|e|e|e|e|e|e
 ·have h:=e1 _ e
  simp only[HB,true_or,or_true,BN,Bf,Fv] at h
  exact h0 _ h
 ·have h:=e1 _ e
  simp only[HB,true_or,or_true,BN,Bf,Fv] at h
  exact h0 _ h
 ·have h:=e1 _ e
  simp only[HB,true_or,or_true,BN,Bf,Fv] at h
  exact h0 _ h
 ·exact a3Z (e1 _ e)
 ·exact ha _ (e1 _ e)
 ·exact ha _ (e1 _ e)
 ·exact ha _ (e1 _ e)
 ·exact ha _ (e1 _ e)
 ·have h:JJ Bg (x.kids.map (Ai ns))=true:=e1 _ e
  unfold JJ at h
  split at h
  ·rename_i k hk
   rw[AY,CC] at h
   intro c hc
   have hm:Ai ns c∈x.kids.map (Ai ns):=Iu.2 ⟨c,hc,rfl⟩
   rw[a8J hk] at hm
   rcases FK.1 hm with hm|hm
   ·exact c5W (h.2 _ hm)
   ·simp at hm;rw[hm];exact h.1
  ·cases h
 ·have h:(decide (2≤(x.kids.map (Ai ns)).length)&&(Bg ((x.kids.map (Ai ns)).headD 0)&&((x.kids.map (Ai ns)).drop 1).all Nz))=true:=e1 _ e
  simp only[AY,CC] at h
  intro c hc
  match hx:x.kids with
  |[]=>rw[hx] at hc;cases hc
  |d::l=>
   rw[hx] at h hc
   simp only[En,Nb,Na,GU] at h
   rcases EX.1 hc with rfl|hc
   ·exact h.2.1
   ·exact c5X (h.2.2 _ (Iu.2 ⟨c,hc,rfl⟩))
 ·exact ha _ (e1 _ e)
theorem Sl(h:BB ns k)(hv:Bg (Ai ns k)=true)(hc:c∈(Ab ns k).kids):Bg (Ai ns c)=true:=
 b1J (CU (DE h)).2.2.2.2.2.1 hv c hc
theorem b1K(h:HV s=true):s.length≤2:=by
 simp only[HV,CG,DB] at h
 rcases h with rfl|rfl|rfl|rfl|rfl|rfl|rfl<;>simp
theorem a4a(h:BB ns k)(hk:(Ab ns k).kind=7):(Ab ns k).text.length≤2:=by
 have:=(CU (DE h)).2.2.1
 rw[hk] at this
 exact b1K (by simpa [Fz] using this)
theorem PD{ns:List Nd}{rd:Bool}:∀ {n:Nat} {k a:Int} {s:Bs},BB ns k→k<n→Bg (Ai ns k)=true→bLe rd (tW ns n k) s (bV ns rd n k a s)∧(bOk s→bOk (bV ns rd n k a s))
 |0,k,a,s,h,hk,_=>by have:=BF.1 h.1;omega
 |n+1,k,a,s,h,hk,hv=>by
  rw[bV,tW]
  refine c5V (fun c hc a s=> ?_) (CU (DE h)).2.1 (GN h).2.1 hv (fun c hc=> ?_) (a4a h)
  ·have hm:=CQ h hc
   exact PD hm.1 (by omega) (Sl h hv hc)
  ·have hm:=CQ h hc
   have hr:=BF.1 h.1
   have:n=(n-1)+1:=by omega
   rw[this];exact b1I
theorem c5Y(h:BB ns k)(hk:k<(n+1:Nat))(hv:Bg (Ai ns k)=true){l:Ad}(hl:∀c∈l,c∈(Ab ns k).kids):stp rd (tW ns n) (bV ns rd n) l:=by
 intro c hc a s
 have hm:=CQ h (hl c hc)
 exact PD hm.1 (by omega) (Sl h hv (hl c hc))
theorem b1L{ds:Ad}:∀ {l:Ad} {d c:Int},c∈l→ds.getD c.toNat 0≤mx ds l d
 |[],_,_,h=>by cases h
 |e::l,d,c,h=>by
  rw[mx]
  rcases EX.1 h with rfl|h
  ·have:=WB ds l (max d (ds.getD c.toNat 0));omega
  ·exact b1L h
theorem a4b{l m:Ad}{i:Nat}(h:i<l.length):(l++m).getD i 0=l.getD i 0:=by
 simp [List.getD,Le h]
theorem NY{ns:List Nd}:∀ {n:Nat} {ds:Ad},Da ns n=some ds→∀i:Nat,i<n→(1≤ds.getD i 0∧ds.getD i 0≤14)∧∀c∈(Ab ns i).kids,ds.getD c.toNat 0+1≤ds.getD i 0
 |0,_,_,i,hi=>by omega
 |n+1,ds,h,i,hi=>by
  have hall:=TZ h
  have hlen:=TY h
  have h0:1≤ds.getD i 0∧ds.getD i 0≤14:=by
   have:ds[i]? =some ds[i]:=by simp
   simp only[List.getD,this,LT]
   exact hall _ (by simp)
  refine⟨h0,?_⟩
  unfold Da at h
  split at h
  ·cases h
  ·rename_i ds' hd
   have hl:=TY hd
   split at h
   ·rename_i hok
    split at h
    ·cases h
    ·simp at h
     have hp:=(CU hok).2.2.2.1
     by_cases e:i=n
     ·subst e
      intro c hc
      have hcr:=hp c hc
      rw[←h,a4b (by omega)]
      have:(ds'++[mx ds' (Ab ns i).kids 0+1]).getD i 0=mx ds' (Ab ns i).kids 0+1:=by
       simp [List.getD,LQ,hl]
      rw[this]
      have:= @b1L ds' (Ab ns i).kids 0 c hc
      omega
     ·intro c hc
      have hi2:i<n:=by omega
      have hcr:=(CU (a1R hd i hi2)).2.2.2.1 c hc
      rw[←h,a4b (by omega),a4b (by omega)]
      exact(NY hd i hi2).2 c hc
   ·cases h
def txS(ns:List Nd):Nat:=((List.range ns.length).map fun i:Nat=>(Ab ns i).text.length).sum
theorem b1M{V:Ad}(hn:V.Nodup)(h:∀p∈V,0≤p∧p<ns.length):(V.map fun c=>(Ab ns c).text.length).sum≤txS ns:=Ul _ _ V hn h
theorem b1N(h:0≤k∧k<ns.length):(Ab ns k).text.length≤txS ns:=by
 have:=b1M (ns:=ns) (V:=[k]) (by simp) (by simpa using h)
 simpa using this
theorem Yn(h:DK s=true):s.length≤30:=by
 simp only[DK,AY] at h
 have:=h.1
 rw[a1Y] at this
 cases s with
 |nil=>simp
 |cons c t=>
  simp only[AY,Bf] at this
  omega
theorem c5Z(h:BB ns k)(hv:Bg (Ai ns k)=true)(h4:4≤Ai ns k):(Ab ns k).text.length≤30:=by
 have ht:=(CU (DE h)).2.2.1
 have hv:=Cm.1 hv
 unfold Ai at hv h4
 unfold Fz at ht
 split at ht
 ·exact Yn ht
 split at ht
 ·omega
 split at ht
 ·omega
 split at ht
 ·omega
 split at ht
 ·have:=b1K ht;omega
 ·simp at ht;simp [ht]
theorem c6a(h:BB ns k)(hv:Bg (Ai ns k)=true)(h4:¬4≤Ai ns k):(Ab ns k).kids=[]:=by
 have hs:=(GN h).2.2
 have hv:=Cm.1 hv
 unfold Ai at hv h4
 have:(Ci (Ab ns k).kind).2=0:=by
  have:(Ab ns k).kind=1∨(Ab ns k).kind=2∨(Ab ns k).kind=3:=by omega
  rcases this with e|e|e<;>rw[e]<;>rfl
 rw[this] at hs
 exact Qv (by omega)
theorem Sm{w:Int→Nat}{b:Nat}:∀ {l:Ad},(∀c∈l,w c≤b)→wL w l≤l.length*b
 |[],_=>by simp [wL]
 |c::l,h=>by
  have h1:=h c (by simp)
  have h2:=Sm (w:=w) (l:=l) fun d hd=>h d (by simp [hd])
  rw[Dy,AE,Hs];omega
theorem a4c{ns:List Nd}{K:Nat}{ds:Ad}(hd:Da ns K=some ds):∀ {n:Nat} {k:Int} (d:Nat),BB ns k→k<n→k<K→Bg (Ai ns k)=true→ds.getD k.toNat 0≤d→
 (d≤1→tW ns n k≤(Ab ns k).text.length+80)∧(2≤d→tW ns n k+10≤12^(d-2)*(txS ns+1200))
 |0,k,d,h,hk,_,_,_=>by have:=BF.1 h.1;omega
 |n+1,k,d,h,hk,hK,hv,hle=>by
  have hr:=BF.1 h.1
  have hat:=NY hd k.toNat (by omega)
  rw[show((k.toNat:Nat):Int)=k by omega] at hat
  have hkid:∀c∈(Ab ns k).kids,BB ns c∧(0≤c∧c<k)∧Bg (Ai ns c)=true∧ds.getD c.toNat 0≤(d-1:Nat)∧1≤ds.getD c.toNat 0:=by
   intro c hc
   have hm:=CQ h hc
   have h1:=hat.2 c hc
   have h2:=(NY hd c.toNat (by omega)).1
   exact⟨hm.1,hm.2,Sl h hv hc,by omega,by omega⟩
  have hlen:=(CU (DE h)).2.1
  have hT:=b1N hr
  refine⟨fun h1=> ?_,fun h2=> ?_⟩
  ·have:(Ab ns k).kids=[]:=by
    match hx:(Ab ns k).kids with
    |[]=>rfl
    |c::l=>
     have:=hkid c (by rw[hx];simp)
     omega
   rw[tW,this];simp [wL]
  ·by_cases h4:4≤Ai ns k
   ·have ht:=c5Z h hv h4
    by_cases e:d=2
    ·subst e
     have h3:∀l:Ad,(∀c∈l,c∈(Ab ns k).kids)→wL (tW ns n) l≤(l.map fun c=>(Ab ns c).text.length).sum+l.length*80:=by
      intro l
      induction l with
      |nil=>intro _;simp [wL]
      |cons c l ih=>
       intro hl
       have hc:=hkid c (hl c (by simp))
       have h5:=(a4c hd (n:=n) (k:=c) 1 hc.1 (by omega) (by omega) hc.2.2.1 (by omega)).1 (by omega)
       have h6:=ih fun e he=>hl e (by simp [he])
       rw[Dy,En,Lg,AE];omega
     have h7:=h3 _ (fun c hc=>hc)
     have h8:=b1M (ns:=ns) (CU (DE h)).2.2.2.2.1 (fun c hc=>by have:=(hkid c hc).2.1;omega)
     rw[tW]
     have:12^(2-2)=1:=rfl
     rw[this];omega
    ·have h3:∀c∈(Ab ns k).kids,tW ns n c≤12^(d-1-2)*(txS ns+1200)-10:=by
      intro c hc
      have hc':=hkid c hc
      have h5:=(a4c hd (n:=n) (k:=c) (d-1) hc'.1 (by omega) (by omega) hc'.2.2.1 (by omega)).2 (by omega)
      omega
     have h5:=Sm h3
     have h6:(Ab ns k).kids.length*(12^(d-1-2)*(txS ns+1200)-10)≤12*(12^(d-1-2)*(txS ns+1200)-10):=Ki _ hlen
     have h7:12^(d-2)*(txS ns+1200)=12*(12^(d-1-2)*(txS ns+1200)):=by
      rw[show d-2=(d-1-2)+1 by omega,Nat.pow_succ,Nat.mul_comm (12^(d-1-2)) 12,Nat.mul_assoc]
     have h8:1200≤12^(d-1-2)*(txS ns+1200):=by
      have:1≤12^(d-1-2):=Nat.one_le_pow _ _ (by omega)
      calc 1200≤1*(txS ns+1200):=by omega
       _≤_:=Ki _ this
     rw[tW,h7];omega
   ·rw[tW,c6a h hv h4]
    have:1≤12^(d-2):=Nat.one_le_pow _ _ (by omega)
    have h9:txS ns+1200≤12^(d-2)*(txS ns+1200):=by
     calc txS ns+1200=1*(txS ns+1200):=by omega
      _≤_:=Ki _ this
    simp [wL];omega
theorem c6b{K:Nat}{ds:Ad}(hd:Da ns K=some ds)(h:BB ns k)(hk:k<n)(hK:k<K)(hv:Bg (Ai ns k)=true)(hle:ds.getD k.toNat 0≤13)(hT:txS ns≤1048576):
 tW ns n k≤1000000000000000000:=by
 have h1:=(a4c hd (n:=n) (k:=k) 13 h hk hK hv (by omega)).2 (by omega)
 have h2:12^(13-2)*(txS ns+1200)≤12^(13-2)*(1048576+1200):=Nat.mul_le_mul_left _ (by omega)
 have h3:12^(13-2)*(1048576+1200)≤1000000000000000000:=by decide
 omega
def ru0:Ru:=⟨0,0⟩
def ch0:Ch:=⟨[],0,0,false,0⟩
def DH(p:Pc)(i:Int):Ru:=p.rules.getD i.toNat ru0
def JW(r:Ru):Bool:=inn r.vals 2 3&&inn r.cost 0 9
def HN(p:Pc)(c:Ch):Bool:=inn c.rule 0 ((p.rules.length:Int)-1)&&(inn c.fr 1 ((DH p c.rule).vals-1)&&inn c.nest 0 40)
def BI(s:Aa):Bool:=s.all BV
def GB(p:Pc):List Ch→Bool
 |[]=>true
 |[c]=>BI c.text
 |c::d::l=>BI c.text&&(HN p c&&GB p (d::l))
def UT(c:Ch):Bool:=decide (c.rule=0)&&(decide (c.fr=0)&&(c.space==false&&decide (c.nest=0)))
def Hn(p:Pc)(s:Sn):Bool:=(decide (0≤s.fr)&&decide (s.fr≤s.tuu))&&(decide (s.tuu<(p.chunks.length:Int)-1)&&inn s.cost 0 9)
def MJ(p:Pc)(t:Ti):Bool:=inn t.kid 0 ((p.rules.length:Int)-1)&&(inn t.up 0 ((p.rules.length:Int)-1)&& !decide (t.kid=t.up))
def Lv(p:Pc):Bool:=decide (p.rules.length≤8)&&p.rules.all JW
def Jb(p:Pc):Bool:=inn p.chunks.length 1 80&&(GB p p.chunks&&UT (p.chunks.getLast?.getD ch0))
def CY(p:Pc):Bool:=
 inn p.ind 0 60&&(Lv p&&(Jb p&&((decide (p.spans.length≤40)&&decide (p.ties.length≤20))&&(p.spans.all (Hn p)&&p.ties.all (MJ p)))))
theorem c6c{c:Ch}{l:List Ch}:GB p (c::l)=(BI c.text&&((l.isEmpty||HN p c)&&GB p l)):=by
 cases l<;>simp [GB]
structure pcOk (p:Pc):Prop where
 ind:0≤p.ind∧p.ind≤60
 rl:p.rules.length≤8
 ru:∀r∈p.rules,(2≤r.vals∧r.vals≤3)∧0≤r.cost∧r.cost≤9
 cl:1≤p.chunks.length∧p.chunks.length≤80
 sp:∀(i:Nat) c,p.chunks[i]? =some c→i+1<p.chunks.length→(0≤c.rule∧c.rule<p.rules.length)∧(1≤c.fr∧c.fr<(DH p c.rule).vals)∧0≤c.nest∧c.nest≤40
 snl:p.spans.length≤40
 til:p.ties.length≤20
 sn:∀s∈p.spans,(0≤s.fr∧s.fr≤s.tuu∧s.tuu<(p.chunks.length:Int)-1)∧0≤s.cost∧s.cost≤9
 ti:∀t∈p.ties,(0≤t.kid∧t.kid<p.rules.length)∧0≤t.up∧t.up<p.rules.length
theorem Yo{p:Pc}:∀ {l:List Ch},GB p l=true→∀(i:Nat) c,l[i]? =some c→BI c.text=true∧(i+1<l.length→HN p c=true)
 |[],_,i,c,hi=>by simp at hi
 |[d],h,i,c,hi=>by
  match i,hi with
  |0,hi=>simp at hi;subst hi;exact⟨h,fun hl=>by simp at hl⟩
 |d::e::l,h,0,c,hi=>by
  simp only[GB,AY] at h
  simp at hi;subst hi;exact⟨h.1,fun _=>h.2.1⟩
 |d::e::l,h,i+1,c,hi=>by
  simp only[GB,AY] at h
  have:=Yo h.2.2 i c (by simpa using hi)
  exact⟨this.1,fun hl=>this.2 (by simpa using hl)⟩
theorem b1O{p:Pc}:∀ {l:List Ch},GB p l=true↔∀(i:Nat) c,l[i]? =some c→BI c.text=true∧(i+1<l.length→HN p c=true)
 |[]=>by simp [GB]
 |[d]=>by
  refine⟨Yo,fun h=>(h 0 d rfl).1⟩
 |d::e::l=>by
  refine⟨Yo,fun h=> ?_⟩
  simp only[GB,AY]
  have h0:=h 0 d rfl
  refine⟨h0.1,h0.2 (by simp),b1O.2 fun i c hi=> ?_⟩
  have:=h (i+1) c (by simpa using hi)
  exact⟨this.1,fun hl=>this.2 (by simpa using hl)⟩
theorem JX(h:CY p=true):pcOk p:=by
 simp only[CY,Lv,Jb,AY,Bf,CC] at h
 obtain⟨h1,⟨h2,h3⟩,⟨h4,h5,h6⟩,⟨h7,h8⟩,h9,h10⟩:=h
 have h4:=Cm.1 h4
 refine⟨Cm.1 h1,h2,fun r hr=> ?_,by omega,fun i c hi hl=> ?_,h7,h8,fun s hs=> ?_,fun t ht=> ?_⟩
 ·have:=h3 r hr
  simp only[JW,AY] at this
  exact⟨Cm.1 this.1,Cm.1 this.2⟩
 ·have:=(Yo h5 i c hi).2 hl
  simp only[HN,AY] at this
  have a:=Cm.1 this.1;have b:=Cm.1 this.2.1;have c:=Cm.1 this.2.2
  exact⟨by omega,by omega,c⟩
 ·have:=h9 s hs
  simp only[Hn,AY,Bf] at this
  exact⟨⟨this.1.1,this.1.2,this.2.1⟩,Cm.1 this.2.2⟩
 ·have:=h10 t ht
  simp only[MJ,AY] at this
  have a:=Cm.1 this.1;have b:=Cm.1 this.2.1
  exact⟨by omega,by omega⟩
def vAt(v:Ad)(i:Int):Int:=v.getD i.toNat 0
def vOk(p:Pc)(v:Ad):Prop:=v.length≤p.rules.length∧∀(i:Nat) n,v[i]? =some n→0≤n∧n<(DH p i).vals
def CZ(v:Ad)(c:Ch):Bool:=decide (c.fr≤vAt v c.rule)
def blk(n:Int):Aa:=List.replicate n.toNat 32
def rnL(ind:Int)(v:Ad):List Ch→Aa→List Aa
 |[],s=>[s]
 |[c],s=>[s++c.text]
 |c::d::l,s=>if CZ v c then(s++c.text)::rnL ind v (d::l) (blk (ind+c.nest)) else rnL ind v (d::l) (s++c.text++(if c.space then [32] else []))
def EC(p:Pc)(v:Ad):List Aa:=rnL p.ind v p.chunks (blk p.ind)
def ovL(w:Int)(l:List Aa):Int:=(l.map fun s=>max ((s.length:Int)-w) 0).sum
def wdF(w:Int):Int:=max 0 (min w 100000)
def Lw(p:Pc)(v:Ad)(c:Ch):Bool:=decide (c.rule<v.length)&&CZ v c
def snS(p:Pc)(v:Ad)(s:Sn):Bool:=((p.chunks.take (s.tuu+1).toNat).drop s.fr.toNat).any (Lw p v)
def ruS(p:Pc)(v:Ad):Int:=(v.zipIdx.map fun q=>q.1*(DH p q.2).cost).sum
def El(p:Pc)(v:Ad):Int:=ruS p v+(p.spans.map fun s=>if snS p v s then s.cost else 0).sum
structure Co where
 over:Int
 sum:Int
def DP(p:Pc)(v:Ad)(w:Int):Co:=⟨ovL (wdF w) (EC p v),El p v⟩
def PE(a b:Co):Bool:=decide (a.over<b.over)||(decide (a.over=b.over)&&decide (a.sum<b.sum))
def Fa:Ad→Ad→Int
 |[],[]=>0
 |[],_::_=> -1
 |_::_,[]=>1
 |a::l,b::m=>if a<b then-1 else if b<a then 1 else Fa l m
def Ip(p:Pc):Ad:=p.rules.map fun r=>r.vals-1
def Jc(v:Ad)(t:Ti):Bool:= !((inn t.kid 0 ((v.length:Int)-1)&&inn t.up 0 ((v.length:Int)-1))&&(decide (0<vAt v t.kid)&&decide (vAt v t.up=0)))
def UU(p:Pc)(v:Ad):Bool:=p.ties.all (Jc v)
def lnS(l:List Aa):Nat:=(l.map List.length).sum
theorem a4d{ind:Int}{v:Ad}(h0:0≤ind∧ind≤60):∀ {l:List Ch} {s:Aa},(∀(i:Nat) c,l[i]? =some c→i+1<l.length→0≤c.nest∧c.nest≤40)→
 lnS (rnL ind v l s)≤s.length+CB l+101*l.length∧(rnL ind v l s).length≤l.length+1
 |[],s,_=>by simp [rnL,lnS,CB]
 |[c],s,_=>by simp [rnL,lnS,CB]
 |c::d::l,s,h=>by
  have hn:=h 0 c rfl (by simp)
  have h':∀(i:Nat) e,(d::l)[i]? =some e→i+1<(d::l).length→0≤e.nest∧e.nest≤40:=fun i e hi hl=>h (i+1) e (by simpa using hi) (by simpa using hl)
  have hc:CB (c::d::l)=c.text.length+CB (d::l):=by simp [CB]
  rw[rnL]
  split
  ·have h1:=a4d (v:=v) h0 (s:=blk (ind+c.nest)) h'
   have hb:(blk (ind+c.nest)).length≤100:=by simp [blk];omega
   have e:lnS ((s++c.text)::rnL ind v (d::l) (blk (ind+c.nest)))=s.length+c.text.length+lnS (rnL ind v (d::l) (blk (ind+c.nest))):=by simp [lnS]
   rw[e,hc]
   simp only[AE] at*
   omega
  ·have h1:=a4d (v:=v) h0 (s:=s++c.text++(if c.space then [32] else [])) h'
   have hb:(if c.space then [(32:UInt8)] else []).length≤1:=by split<;>simp
   rw[hc]
   simp only[AE,Ba] at*
   omega
theorem Yp(h:pcOk p):lnS (EC p v)≤CB p.chunks+8200∧(EC p v).length≤81:=by
 have h1:=a4d (v:=v) h.ind (l:=p.chunks) (s:=blk p.ind) fun i c hi hl=>(h.sp i c hi hl).2.2
 have h2:=h.cl
 have h3:(blk p.ind).length≤60:=by simp [blk];have:=h.ind;omega
 unfold EC
 omega
theorem b1P{w:Int}(hw:0≤w):∀ {l:List Aa},0≤ovL w l∧ovL w l≤lnS l
 |[]=>by simp [ovL,lnS]
 |s::l=>by
  have:=b1P hw (l:=l)
  simp only[ovL,lnS,En,Lg] at this ⊢
  omega
theorem c6d{l m:List Aa}:lnS (l++m)=lnS l+lnS m:=by simp [lnS]
structure StW where
 vals:Ad
 sum:Int
variable {l:List StW}
def stA:StW→List AV:=fun s=>[Al s.vals,.int .i64 s.sum]
theorem Yq(s:StW):stA s=[Al s.vals,.int .i64 s.sum]:=rfl
def Di(a b:StW):Bool:=decide (a.sum<b.sum)||(decide (a.sum=b.sum)&&decide (Fa a.vals b.vals<0))
def st0:StW:=⟨[],0⟩
def AR(l:List StW)(i:Int):StW:=l.getD i.toNat st0
theorem Gc{x:StW}(h:l[i.toNat]? =some x):AR l i=x:=by simp [AR,List.getD,h]
theorem PF(h0:0≤i)(h:i<l.length):l[i.toNat]? =some (AR l i):=by
 have:l[i.toNat]? =some l[i.toNat]:=DS (by omega)
 rw[Gc this];exact this
def swp(l:List StW)(i j:Int):List StW:=(l.set i.toNat (AR l j)).set j.toNat (AR l i)
def abv(i:Int):Int:=(i+1).tdiv 2-1
def sUp:Nat→List StW→Int→List StW
 |0,l,_=>l
 |n+1,l,i=>if 0<i∧Di (AR l i) (AR l (abv i))=true then sUp n (swp l i (abv i)) (abv i) else l
def FG(l:List StW)(x:StW):List StW:=sUp (l.length+1) (l++[x]) l.length
def dnK(l:List StW)(i:Int):Int:=if 2*i+1+1<l.length∧Di (AR l (2*i+1+1)) (AR l (2*i+1))=true then 2*i+1+1 else 2*i+1
def sDn:Nat→List StW→Int→List StW
 |0,l,_=>l
 |n+1,l,i=>if 2*i+1<l.length∧Di (AR l (dnK l i)) (AR l i)=true then sDn n (swp l i (dnK l i)) (dnK l i) else l
def Lx(l:List StW):List StW:=(l.set 0 (AR l ((l.length:Int)-1))).take (l.length-1)
def CS(l:List StW):List StW:=sDn l.length (Lx l) 0
def hS(f:StW→Nat)(l:List StW):Nat:=(l.map f).sum
theorem Yr{f:StW→Nat}:∀ {l:List StW} {i:Nat} {y x:StW},l[i]? =some x→hS f (l.set i y)+f x=hS f l+f y
 |[],i,y,x,h=>by simp at h
 |a::l,0,y,x,h=>by simp at h;subst h;simp [hS];omega
 |a::l,i+1,y,x,h=>by
  have:=Yr (f:=f) (l:=l) (i:=i) (y:=y) (x:=x) (by simpa using h)
  simp only[hS,List.set_cons_succ,En,Lg] at this ⊢;omega
theorem PG:(swp l i j).length=l.length:=by simp [swp]
theorem b1Q{f:StW→Nat}(hi0:0≤i)(hi:i<l.length)(hj0:0≤j)(hj:j<l.length):hS f (swp l i j)=hS f l:=by
 have h1:=Yr (f:=f) (y:=AR l j) (PF hi0 hi)
 have h2:(l.set i.toNat (AR l j))[j.toNat]? =some (AR l j):=by
  by_cases e:i.toNat=j.toNat
  ·rw[e,List.getElem?_set_self (by omega)]
  ·rw[List.getElem?_set_ne e];exact PF hj0 hj
 have h3:=Yr (f:=f) (y:=AR l i) h2
 unfold swp;omega
theorem Ys{x:StW}(hi0:0≤i)(hi:i<l.length)(hj0:0≤j)(hj:j<l.length)(h:x∈swp l i j):x∈l:=by
 unfold swp at h
 rcases VP h with h|rfl
 ·rcases VP h with h|rfl
  ·exact h
  ·exact Bq (PF hj0 hj)
 ·exact Bq (PF hi0 hi)
theorem a4e(h:0<i):0≤abv i∧abv i<i:=by
 unfold abv
 rw[Int.tdiv_eq_ediv_of_nonneg (by omega)];omega
theorem Yt(h0:0≤i)(h:2*i+1<l.length):i<dnK l i∧dnK l i<l.length:=by
 unfold dnK;split<;>omega
theorem b1R{f:StW→Nat}:∀ {n:Nat} {l:List StW} {i:Int},0≤i→i<l.length→hS f (sUp n l i)=hS f l∧(sUp n l i).length=l.length∧∀x∈sUp n l i,x∈l
 |0,l,i,_,_=>⟨rfl,rfl,fun _ h=>h⟩
 |n+1,l,i,h0,h1=>by
  rw[sUp]
  split
  ·rename_i h
   have ha:=a4e h.1
   have h2:=b1R (f:=f) (n:=n) (l:=swp l i (abv i)) (i:=abv i) ha.1 (by rw[PG];omega)
   rw[PG,b1Q h0 h1 ha.1 (by omega)] at h2
   exact⟨h2.1,h2.2.1,fun x hx=>Ys h0 h1 ha.1 (by omega) (h2.2.2 x hx)⟩
  ·exact⟨rfl,rfl,fun _ h=>h⟩
theorem b1S{f:StW→Nat}:∀ {n:Nat} {l:List StW} {i:Int},0≤i→hS f (sDn n l i)=hS f l∧(sDn n l i).length=l.length∧∀x∈sDn n l i,x∈l
 |0,l,i,_=>⟨rfl,rfl,fun _ h=>h⟩
 |n+1,l,i,h0=>by
  rw[sDn]
  split
  ·rename_i h
   have ha:=Yt h0 h.1
   have h2:=b1S (f:=f) (n:=n) (l:=swp l i (dnK l i)) (i:=dnK l i) (by omega)
   rw[PG,b1Q h0 (by omega) (by omega) (by omega)] at h2
   exact⟨h2.1,h2.2.1,fun x hx=>Ys h0 (by omega) (by omega) (by omega) (h2.2.2 x hx)⟩
  ·exact⟨rfl,rfl,fun _ h=>h⟩
theorem a4f{f:StW→Nat}{x:StW}:hS f (FG l x)=hS f l+f x∧(FG l x).length=l.length+1∧∀y∈FG l x,y∈l∨y=x:=by
 have h:=b1R (f:=f) (n:=l.length+1) (l:=l++[x]) (i:=l.length) (by omega) (by simp;omega)
 refine⟨by rw[FG,h.1];simp [hS],by rw[FG,h.2.1];simp,fun y hy=> ?_⟩
 have:=h.2.2 y hy
 simpa using this
theorem b1T{f:StW→Nat}(hl:0<l.length):hS f (Lx l)+f (AR l 0)=hS f l∧(Lx l).length=l.length-1∧∀y∈Lx l,y∈l:=by
 have hz:l[(0:Nat)]? =some (AR l 0):=by have:=PF (l:=l) (i:=0) (by omega) (by omega);simpa using this
 have hlast:=PF (l:=l) (i:=(l.length:Int)-1) (by omega) (by omega)
 have h1:=Yr (f:=f) (y:=AR l ((l.length:Int)-1)) hz
 refine⟨?_,by rw[Lx,DU,Lf];omega,fun y hy=> ?_⟩
 ·have h2:(l.set 0 (AR l ((l.length:Int)-1)))[l.length-1]? =some (AR l ((l.length:Int)-1)):=by
   by_cases e:0=l.length-1
   ·rw[←e,List.getElem?_set_self hl]
   ·rw[List.getElem?_set_ne e]
    rw[show((l.length:Int)-1).toNat=l.length-1 by omega] at hlast;exact hlast
  have h3:=FS h2
  have h4:(l.set 0 (AR l ((l.length:Int)-1))).take (l.length-1+1)=l.set 0 (AR l ((l.length:Int)-1)):=EH (by rw[Lf];omega)
  rw[h4] at h3
  have h5:hS f (l.set 0 (AR l ((l.length:Int)-1)))=hS f (Lx l)+f (AR l ((l.length:Int)-1)):=by
   conv=>lhs;rw[h3]
   simp [hS,Lx]
  omega
 ·have:=GX hy
  rcases VP this with h|rfl
  ·exact h
  ·exact Bq hlast
theorem a4g{f:StW→Nat}(hl:0<l.length):hS f (CS l)+f (AR l 0)=hS f l∧(CS l).length=l.length-1∧∀y∈CS l,y∈l:=by
 have h1:=b1T (f:=f) hl
 have h2:=b1S (f:=f) (n:=l.length) (l:=Lx l) (i:=0) (by omega)
 unfold CS
 refine⟨by rw[h2.1];exact h1.1,by rw[h2.2.1];exact h1.2.1,fun y hy=>h1.2.2 y (h2.2.2 y hy)⟩
structure Hu where
 best:Ad
 cost:Co
 heap:List StW
 pops:Int
def Jd(c d:Co)(v b:Ad):Bool:=PE c d||((decide (c.over=d.over)&&decide (c.sum=d.sum))&&decide (Fa v b<0))
def KK(p:Pc)(w:Int)(v:Ad)(h:Hu):Hu:=if Jd (DP p v w) h.cost v h.best then⟨v,DP p v w,h.heap,h.pops⟩ else h
def KL(p:Pc)(c:Co)(v:Ad):Bool:= !UU p v||(decide (c.over=0)&&decide (c.sum<El p v))
def opN(p:Pc)(c:Co)(x:Ad):Nat→Int→List StW→List StW
 |0,_,l=>l
 |r+1,i,l=>opN p c x r (i+1) (if KL p c (x++[i]) then l else FG l ⟨x++[i],El p (x++[i])⟩)
def NZ(p:Pc)(w:Int)(h:Hu):Hu:=
 if(AR h.heap 0).vals.length=p.rules.length then KK p w (AR h.heap 0).vals ⟨h.best,h.cost,CS h.heap,h.pops+1⟩
 else⟨h.best,h.cost,opN p h.cost (AR h.heap 0).vals (DH p (AR h.heap 0).vals.length).vals.toNat 0 (CS h.heap),h.pops+1⟩
def Ly(p:Pc)(w bud:Int):Nat→Hu→Hu×Int
 |0,h=>(h,0)
 |n+1,h=>if h.heap=[] then(h,1) else if bud≤h.pops then(h,2) else Ly p w bud n (NZ p w h)
def hu0(p:Pc)(w:Int):Hu:=⟨Ip p,DP p (Ip p) w,[st0],0⟩
def srF(p:Pc)(w bud:Int):Hu×Int:=Ly p w bud 9842 (hu0 p w)
def wt:Nat→Nat
 |0=>1
 |n+1=>1+3*wt n
theorem a4h:∀ {n:Nat},1≤wt n
 |0=>Bu _
 |n+1=>by rw[wt];omega
def wtS(p:Pc)(s:StW):Nat:=wt (p.rules.length-s.vals.length)
def hM(p:Pc)(l:List StW):Nat:=hS (wtS p) l
theorem b1U{p:Pc}:∀ {l:List StW},l.length≤hM p l
 |[]=>Nat.zero_le _
 |s::l=>by
  have:=b1U (p:=p) (l:=l)
  have h1:1≤wtS p s:=a4h
  simp only[hM,hS,En,Lg,AE] at this ⊢;omega
def a4i(p:Pc)(s:StW):Prop:=vOk p s.vals∧0≤s.sum∧s.sum≤1000
def KM(p:Pc)(l:List StW):Prop:=∀s∈l,a4i p s
theorem b1V{x:StW}(h:KM p l)(hx:a4i p x):KM p (FG l x):=fun y hy=>by
 rcases(a4f (f:=fun _=>0)).2.2 y hy with h1|rfl
 ·exact h y h1
 ·exact hx
theorem b1W(h:KM p l)(hl:0<l.length):KM p (CS l):=fun y hy=>h y ((a4g (f:=fun _=>0) hl).2.2 y hy)
theorem UV{α:Type}{f:α→Int}{b:Int}:∀ {l:List α},(∀x∈l,0≤f x∧f x≤b)→0≤(l.map f).sum∧(l.map f).sum≤l.length*b
 |[],_=>by simp
 |x::l,h=>by
  have h1:=h x (by simp)
  have h2:=UV (l:=l) fun y hy=>h y (by simp [hy])
  simp only[En,Lg,AE]
  have:(((l.length+1:Nat):Int))*b=l.length*b+b:=by rw[Int.natCast_add,Int.add_mul];simp
  omega
theorem So(h:pcOk p)(h0:0≤i)(hi:i<p.rules.length):(2≤(DH p i).vals∧(DH p i).vals≤3)∧0≤(DH p i).cost∧(DH p i).cost≤9:=by
 have e:p.rules[i.toNat]? =some p.rules[i.toNat]:=DS (by omega)
 have:DH p i=p.rules[i.toNat]:=by simp [DH,List.getD,e]
 rw[this];exact h.ru _ (List.getElem_mem _)
theorem b1X(h:pcOk p)(hv:vOk p v):0≤El p v∧El p v≤1000:=by
 have h1:∀q∈v.zipIdx,0≤q.1*(DH p q.2).cost∧q.1*(DH p q.2).cost≤27:=by
  intro q hq
  obtain⟨n,i⟩:=q
  have hi:=List.mem_zipIdx_iff_getElem?.1 hq
  have h2:=hv.2 i n hi
  have hlt:=(Ec hi).1
  have h3:=So h (i:=(i:Int)) (by omega) (by have:=hv.1;omega)
  simp only at h2 ⊢
  have a:0≤n*(DH p (i:Int)).cost:=Int.mul_nonneg h2.1 h3.2.1
  have b:n*(DH p (i:Int)).cost≤3*9:=Int.mul_le_mul (by omega) h3.2.2 h3.2.1 (by omega)
  exact⟨a,by omega⟩
 have h2:∀s∈p.spans,0≤(if snS p v s then s.cost else 0)∧(if snS p v s then s.cost else 0)≤9:=by
  intro s hs
  have:=(h.sn s hs).2
  split<;>omega
 have h3:=UV h1
 have h4:=UV h2
 have h5:=hv.1;have h6:=h.rl;have h7:=h.snl
 simp only[List.length_zipIdx] at h3
 unfold El ruS
 omega
theorem c6e:vOk p []:=⟨by simp,fun i n h=>by simp at h⟩
theorem a4j(h:vOk p v)(hl:v.length<p.rules.length)(h0:0≤i)(hi:i<(DH p v.length).vals):vOk p (v++[i]):=by
 refine⟨by simp;omega,fun j n hj=> ?_⟩
 by_cases e:j<v.length
 ·rw[Le e] at hj;exact h.2 j n hj
 ·rw[LQ (by omega)] at hj
  have hj2:j-v.length=0:=by
   rcases Tj (j-v.length) with h|h
   ·exact h
   ·rw[Gi (by simp;omega)] at hj;cases hj
  rw[hj2] at hj
  simp at hj;subst hj
  rw[show j=v.length by omega];exact⟨h0,hi⟩
theorem a4k(h:pcOk p):vOk p (Ip p)∧(Ip p).length=p.rules.length:=by
 refine⟨⟨by simp [Ip],fun i n hi=> ?_⟩,by simp [Ip]⟩
 simp only[Ip,LR,FM] at hi
 obtain⟨r,hr,rfl⟩:=hi
 have hlt:=(Ec hr).1
 have:=So h (i:=(i:Int)) (by omega) (by omega)
 have e:DH p (i:Int)=r:=by simp [DH,List.getD,hr]
 rw[e] at this ⊢;omega
end Go.My
end
section
namespace Go.My
open Go.Eng Go.Proofs
variable {G:GInv}
variable {a b i:Int}{c:Ch}{ls:List Aa}{p:Pc}{s:Aa}{v:Ad}
theorem a4l{q:Pc→Prop}(p:Pc)(h:q p):∃x,q x:=⟨p,h⟩
theorem MK{β:Type}{q:Pc×β→Prop}(p:Pc)(h:∃b,q (p,b)):∃x,q x:=let⟨b,hb⟩:=h;⟨(p,b),hb⟩
def DQ{α:Type}(p:α→Bool)(l:List α)(i:Int):Prop:=(0≤i∧i≤l.length)∧(l.take i.toNat).all p=true
theorem a4m{α:Type}{p:α→Bool}{l:List α}:DQ p l 0:=⟨by omega,by simp⟩
theorem Oa{α:Type}{p:α→Bool}{l:List α}{e:α}(h:DQ p l i)(hi:i<l.length)(he:l[i.toNat]? =some e)(hp:p e=true):DQ p l (i+1):=
 ⟨by have:=h.1;omega,by rw[CW h.1.1,FS he,List.all_append,h.2];simp [hp]⟩
theorem PH{α:Type}{p:α→Bool}{l:List α}{e:α}(he:l[i.toNat]? =some e)(hp:p e=false):l.all p=false:=by
 rw[List.all_eq_false];exact⟨e,Bq he,by simp [hp]⟩
theorem Sp{α:Type}{p:α→Bool}{l:List α}(h:DQ p l i)(hi:¬i<l.length):l.all p=true:=by
 have:=h.2;rwa [EH (by have:=h.1;omega)] at this
def pcS(p:Pc):Prop:=(p.rules.length<2^40∧p.chunks.length<2^40)∧((p.spans.length<2^40∧p.ties.length<2^40)∧CB p.chunks≤2^61)∧∀r∈p.rules,-4611686018427387904≤r.vals∧r.vals≤4611686018427387904
theorem a4n{c:Ch}:∀ {l:List Ch},c∈l→c.text.length≤CB l
 |[],h=>by cases h
 |d::l,h=>by
  have e:CB (d::l)=d.text.length+CB l:=by simp [CB]
  rcases EX.1 h with rfl|h
  ·omega
  ·have:=a4n h;omega
theorem Yu{e:Ru}(h:p.rules[i.toNat]? =some e):DH p i=e:=by simp [DH,List.getD,h]
theorem b1Y{c:Int}(h:inn a b c=false):¬(b≤a∧a≤c):=fun hh=>by rw[Cm.2 hh] at h;cases h
theorem c6f:(0≤(0:Int)∧(0:Int)≤p.chunks.length)∧GB p p.chunks=GB p (p.chunks.drop (Int.toNat 0)):=⟨by omega,rfl⟩
def chI(p:Pc)(i:Int):Prop:=(0≤i∧i≤p.chunks.length)∧GB p p.chunks=GB p (p.chunks.drop i.toNat)
theorem b1Z(h:chI p i)(hc:p.chunks[i.toNat]? =some c):GB p p.chunks=(BI c.text&&((decide (p.chunks.length≤i+1)||HN p c)&&GB p (p.chunks.drop (i+1).toNat))):=by
 rw[h.2,GI hc,c6c,CW h.1.1]
 congr 3
 have hl:(p.chunks.drop (i.toNat+1)).length=p.chunks.length-(i.toNat+1):=GW
 have h0:=h.1.1
 by_cases e:(p.chunks.length:Int)≤i+1
 ·rw[Ht e,List.isEmpty_iff,List.eq_nil_iff_length_eq_zero];omega
 ·rw[Gj e,FI,ne_eq,List.isEmpty_iff,List.eq_nil_iff_length_eq_zero];omega
theorem b2a(h:chI p i)(hi:i<p.chunks.length)(hc:p.chunks[i.toNat]? =some c)(h1:BI c.text=true)(h2:i<(p.chunks.length:Int)-1→HN p c=true):chI p (i+1):=by
 refine⟨by have:=h.1;omega,?_⟩
 rw[b1Z h hc,h1]
 by_cases e:(p.chunks.length:Int)≤i+1
 ·simp [e]
 ·rw[h2 (by omega)];simp
theorem b2b(h:chI p i)(hc:p.chunks[i.toNat]? =some c)(h1:BI c.text=false∨(i<(p.chunks.length:Int)-1∧HN p c=false)):Jb p=false:=by
 have:=b1Z h hc
 unfold Jb
 rcases h1 with h1|⟨h1,h2⟩
 ·rw[this,h1];simp
 ·rw[this,h2,Gj (by omega)];simp
theorem b2c(h:chI p i)(hi:¬i<p.chunks.length)(hc:p.chunks[((p.chunks.length:Int)-1).toNat]? =some c)(hn:inn p.chunks.length 1 80=true):Jb p=UT c:=by
 have h2:=h.2
 rw[EG (by omega)] at h2
 have hl:p.chunks.getLast? =some c:=by
  rw[VO,show p.chunks.length-1=((p.chunks.length:Int)-1).toNat by omega];exact hc
 unfold Jb
 rw[hn,h2,hl];simp [GB]
theorem b2d:(true&&c.rule==0&&c.fr==0&&c.space==false&&c.nest==0)=UT c:=by
 rw[DR];simp [UT,and_assoc]
theorem spn_f{s:Sn}(h:((s.fr<0∨s.fr>s.tuu)∨s.tuu≥(p.chunks.length:Int)-1)∨inn s.cost 0 9=false):Hn p s=false:=by
 unfold Hn
 rw[FI]
 simp only[ne_eq,AY,Bf,not_and]
 intro h1 h2
 rcases h with h|h
 ·omega
 ·rw[h];simp
theorem c6g{s:Sn}(h1:¬s.fr<0)(h2:¬s.fr>s.tuu)(h3:¬s.tuu≥(p.chunks.length:Int)-1)(h4:inn s.cost 0 9=true):Hn p s=true:=by
 unfold Hn
 simp only[AY,Bf]
 exact⟨⟨by omega,by omega⟩,by omega,h4⟩
def poA(p:Pc):Prop:=((inn p.ind 0 60=true∧Lv p=true)∧Jb p=true)∧p.spans.length≤40∧p.ties.length≤20
theorem b2e(h:((inn p.ind 0 60=false∨Lv p=false)∨Jb p=false)∨(p.spans.length:Int)>40∨(p.ties.length:Int)>20):false=CY p:=by
 symm
 rw[FI]
 simp only[CY,ne_eq,AY,Bf,not_and]
 intro h1 h2 h3 h4
 rw[h1,h2,h3] at h
 simp at h;omega
theorem Yv(h:p.spans.all (Hn p)=false∨p.ties.all (MJ p)=false):false=CY p:=by
 symm
 unfold CY
 rcases h with h|h<;>rw[h]<;>simp
theorem c6h(h:poA p)(h1:p.spans.all (Hn p)=true)(h2:p.ties.all (MJ p)=true):true=CY p:=by
 obtain⟨⟨⟨a,b⟩,c⟩,d,e⟩:=h
 unfold CY
 rw[a,b,c,h1,h2];simp [d,e]
def Fb(p:Pc)(i:Int):Ch:=p.chunks.getD i.toNat ch0
theorem Sq(h:p.chunks[i.toNat]? =some c):Fb p i=c:=by simp [Fb,List.getD,h]
theorem c6i(h0:0≤i)(h:i<p.chunks.length):p.chunks[i.toNat]? =some (Fb p i):=by
 have e:p.chunks[i.toNat]? =some p.chunks[i.toNat]:=DS (by omega)
 rw[Sq e];exact e
theorem a4o{n:Int}(h:v[i.toNat]? =some n):vAt v i=n:=by simp [vAt,List.getD,h]
structure renP (p:Pc) (v:Ad):Prop where
 ok:pcOk p
 vl:v.length=p.rules.length
 ct:CB p.chunks≤2^61
def Gd(l:List Aa):AV:= .sl false 0 1 Aa Bo l
def Cl(l:List Aa):AV:= .sl true 0 1 Aa Bo l
theorem a4p{ind:Int}{v:Ad}:∀ {l:List Ch} {s:Aa},s.length≤lnS (rnL ind v l s)∧1≤(rnL ind v l s).length
 |[],s=>by simp [rnL,lnS]
 |[c],s=>by simp [rnL,lnS]
 |c::d::l,s=>by
  rw[rnL]
  split
  ·simp [lnS];omega
  ·have:=a4p (ind:=ind) (v:=v) (l:=d::l) (s:=s++c.text++(if c.space then [32] else []))
   simp only[Ba] at this ⊢
   omega
def rnI(p:Pc)(v:Ad)(i:Int)(ls:List Aa)(s:Aa):Prop:=(0≤i∧i<p.chunks.length)∧ls++rnL p.ind v (p.chunks.drop i.toNat) s=EC p v
theorem c6j(h:pcOk p):rnI p v 0 [] (blk p.ind):=⟨by have:=h.cl;omega,rfl⟩
theorem c6k(hp:pcOk p)(h:rnI p v i ls s):(lnS ls+s.length≤CB p.chunks+8200)∧ls.length≤80:=by
 have h1:=Yp (v:=v) hp
 rw[←h.2,c6d,Ba] at h1
 have h2:=a4p (ind:=p.ind) (v:=v) (l:=p.chunks.drop i.toNat) (s:=s)
 omega
theorem c6l(h:rnI p v i ls s)(hc:p.chunks[i.toNat]? =some c)(hi:i=(p.chunks.length:Int)-1):ls++[s++c.text]=EC p v:=by
 have h2:=h.2
 rw[GI hc,EG (by omega),rnL] at h2
 exact h2
theorem a4q(h:rnI p v i ls s)(hc:p.chunks[i.toNat]? =some c)(hi:i≠(p.chunks.length:Int)-1):
 rnL p.ind v (p.chunks.drop i.toNat) s=if CZ v c then(s++c.text)::rnL p.ind v (p.chunks.drop (i+1).toNat) (blk (p.ind+c.nest)) else rnL p.ind v (p.chunks.drop (i+1).toNat) (s++c.text++(if c.space then [32] else [])):=by
 rw[GI hc,CW h.1.1]
 have hl:(i.toNat+1)<p.chunks.length:=by have:=h.1;omega
 rw[Gh hl,rnL]
theorem c6m(h:rnI p v i ls s)(hc:p.chunks[i.toNat]? =some c)(hi:i≠(p.chunks.length:Int)-1)(hs:CZ v c=true):
 rnI p v (i+1) (ls++[s++c.text]) (blk (p.ind+c.nest)):=by
 refine⟨by have:=h.1;omega,?_⟩
 rw[←h.2,a4q h hc hi,if_pos hs];simp
theorem c6n(h:rnI p v i ls s)(hc:p.chunks[i.toNat]? =some c)(hi:i≠(p.chunks.length:Int)-1)(hs:CZ v c=false)(hb:c.space=true):
 rnI p v (i+1) ls (s++c.text++[32]):=by
 refine⟨by have:=h.1;omega,?_⟩
 rw[←h.2,a4q h hc hi,if_neg (by simp [hs]),hb];rfl
theorem c6o(h:rnI p v i ls s)(hc:p.chunks[i.toNat]? =some c)(hi:i≠(p.chunks.length:Int)-1)(hs:CZ v c=false)(hb:c.space=false):
 rnI p v (i+1) ls (s++c.text):=by
 refine⟨by have:=h.1;omega,?_⟩
 rw[←h.2,a4q h hc hi,if_neg (by simp [hs]),hb];simp
theorem c6p(h:renP p v)(h0:0≤i∧i<p.chunks.length)(hc:p.chunks[i.toNat]? =some c)(hi:i≠(p.chunks.length:Int)-1):(0≤c.rule∧c.rule<v.length)∧(0≤c.nest∧c.nest≤40):=by
 have:=h.ok.sp i.toNat c hc (by omega)
 rw[h.vl];exact⟨this.1,this.2.2⟩
theorem c6q(h:¬c.rule<v.length):Lw p v c=false:=by simp [Lw,h]
theorem b2f(h:c.rule<v.length):Lw p v c=CZ v c:=by simp [Lw,h]
structure spnP (p:Pc) (v:Ad) (s:Sn):Prop where
 ok:pcOk p
 vl:v.length≤p.rules.length
 sn:0≤s.fr∧s.fr≤s.tuu∧s.tuu<(p.chunks.length:Int)-1
structure BC where
 ind:Int
 ns:List Nd
 rd:Bool
abbrev xC {α:Type} (x:BC×List Ru×List Ch×List Sn×List Ti×Aa×α):Bs:=⟨x.2.1,x.2.2.1,x.2.2.2.1,x.2.2.2.2.1,x.2.2.2.2.2.1⟩
abbrev yBW (y:List Ru×List Ch×List Sn×List Ti×Aa):Bs:=⟨y.1,y.2.1,y.2.2.1,y.2.2.2.1,y.2.2.2.2⟩
abbrev BT:Type:=List Ru×List Ch×List Sn×List Ti×Aa
abbrev BX (α:Type):Type:=List Ru×List Ch×List Sn×List Ti×Aa×α
structure bB (s:Bs):Prop where
 ok:bOk s
 tt:tot s≤2^61
theorem Sr{s:Bs}(h:bB s):s.text.length≤2^61:=by have:=h.tt;unfold tot at this;omega
theorem c6r{q:Ru→Prop}(h:q ⟨a,b⟩):∃x:Ru,a=x.vals∧b=x.cost∧q x:=⟨⟨a,b⟩,rfl,rfl,h⟩
theorem c6s{q:Ti→Prop}(h:q ⟨a,b⟩):∃x:Ti,a=x.kid∧b=x.up∧q x:=⟨⟨a,b⟩,rfl,rfl,h⟩
theorem c6t{c:Int}{q:Sn→Prop}(h:q ⟨a,b,c⟩):∃x:Sn,a=x.fr∧b=x.tuu∧c=x.cost∧q x:=⟨⟨a,b,c⟩,rfl,rfl,rfl,h⟩
theorem b2g{t:Aa}{d:Int}{c:Bool}{q:Ch→Prop}(h:q ⟨t,a,b,c,d⟩):∃x:Ch,t=x.text∧a=x.rule∧b=x.fr∧c=x.space∧d=x.nest∧q x:=⟨⟨t,a,b,c,d⟩,rfl,rfl,rfl,rfl,rfl,h⟩
theorem b2h{rd:Bool}{v c:Int}{s:Bs}(h:rd=false∨(s.rules.length:Int)≥8):Bx rd v c s=s∧AP rd s= -1:=by
 have:IZ rd s=false:=by
  rcases h with h|h
  ·simp [IZ,h]
  ·simp [IZ];intro _;omega
 simp [Bx,AP,this]
theorem c6u{rd:Bool}{v c:Int}{s:Bs}(h:rd=true)(h2:¬(s.rules.length:Int)≥8):Bx rd v c s=⟨s.rules++[⟨v,c⟩],s.chunks,s.spans,s.ties,s.text⟩∧AP rd s=s.rules.length:=by
 have:IZ rd s=true:=by simp [IZ,h];omega
 simp [Bx,AP,this]
theorem c6v{f:Int}{s:Bs}(h:(s.chunks.length:Int)-1≥f)(h2:(s.spans.length:Int)<40):Il f s=⟨s.rules,s.chunks,s.spans++[⟨f,(s.chunks.length:Int)-1,1⟩],s.ties,s.text⟩:=by rw[Il,if_pos (by omega)]
theorem c6w{f:Int}{s:Bs}(h:¬(s.chunks.length:Int)-1≥f∨¬(s.spans.length:Int)<40):Il f s=s:=by rw[Il,if_neg (by omega)]
end Go.My
end
section
namespace Go.My
open Go.Eng
variable {F:Ad→Int→Bs→Bs}{a c fr i ind inner k r v:Int}{f:Int→Int→Bs→Bs}{ks:Ad}{m n:Nat}{ns:List Nd}{post pre:Aa}{rd:Bool}{s s0 t:Bs}{w:Int→Nat}
def bR(m:Nat)(s:Bs):Prop:=bOk s∧tot s+m≤2^61
theorem Ge(h:bR m s):bB s:=⟨h.1,by have:=h.2;omega⟩
theorem Ss{k:Nat}(h:bR m s)(hl:bLe rd k s t∧(bOk s→bOk t))(hm:n+k≤m):bR n t:=⟨hl.2 h.1,by have:=hl.1.tt;have:=h.2;omega⟩
theorem ED(h:bR m s)(hm:n≤m):bR n s:=⟨h.1,by have:=h.2;omega⟩
theorem Ob{t:Aa}(h:bR m s)(hm:n+t.length≤m):bR n (As t s):=Ss (rd:=true) h ⟨Ga,Gb⟩ hm
theorem Oc{nest:Int}{sp:Bool}(h:bR m s)(hm:n+1≤m):bR n (AZ r fr sp nest s):=Ss (rd:=true) h ⟨Ja,JV⟩ hm
theorem Lz(h:bR m s):bR m (Bx rd v c s):=Ss (rd:=rd) (k:=0) h ⟨PC,Si⟩ (by omega)
structure lpS (rd:Bool) (F:Ad→Int→Bs→Bs) (st:Int→Int→Bs→Bs) (w:Int→Nat) (ks:Ad):Prop where
 e0:∀i s,F [] i s=s
 e1:∀c l i s,0≤i→F (c::l) i s=F l (i+1) (st c i s)
 le:∀c∈ks,∀i s,bLe rd (w c) s (st c i s)∧(bOk s→bOk (st c i s))
def LA(F:Ad→Int→Bs→Bs)(w:Int→Nat)(ks:Ad)(m:Nat)(s0:Bs)(i:Int)(s:Bs):Prop:=
 (0≤i∧i≤ks.length)∧F (ks.drop i.toNat) i s=F ks 0 s0∧bR (wL w (ks.drop i.toNat)+m) s
theorem Yw(h:bR (wL w ks+m) s0):LA F w ks m s0 0 s0:=⟨by omega,rfl,h⟩
theorem UW{st:Int→Int→Bs→Bs}(hs:lpS rd F st w ks)(h:LA F w ks m s0 i s)(hc:ks[i.toNat]? =some c):LA F w ks m s0 (i+1) (st c i s):=by
 have hl:=(Ec hc).1
 have h2:=h.2.1;have h3:=h.2.2
 rw[GI hc] at h2 h3
 rw[hs.e1 _ _ _ _ h.1.1] at h2
 rw[Dy] at h3
 refine⟨by have:=h.1;omega,?_,?_⟩
 ·rw[CW h.1.1];exact h2
 ·rw[CW h.1.1];exact Ss h3 (hs.le c (Bq hc) i s) (by omega)
theorem Su{st:Int→Int→Bs→Bs}(hs:lpS rd F st w ks)(h:LA F w ks m s0 i s)(hi:¬i<ks.length):s=F ks 0 s0∧bR m s:=by
 have h2:=h.2.1;have h3:=h.2.2
 rw[EG (by omega)] at h2 h3
 rw[hs.e0] at h2
 exact⟨h2,ED h3 (by omega)⟩
theorem UX(h:LA F w ks m s0 i s):0≤i∧i≤ks.length:=h.1
theorem Yx(h:LA F w ks m s0 i s)(hc:ks[i.toNat]? =some c):bR (w c+m) s:=by
 have h3:=h.2.2
 rw[GI hc,Dy] at h3
 exact ED h3 (by omega)
def itF(f:Int→Int→Bs→Bs)(r g inner:Int)(l:Ad)(i:Int)(s:Bs):Bs:=itL f r g inner l (decide (i=0)) s
def itS(f:Int→Int→Bs→Bs)(r g inner:Int)(c i:Int)(s:Bs):Bs:=f c inner (if i=0 then s else AZ r g true inner (As [44] s))
theorem c6x{g:Int}(h:stp rd w f ks):lpS rd (itF f r g inner) (itS f r g inner) (fun c=>2+w c) ks where
 e0 i s:=rfl
 e1 c l i s hi:=by
  rw[itF,itL,itF,itS,Gj (show¬i+1=0 by omega)]
  by_cases e:i=0<;>simp [e]
 le c hc i s:=by
  have h1:bLe rd 2 s (if i=0 then s else AZ r g true inner (As [44] s))∧(bOk s→bOk (if i=0 then s else AZ r g true inner (As [44] s))):=by
   split
   ·exact⟨Ds Im (by omega),id⟩
   ·exact⟨CF (m:=1) (n:=1) (Ga (t:=[44])) Ja,fun ho=>JV (Gb ho)⟩
  have h2:=h c hc inner (if i=0 then s else AZ r g true inner (As [44] s))
  exact⟨CF h1.1 h2.1,fun ho=>h2.2 (h1.2 ho)⟩
def Yy(ns:List Nd)(f:Int→Int→Bs→Bs)(r inner:Int)(t:Aa)(l:Ad)(i:Int)(s:Bs):Bs:=chL ns f r inner t l (decide (i=0)) s
def Yz(ns:List Nd)(f:Int→Int→Bs→Bs)(r inner:Int)(t:Aa)(c i:Int)(s:Bs):Bs:=KI ns f r inner c (if i=0 then s else AZ r 1 true inner (As (32::t) s))
theorem c6y{t:Aa}(ht:t.length≤2)(h:stp rd w f ks):lpS rd (Yy ns f r inner t) (Yz ns f r inner t) (fun c=>4+w c) ks where
 e0 i s:=rfl
 e1 c l i s hi:=by
  rw[Yy,chL,Yy,Yz,Gj (show¬i+1=0 by omega)]
  by_cases e:i=0<;>simp [e]
 le c hc i s:=by
  have h1:bLe rd 4 s (if i=0 then s else AZ r 1 true inner (As (32::t) s))∧(bOk s→bOk (if i=0 then s else AZ r 1 true inner (As (32::t) s))):=by
   split
   ·exact⟨Ds Im (by omega),id⟩
   ·exact⟨Ds (CF (n:=1) Ga Ja) (by simp;omega),fun ho=>JV (Gb ho)⟩
  have h2:=b1F (ns:=ns) (r:=r) (inner:=inner) (s:=if i=0 then s else AZ r 1 true inner (As (32::t) s)) (h c hc)
  exact⟨CF h1.1 h2.1,fun ho=>h2.2 (h1.2 ho)⟩
def pkS(ns:List Nd)(f:Int→Int→Bs→Bs)(r inner:Int)(c i:Int)(s:Bs):Bs:=KJ ns f r inner c (if i=0 then s else As (pkT i) (AZ r 1 true inner s))
theorem c6z(h:stp rd w f ks):lpS rd (pkL ns f r inner) (pkS ns f r inner) (fun c=>3+w c) ks where
 e0 i s:=rfl
 e1 c l i s hi:=rfl
 le c hc i s:=by
  have h1:bLe rd 3 s (if i=0 then s else As (pkT i) (AZ r 1 true inner s))∧(bOk s→bOk (if i=0 then s else As (pkT i) (AZ r 1 true inner s))):=by
   split
   ·exact⟨Ds Im (by omega),id⟩
   ·exact⟨Ds (CF (m:=1) Ja Ga) (by have:= @a3W i;omega),fun ho=>Gb (JV ho)⟩
  have h2:=b1G (ns:=ns) (r:=r) (inner:=inner) (s:=if i=0 then s else As (pkT i) (AZ r 1 true inner s)) (h c hc)
  exact⟨CF h1.1 h2.1,fun ho=>h2.2 (h1.2 ho)⟩
def caF(f:Int→Int→Bs→Bs)(r inner:Int)(l:Ad)(i:Int)(s:Bs):Bs:=caL f r inner l s
def caS(f:Int→Int→Bs→Bs)(r inner:Int)(c i:Int)(s:Bs):Bs:=f c inner (As [46,46] (AZ r 1 false inner s))
theorem c6A(h:stp rd w f ks):lpS rd (caF f r inner) (caS f r inner) (fun c=>3+w c) ks where
 e0 i s:=rfl
 e1 c l i s hi:=rfl
 le c hc i s:=by
  have h1:bLe rd 3 s (As [46,46] (AZ r 1 false inner s))∧(bOk s→bOk (As [46,46] (AZ r 1 false inner s))):=
   ⟨Ds (CF (m:=1) Ja Ga) (by simp),fun ho=>Gb (JV ho)⟩
  have h2:=h c hc inner (As [46,46] (AZ r 1 false inner s))
  exact⟨CF h1.1 h2.1,fun ho=>h2.2 (h1.2 ho)⟩
theorem UY{w:Int→Nat}{k:Nat}:∀ {l:Ad},wL (fun c=>k+w c) l=k*l.length+wL w l
 |[]=>by simp [wL]
 |c::l=>by rw[Dy,Dy,UY,AE,Nat.mul_succ];omega
theorem YA(h:BB ns k)(hk:k<n)(h7:Ai ns k=7∨Ai ns k=8):Es s.rules.length (bV ns rd n k a s)=JU rd (Ab ns k) s:=by
 have hv:Bg (Ai ns k)=true:=by rcases h7 with e|e<;>rw[e]<;>rfl
 have hle:=(PD (rd:=rd) (a:=a) (s:=s) h hk hv).1
 have hr:=BF.1 h.1
 obtain⟨m,rfl⟩:∃m,n=m+1:=⟨n-1,by omega⟩
 unfold Ai at h7
 have hs:stp rd (tW ns m) (bV ns rd m) (Ab ns k).kids:=c5Y h hk hv fun c hc=>hc
 rw[JU,if_pos h7,AP]
 by_cases hb:IZ rd s=true
 ·rw[if_pos hb]
  have h1:(Bx rd 2 1 s).rules.length=s.rules.length+1:=by rw[Bx,if_pos hb];simp
  have h2:(Bx rd 2 1 s).rules.length≤(bV ns rd (m+1) k a s).rules.length:=by
   rw[bV]
   unfold bV1
   rcases h7 with e|e
   ·simp only[e,NX]
    exact(a3V (t:=(Ab ns k).text) (a4a h e) hs).1.ru
   ·simp only[e,PB]
    exact(a3X hs).1.ru
  rw[Es,if_pos (by omega)]
 ·rw[if_neg hb]
  have:=hle.fu (by simpa using hb)
  rw[Es,this,if_neg (by omega)]
theorem GC{s t:Aa}:BI (s++t)=(BI s&&BI t):=by simp [BI]
theorem c6B{c:UInt8}(h:BA c=true):BV c=true:=by
 simp only[BA,BQ,Bh,CG,AY,Bf] at h
 simp only[BV,AY,Bf];omega
theorem c6C{c:UInt8}(h:Bh c=true):BV c=true:=by
 simp only[Bh,CG,AY,Bf] at h
 simp only[BV,AY,Bf];omega
theorem b2i{p:UInt8→Bool}(hp:∀c,p c=true→BV c=true){s:Aa}(h:s.all p=true):BI s=true:=by
 rw[BI,CC];rw[CC] at h
 exact fun c hc=>hp c (h c hc)
theorem b2j{s:Aa}(h:DK s=true):BI s=true:=by
 simp only[DK,AY] at h
 have h:=h.1
 rw[a1Y] at h
 cases s with
 |nil=>rfl
 |cons b s=>
  simp only[AY] at h
  exact b2i (fun c hc=>c6B hc) h.2.1
theorem c6D{s:Aa}(h:CK s 2=true):BI s=true:=by
 rw[a1Z] at h
 simp only[AY] at h
 exact b2i (fun c hc=>c6C hc) h.1
theorem c6E{s:Aa}(h:CK s 3=true):BI s=true:=by
 have h2:=h
 rw[WF] at h2
 cases s with
 |nil=>rfl
 |cons c t=>
  simp only[AY] at h2
  have h39:c.toNat=39:=by simpa [isQ] using h2.1
  have hc:BQ c=false:=by simp [BQ];omega
  have hf:Bh c=false:=by simp [Bh];omega
  simp only[CK,AW,hc,hf,h39,Bl,Br,BN,AY,DB] at h
  obtain⟨_,h4,_,h5,_⟩:=h
  unfold Df at h4 h5
  split at h4
  ·cases h4
  ·rename_i i hi
   simp only[hi] at h5
   rw[h5] at h4;exact h4
theorem c6F{s:Aa}(h:HV s=true):BI s=true:=by
 simp only[HV,CG,DB] at h
 rcases h with rfl|rfl|rfl|rfl|rfl|rfl|rfl<;>decide
theorem c6G{s:Aa}(h:Fz k s=true)(hk:Bg k=true):BI s=true:=by
 have hv:=Cm.1 hk
 unfold Fz at h
 split at h
 ·exact b2j h
 split at h
 ·exact c6D h
 split at h
 ·exact c6E h
 split at h
 ·omega
 split at h
 ·exact c6F h
 ·simp at h;rw[h];rfl
structure bW (s:Bs):Prop where
 ru:∀r∈s.rules,(2≤r.vals∧r.vals≤3)∧1≤r.cost∧r.cost≤2
 ch:∀c∈s.chunks,BI c.text=true∧(0≤c.rule∧c.rule<s.rules.length)∧(1≤c.fr∧c.fr<(s.rules.getD c.rule.toNat ru0).vals)∧0≤c.nest∧c.nest≤40
 sp:∀x∈s.spans,(0≤x.fr∧x.fr≤x.tuu∧x.tuu<s.chunks.length)∧x.cost=1
 ti:∀x∈s.ties,(0≤x.kid∧x.kid<s.rules.length)∧(0≤x.up∧x.up<s.rules.length)∧x.kid≠x.up
 tx:BI s.text=true
structure bG (s t:Bs):Prop where
 w:bW t
 ru:∃e,t.rules=s.rules++e
def rIn(s:Bs)(r fr:Int):Prop:=r<0∨((0≤r∧r<s.rules.length)∧fr<(s.rules.getD r.toNat ru0).vals)
theorem b2k{α:Type}{l e:List α}{i:Nat}{d:α}(h:i<l.length):(l++e).getD i d=l.getD i d:=by simp [List.getD,Le h]
theorem Je(h:rIn s r fr)(g:bG s t):rIn t r fr:=by
 obtain⟨e,he⟩:=g.ru
 rcases h with h|⟨h1,h2⟩
 ·exact .inl h
 ·refine .inr ⟨by rw[he,Ba];omega,?_⟩
  rw[he,b2k (by omega)];exact h2
theorem KN(h:bW s):bG s s:=⟨h,[],by simp⟩
theorem Dz{u:Bs}(h:bG s t)(g:bG t u):bG s u:=by
 obtain⟨e,he⟩:=h.ru;obtain⟨f,hf⟩:=g.ru
 exact⟨g.w,e++f,by rw[hf,he,Bz]⟩
theorem Jf{t:Aa}(h:bW s)(ht:BI t=true):bG s (As t s):=⟨⟨h.ru,h.ch,h.sp,h.ti,by show BI (s.text++t)=true;rw[GC,h.tx,ht];rfl⟩,[],by simp [As]⟩
theorem Sv(h:bW s)(hv:2≤v∧v≤3)(hc:1≤c∧c≤2):bG s (Bx rd v c s):=by
 unfold Bx
 split
 ·refine⟨⟨fun r hr=> ?_,fun x hx=> ?_,h.sp,fun x hx=> ?_,h.tx⟩,[⟨v,c⟩],rfl⟩
  ·rcases FK.1 hr with hr|hr
   ·exact h.ru r hr
   ·simp at hr;subst hr;exact⟨hv,hc⟩
  ·have:=h.ch x hx
   simp only[Ba,AE,AX]
   rw[b2k (by omega)]
   exact⟨this.1,by omega,this.2.2⟩
  ·have:=h.ti x hx
   simp only[Ba,AE,AX]
   omega
 ·exact KN h
theorem Sw(hf:fr<v):rIn (Bx rd v c s) (AP rd s) fr:=by
 unfold Bx AP
 split
 ·refine .inr ⟨by simp;omega,?_⟩
  simp [List.getD,hf]
 ·exact .inl (by omega)
theorem Od{nest:Int}{sp:Bool}(h:bW s)(hr:rIn s r fr)(hf:1≤fr)(hn:0≤nest):bG s (AZ r fr sp nest s):=by
 unfold AZ
 split
 ·rename_i hc
  refine⟨⟨h.ru,fun x hx=> ?_,fun x hx=> ?_,h.ti,rfl⟩,[],by simp⟩
  ·rcases FK.1 hx with hx|hx
   ·exact h.ch x hx
   ·simp at hx;subst hx
    rcases hr with hr|hr
    ·omega
    ·exact⟨h.tx,hr.1,⟨hf,hr.2⟩,by show 0≤min nest 40;omega,by show min nest 40≤40;omega⟩
  ·have:=h.sp x hx
   simp only[Ba,AE,AX]
   omega
 ·split
  ·exact Jf h rfl
  ·exact KN h
theorem c6H{u:Int}(h:bW s)(hk:k<s.rules.length)(hu:u<s.rules.length)(hne:0≤k→k≠u):bG s (DY k u s):=by
 unfold DY
 split
 ·rename_i hc
  refine⟨⟨h.ru,h.ch,h.sp,fun x hx=> ?_,h.tx⟩,[],by simp⟩
  rcases FK.1 hx with hx|hx
  ·exact h.ti x hx
  ·simp at hx;subst hx
   exact⟨⟨hc.1.1,hk⟩,⟨hc.1.2,hu⟩,hne hc.1.1⟩
 ·exact KN h
theorem c6I{f:Int}(h:bW s)(hf:0≤f):bG s (Il f s):=by
 unfold Il
 split
 ·rename_i hc
  refine⟨⟨h.ru,h.ch,fun x hx=> ?_,h.ti,h.tx⟩,[],by simp⟩
  rcases FK.1 hx with hx|hx
  ·exact h.sp x hx
  ·simp at hx;subst hx
   exact⟨⟨hf,hc.1,by show(s.chunks.length:Int)-1<s.chunks.length;omega⟩,rfl⟩
 ·exact KN h
def Oe(f:Int→Int→Bs→Bs)(l:Ad):Prop:=∀c∈l,∀a s,0≤a→bW s→bG s (f c a s)
theorem YB{l:Ad}(h:Oe f (c::l)):Oe f l:=fun d hd=>h d (by simp [hd])
theorem b2l{f:Int→Int→Bs→Bs}{r g inner:Int}(hg:1≤g)(hi:0≤inner):∀ {l:Ad} {first:Bool} {s:Bs},Oe f l→bW s→rIn s r g→bG s (itL f r g inner l first s)
 |[],_,s,_,h,_=>KN h
 |c::l,first,s,hf,h,hr=>by
  have h1:bG s (if first then s else AZ r g true inner (As [44] s)):=by
   split
   ·exact KN h
   ·have h2:=Jf h (t:=[44]) rfl
    exact Dz h2 (Od h2.w (Je hr h2) hg hi)
  have h2:=Dz h1 (hf c (by simp) inner _ hi h1.w)
  rw[itL]
  exact Dz h2 (b2l hg hi (YB hf) h2.w (Je hr h2))
theorem b2m{op en:Aa}(hf:Oe f ks)(h:bW s)(ho:BI op=true)(he:BI en=true)(ha:0≤a):bG s (FF rd f op ks en a s):=by
 have h1:=Jf h ho
 unfold FF
 split
 ·exact Dz h1 (Jf h1.w he)
 ·rename_i hne
  have hk:0<ks.length:=Tg.2 hne
  have hu:0≤up4 a:=by unfold up4;omega
  have h2:=Dz h1 (Sv (rd:=rd) (v:=min ks.length 2+1) (c:=1) h1.w (by omega) (by omega))
  have hr:∀g:Int,g<min ks.length 2+1→rIn (Bx rd (min ks.length 2+1) 1 (As op s)) (AP rd (As op s)) g:=fun g hg=>Sw hg
  have h3:=Od (nest:=up4 a) (sp:=false) h2.w (hr 1 (by omega)) (by omega) hu
  have h4:=b2l (g:=min ks.length 2) (first:=true) (by omega) hu hf h3.w (Je (hr (min ks.length 2) (by omega)) h3)
  have h5:=Od (nest:=a) (sp:=false) h4.w (Je (Je (hr 1 (by omega)) h3) h4) (by omega) ha
  exact Dz h2 (Dz h3 (Dz h4 (Dz h5 (Jf h5.w he))))
theorem a4r(h:rIn s r fr):r<s.rules.length:=by rcases h with h|h<;>omega
theorem c6J:Es n s<s.rules.length:=by unfold Es;split<;>omega
theorem b2n(hn:r<n)(hg:bG s t)(hr:rIn s r 1):bG s (DY (Es n t) r t):=
 Dz hg (c6H hg.w c6J (a4r (Je hr hg)) (fun h=>by unfold Es at h ⊢;split at h<;>simp_all<;>omega))
theorem c6K{s:Bs}(hf:∀a s,0≤a→bW s→bG s (f c a s))(hi:0≤inner)(h:bW s)(hr:rIn s r 1):bG s (KI ns f r inner c s):=by
 have h1:=hf inner s hi h
 have h2:bG s (if Ai ns c=7 then DY (Es s.rules.length (f c inner s)) r (f c inner s) else f c inner s):=by
  split
  ·exact b2n (by have:=a4r hr;omega) h1 hr
  ·exact h1
 unfold KI
 simp only
 split
 ·exact h2
 ·exact Dz h2 (c6I h2.w (by omega))
theorem b2o{ns:List Nd}{f:Int→Int→Bs→Bs}{r inner:Int}{t:Aa}(hi:0≤inner)(ht:BI t=true):∀ {l:Ad} {first:Bool} {s:Bs},Oe f l→bW s→rIn s r 1→bG s (chL ns f r inner t l first s)
 |[],_,s,_,h,_=>KN h
 |c::l,first,s,hf,h,hr=>by
  have h1:bG s (if first then s else AZ r 1 true inner (As (32::t) s)):=by
   split
   ·exact KN h
   ·have h2:=Jf h (t:=32::t) (by rw[show(32::t:Aa)=[32]++t from rfl,GC,ht];rfl)
    exact Dz h2 (Od h2.w (Je hr h2) (by omega) hi)
  have h2:=Dz h1 (c6K (ns:=ns) (hf c (by simp)) hi h1.w (Je hr h1))
  rw[chL]
  exact Dz h2 (b2o hi ht (YB hf) h2.w (Je hr h2))
theorem c6L{s:Bs}(hf:∀a s,0≤a→bW s→bG s (f c a s))(hi:0≤inner)(h:bW s)(hr:rIn s r 1):bG s (KJ ns f r inner c s):=by
 have h1:=hf inner s hi h
 unfold KJ
 split
 ·exact b2n (by have:=a4r hr;omega) h1 hr
 ·exact h1
theorem c6M:BI (pkT i)=true:=by
 unfold pkT;split
 ·rfl
 ·split<;>rfl
theorem b2p{ns:List Nd}{f:Int→Int→Bs→Bs}{r inner:Int}(hi:0≤inner):∀ {l:Ad} {i:Int} {s:Bs},Oe f l→bW s→rIn s r 1→bG s (pkL ns f r inner l i s)
 |[],_,s,_,h,_=>KN h
 |c::l,i,s,hf,h,hr=>by
  have h1:bG s (if i=0 then s else As (pkT i) (AZ r 1 true inner s)):=by
   split
   ·exact KN h
   ·have h2:=Od (nest:=inner) (sp:=true) h hr (by omega) hi
    exact Dz h2 (Jf h2.w c6M)
  have h2:=Dz h1 (c6L (ns:=ns) (hf c (by simp)) hi h1.w (Je hr h1))
  rw[pkL]
  exact Dz h2 (b2p hi (YB hf) h2.w (Je hr h2))
theorem b2q{f:Int→Int→Bs→Bs}{r inner:Int}(hi:0≤inner):∀ {l:Ad} {s:Bs},Oe f l→bW s→rIn s r 1→bG s (caL f r inner l s)
 |[],s,_,h,_=>KN h
 |c::l,s,hf,h,hr=>by
  have h1:=Od (nest:=inner) (sp:=false) h hr (by omega) hi
  have h2:=Dz h1 (Jf (t:=[46,46]) h1.w rfl)
  have h3:=Dz h2 (hf c (by simp) inner _ hi h2.w)
  rw[caL]
  exact Dz h3 (b2q hi (YB hf) h3.w (Je hr h3))
theorem b2r{ns:List Nd}:∀ {l:Ad} {first:Bool},(∀c∈l,BI (Ab ns c).text=true)→BI (Fg ns l first)=true
 |[],_,_=>rfl
 |c::l,first,h=>by
  rw[Fg,GC,GC,h c (by simp),b2r fun d hd=>h d (by simp [hd])]
  split<;>rfl
theorem c6N{x:Nd}(hf:Oe f x.kids)(h:bW s)(ha:0≤a)(hx:BI x.text=true)(hn:∀c∈x.kids,BI (Ab ns c).text=true)
 (hp:x.kind≠1→x.kind≠2→x.kind≠3→x.kind≠4→0<x.kids.length):bG s (bV1 ns rd f x a s):=by
 have hu:0≤up4 a:=by unfold up4;omega
 unfold bV1
 split
 ·exact Jf h hx
 split
 ·have h1:=Jf (t:=[40]) h rfl
  have h2:=hf _ (DN (x:=x) (i:=0) (hp (by omega) (by omega) (by omega) (by omega))) a _ ha h1.w
  exact Dz (Dz h1 h2) (Jf h2.w rfl)
 split
 ·have h2:=hf _ (DN (x:=x) (i:=0) (hp (by omega) (by omega) (by omega) (by omega))) a _ ha h
  exact Dz h2 (Jf h2.w (by rw[show(46::x.text:Aa)=[46]++x.text from rfl,GC,hx];rfl))
 split
 ·exact b2m hf h rfl rfl ha
 split
 ·have h2:=hf _ (DN (x:=x) (i:=0) (hp (by omega) (by omega) (by omega) (by omega))) a _ ha h
  exact Dz h2 (b2m (fun c hc=>hf c (Iw hc)) h2.w rfl rfl ha)
 split
 ·have h1:=Sv (rd:=rd) (v:=2) (c:=1) h (by omega) (by omega)
  exact Dz h1 (b2o hu hx hf h1.w (Sw (by omega)))
 split
 ·have h1:=Sv (rd:=rd) (v:=2) (c:=1) h (by omega) (by omega)
  exact Dz h1 (b2p hu hf h1.w (Sw (by omega)))
 split
 ·have h0:BI (ET ns x++[32,61,62])=true:=by
   rw[GC,ET,show∀l:Aa,(40::l)=[40]++l from fun _=>rfl,GC,GC,b2r fun c hc=>hn c (GX hc)]
   rfl
  have h1:=Jf h h0
  have h2:=Sv (rd:=rd) (v:=2) (c:=2) h1.w (by omega) (by omega)
  have h3:=Od (nest:=up4 a) (sp:=true) (fr:=1) h2.w (Sw (by omega)) (by omega) hu
  have h4:=hf _ (DN (x:=x) (i:=x.kids.length-1) (by have:=hp (by omega) (by omega) (by omega) (by omega);omega)) (up4 a) _ hu h3.w
  exact Dz h1 (Dz h2 (Dz h3 h4))
 ·have h1:=Sv (rd:=rd) (v:=2) (c:=1) h (by omega) (by omega)
  have h2:=hf _ (DN (x:=x) (i:=0) (hp (by omega) (by omega) (by omega) (by omega))) a _ ha h1.w
  exact Dz h1 (Dz h2 (b2q hu (fun c hc=>hf c (Iw hc)) h2.w (Je (Sw (by omega)) h2)))
theorem b2s(h:BB ns k)(hv:Bg (Ai ns k)=true):BI (Ab ns k).text=true:=c6G (CU (DE h)).2.2.1 hv
theorem c6O(h:BB ns k)(hv:Bg (Ai ns k)=true)(h1:(Ab ns k).kind≠1)(h2:(Ab ns k).kind≠2)(h3:(Ab ns k).kind≠3)(h4:(Ab ns k).kind≠4):0<(Ab ns k).kids.length:=by
 have hv:=Cm.1 hv
 have hlo:=(GN h).2.1
 unfold Ai at hv
 unfold Ci at hlo
 split at hlo
 ·omega
 ·split at hlo
  ·simp only at hlo;omega
  ·split at hlo
   ·simp only at hlo;omega
   ·split at hlo
    ·simp only at hlo;omega
    ·split at hlo
     ·simp only at hlo;omega
     ·omega
theorem b2t{ns:List Nd}{rd:Bool}:∀ {n:Nat} {k a:Int} {s:Bs},BB ns k→k<n→Bg (Ai ns k)=true→0≤a→bW s→bG s (bV ns rd n k a s)
 |0,k,a,s,h,hk,_,_,_=>by have:=BF.1 h.1;omega
 |n+1,k,a,s,h,hk,hv,ha,hw=>by
  rw[bV]
  refine c6N (fun c hc a s ha hw=> ?_) hw ha (b2s h hv) (fun c hc=>b2s (CQ h hc).1 (Sl h hv hc)) (c6O h hv)
  have hm:=CQ h hc
  exact b2t hm.1 (by omega) (Sl h hv hc) ha hw
def Dc(s:Aa):Bool:=s.getLast? ==some 61
def b00(pre:Aa):Bs:=⟨[],[],[],[],pre⟩
def Gf(pre:Aa):Bs:=if Dc pre then AZ (AP true (b00 pre)) 1 true 4 (Bx true 2 2 (b00 pre)) else b00 pre
def Dt(ns:List Nd)(n:Nat)(k:Int)(pre:Aa):Bs:=bV ns true n k 0 (Gf pre)
def ML(ind:Int)(s:Bs)(post:Aa):Pc:=⟨ind,s.rules,s.chunks++[⟨s.text++post,0,0,false,0⟩],s.spans,s.ties⟩
def bdP(ns:List Nd)(n:Nat)(k:Int)(pre post:Aa)(ind:Int):Pc:=ML ind (Dt ns n k pre) post
theorem c6P(h:BI pre=true):bW (b00 pre):=⟨by simp [b00],by simp [b00],by simp [b00],by simp [b00],h⟩
theorem a4s:bOk (b00 pre):=⟨by simp [b00],by simp [b00],by simp [b00],by simp [b00]⟩
theorem c6Q(h:BI pre=true):bW (Gf pre):=by
 have h0:=c6P h
 unfold Gf
 split
 ·have h1:=Sv (rd:=true) (v:=2) (c:=2) h0 (by omega) (by omega)
  exact(Od (nest:=4) (sp:=true) (fr:=1) h1.w (Sw (by omega)) (by omega) (by omega)).w
 ·exact h0
theorem c6R(h:pre.length+1+m≤2^61):bR m (Gf pre):=by
 have h0:bR (1+m) (b00 pre):=⟨a4s,by simp [tot,CB,b00];omega⟩
 unfold Gf
 split
 ·exact Oc (Lz h0) (by omega)
 ·exact ED h0 (by omega)
theorem c6S{α:Type}{l:List α}{x d:α}:(l++[x]).getLast?.getD d=x:=by simp
theorem c6T(hw:bW s)(ho:bOk s)(hp:BI post=true)(hi:0≤ind∧ind≤60):CY (ML ind s post)=true:=by
 have hru:(ML ind s post).rules=s.rules:=rfl
 have hch:(ML ind s post).chunks=s.chunks++[⟨s.text++post,0,0,false,0⟩]:=rfl
 have hl:(ML ind s post).chunks.length=s.chunks.length+1:=by rw[hch];simp
 have h1:=ho.ru;have h2:=ho.ch
 unfold CY
 simp only[AY,Bf]
 refine⟨Cm.2 hi,?_,?_,⟨ho.sp,ho.ti⟩,?_,?_⟩
 ·simp only[Lv,AY,Bf,CC]
  refine⟨h1,fun r hr=> ?_⟩
  have:=hw.ru r hr
  simp only[JW,AY]
  exact⟨Cm.2 this.1,Cm.2 (by omega)⟩
 ·simp only[Jb,AY]
  refine⟨Cm.2 (by rw[hl];omega),b1O.2 fun i c hc=> ?_,?_⟩
  ·rw[hch] at hc
   by_cases e:i<s.chunks.length
   ·rw[Le e] at hc
    have:=hw.ch c (Bq hc)
    refine⟨this.1,fun _=> ?_⟩
    simp only[HN,AY]
    refine⟨Cm.2 (by rw[hru];omega),Cm.2 ?_,Cm.2 this.2.2.2⟩
    have h3:=this.2.2.1
    have h4:DH (ML ind s post) c.rule=s.rules.getD c.rule.toNat ru0:=rfl
    rw[h4];omega
   ·rw[LQ (by omega)] at hc
    have hj:i-s.chunks.length=0:=by
     rcases Tj (i-s.chunks.length) with h|h
     ·exact h
     ·rw[Gi (by simp;omega)] at hc;cases hc
    rw[hj] at hc
    simp at hc;subst hc
    refine⟨by show BI (s.text++post)=true;rw[GC,hw.tx,hp];rfl,fun hlt=> ?_⟩
    rw[hl] at hlt;omega
  ·rw[hch,c6S];rfl
 ·rw[CC]
  intro x hx
  have:=hw.sp x hx
  simp only[Hn,AY,Bf]
  rw[hl]
  exact⟨⟨this.1.1,this.1.2.1⟩,by omega,Cm.2 (by omega)⟩
 ·rw[CC]
  intro x hx
  have:=hw.ti x hx
  simp only[MJ,AY,EV,GY]
  rw[hru]
  exact⟨Cm.2 (by omega),Cm.2 (by omega),this.2.2⟩
structure bdQ (ns:List Nd) (n:Nat) (k:Int) (pre post:Aa) (ind:Int):Prop where
 up:BB ns k
 lt:k<n
 vl:Bg (Ai ns k)=true
 tw:tW ns n k≤2^60
 pr:pre.length≤40∧BI pre=true
 po:post.length≤40∧BI post=true
 ind:0≤ind∧ind≤60
theorem a4t(h:bdQ ns n k pre post ind):bR (tW ns n k+100) (Gf pre):=c6R (by have:=h.pr;have:=h.tw;omega)
theorem a4u(h:bdQ ns n k pre post ind):bR 100 (Dt ns n k pre):=Ss (rd:=true) (a4t h) (PD h.up h.lt h.vl) (by omega)
theorem Sx(h:bdQ ns n k pre post ind):CY (bdP ns n k pre post ind)=true:=
 c6T (b2t h.up h.lt h.vl (by omega) (c6Q h.pr.2)).w (a4u h).1 h.po.2 h.ind
theorem a4v(h:bdQ ns n k pre post ind):pcS (bdP ns n k pre post ind):=by
 have h1:=JX (Sx h)
 have h2:=(a4u h).2
 have h3:CB (bdP ns n k pre post ind).chunks=CB (Dt ns n k pre).chunks+((Dt ns n k pre).text.length+post.length):=by
  rw[bdP,ML,a3S];simp [CB]
 unfold tot at h2
 have h4:=h.po
 refine⟨⟨by have:=h1.rl;omega,by have:=h1.cl;omega⟩,⟨⟨by have:=h1.snl;omega,by have:=h1.til;omega⟩,by omega⟩,fun r hr=> ?_⟩
 have:=(h1.ru r hr).1;omega
end Go.My
end
section
namespace Go.My
open Go.Eng
variable {ind:Int}{nl:Aa}{v:Ad}
inductive Gp where
 |t (b:Aa)
 |g (sp:Bool)
variable {q:List Gp}
def fsp(sp:Bool):Aa:=if sp then [32] else []
inductive Ren (nl:Aa):List Gp→Aa→Nat→Prop
 |nil:Ren nl [] [] 0
 |put {b:Aa} {q:List Gp} {t:Aa} {k:Nat}:Ren nl q t k→Ren nl (.t b::q) (b++t) k
 |flat {sp:Bool} {q:List Gp} {t:Aa} {k:Nat}:Ren nl q t k→Ren nl (.g sp::q) (fsp sp++t) k
 |brk {sp:Bool} {n:Int} {q:List Gp} {t:Aa} {k:Nat}:Ren nl q t k→Ren nl (.g sp::q) (nl++(blk n++t)) (k+1)
theorem YC{q':List Gp}{t t':Aa}{k k':Nat}(h:Ren nl q t k)(h':Ren nl q' t' k'):Ren nl (q++q') (t++t') (k+k'):=by
 induction h with
 |nil=>simpa using h'
 |put _ ih=>rw[EW,Bz];exact .put ih
 |flat _ ih=>rw[EW,Bz];exact .flat ih
 | @brk sp n q t k _ ih=>
   rw[EW,Bz,Bz,show k+1+k'=k+k'+1 by omega];exact .brk ih
inductive TL:List Gp→List Ch→Aa→Prop
 |nil:TL [] [] []
 |put {q:List Gp} {cs:List Ch} {t:Aa} (b:Aa):TL q cs t→TL (q++[.t b]) cs (t++b)
 |flat {q:List Gp} {cs:List Ch} {t:Aa} (sp:Bool):TL q cs t→TL (q++[.g sp]) cs (t++fsp sp)
 |split {q:List Gp} {cs:List Ch} {t:Aa} (r f:Int) (sp:Bool) (n:Int):TL q cs t→TL (q++[.g sp]) (cs++[⟨t,r,f,sp,n⟩]) []
def UZ(nl:Aa)(ind:Int)(v:Ad)(c:Ch):Aa:=if CZ v c then nl++blk (ind+c.nest) else fsp c.space
def rT(nl:Aa)(ind:Int)(v:Ad)(cs:List Ch):Aa:=cs.flatMap fun c=>c.text++UZ nl ind v c
def rK(v:Ad)(cs:List Ch):Nat:=(cs.map fun c=>if CZ v c then 1 else 0).sum
theorem c6U{cs:List Ch}{t:Aa}(h:TL q cs t):Ren nl q (rT nl ind v cs++t) (rK v cs):=by
 induction h with
 |nil=>exact .nil
 |put b _ ih=>
  have:=YC ih (.put (b:=b) .nil)
  simpa [Bz] using this
 |flat sp _ ih=>
  have:=YC ih (.flat (sp:=sp) .nil)
  simpa [Bz] using this
 | @split q cs t r f sp n _ ih=>
   have e1:rT nl ind v (cs++[⟨t,r,f,sp,n⟩])++[]=(rT nl ind v cs++t)++UZ nl ind v ⟨t,r,f,sp,n⟩:=by simp [rT]
   have e2:rK v (cs++[⟨t,r,f,sp,n⟩])=rK v cs+(if CZ v ⟨t,r,f,sp,n⟩ then 1 else 0):=by simp [rK]
   rw[e1,e2]
   refine YC ih ?_
   unfold UZ
   split
   ·have:=Ren.brk (nl:=nl) (sp:=sp) (n:=ind+n) .nil
    simpa using this
   ·have:=Ren.flat (nl:=nl) (sp:=sp) .nil
    simpa using this
def jnl(nl:Aa):List Aa→Aa
 |[]=>[]
 |[s]=>s
 |s::t::l=>s++nl++jnl nl (t::l)
theorem c6V{l:List Ch}{s:Aa}:rnL ind v l s≠[]:=by
 have:=(@a4p ind v l s).2
 intro h;rw[h] at this;simp at this
theorem c6W{c:Ch}{l:List Ch}{s:Aa}(h:l≠[]):rnL ind v (c::l) s=if CZ v c then(s++c.text)::rnL ind v l (blk (ind+c.nest)) else rnL ind v l (s++c.text++fsp c.space):=by
 cases l with
 |nil=>exact absurd rfl h
 |cons d l=>rw[rnL];rfl
theorem c6X{s:Aa}{l:List Aa}(h:l≠[]):jnl nl (s::l)=s++nl++jnl nl l:=by
 cases l with
 |nil=>exact absurd rfl h
 |cons d l=>rfl
theorem a4w{nl:Aa}{ind:Int}{v:Ad}{c:Ch}:∀ {cs:List Ch} {s:Aa},jnl nl (rnL ind v (cs++[c]) s)=s++(rT nl ind v cs++c.text)∧(rnL ind v (cs++[c]) s).length=rK v cs+1
 |[],s=>by simp [rnL,jnl,rT,rK]
 |d::cs,s=>by
  have hne:cs++[c]≠[]:=by simp
  have e1:rT nl ind v (d::cs)=d.text++UZ nl ind v d++rT nl ind v cs:=by simp [rT]
  have e2:rK v (d::cs)=(if CZ v d then 1 else 0)+rK v cs:=by simp [rK]
  rw[EW,c6W hne,e1,e2]
  unfold UZ
  by_cases hs:CZ v d=true
  ·rw[if_pos hs,if_pos hs,if_pos hs]
   have ih:= @a4w nl ind v c cs (blk (ind+d.nest))
   rw[c6X c6V,ih.1,AE,ih.2]
   exact⟨by simp [Bz],by omega⟩
  ·rw[if_neg hs,if_neg hs,if_neg hs]
   have ih:= @a4w nl ind v c cs (s++d.text++fsp d.space)
   rw[ih.1,ih.2]
   exact⟨by simp [Bz],by omega⟩
def EE(f:Bs→Bs)(q:List Gp):Prop:=∀q0 s,TL q0 s.chunks s.text→TL (q0++q) (f s).chunks (f s).text
theorem b2u{f g:Bs→Bs}{p:List Gp}(h:EE f p)(h':EE g q):EE (fun s=>g (f s)) (p++q):=fun q0 s hs=>by
 rw[←Bz];exact h' _ _ (h _ _ hs)
theorem Jg(b:Aa):EE (As b) [.t b]:=fun q0 s hs=> .put b hs
theorem Sy{rd:Bool}{v c:Int}:EE (Bx rd v c) []:=fun q0 s hs=>by
 rw[GE];unfold Bx;split<;>exact hs
theorem Of{r fr nest:Int}{sp:Bool}:EE (AZ r fr sp nest) [.g sp]:=fun q0 s hs=>by
 unfold AZ;split
 ·exact .split _ _ _ _ hs
 ·cases sp with
  |true=>exact .flat true hs
  |false=>have:=TL.flat false hs;simpa [fsp] using this
theorem b2v{k u:Int}:EE (DY k u) []:=fun q0 s hs=>by
 rw[GE];unfold DY;split<;>exact hs
theorem c6Y{k:Int}:EE (Il k) []:=fun q0 s hs=>by
 rw[GE];unfold Il;split<;>exact hs
def qL(f:Int→List Gp):Ad→Bool→List Gp
 |[],_=>[]
 |c::l,first=>(if first then [] else [.t [44],.g true])++(f c++qL f l false)
def Og(f:Int→List Gp)(op:Aa)(ks:Ad)(en:Aa):List Gp:=
 if ks=[] then [.t op,.t en] else [.t op,.g false]++(qL f ks true++[.g false,.t en])
def qCh(f:Int→List Gp)(t:Aa):Ad→Bool→List Gp
 |[],_=>[]
 |c::l,first=>(if first then [] else [.t (32::t),.g true])++(f c++qCh f t l false)
def qPk(f:Int→List Gp):Ad→Int→List Gp
 |[],_=>[]
 |c::l,i=>(if i=0 then [] else [.g true,.t (pkT i)])++(f c++qPk f l (i+1))
def qCa(f:Int→List Gp):Ad→List Gp
 |[]=>[]
 |c::l=>[.g false,.t [46,46]]++(f c++qCa f l)
def qV1(ns:List Nd)(f:Int→List Gp)(x:Nd):List Gp:=
 if x.kind=1∨x.kind=2∨x.kind=3 then [.t x.text]
 else if x.kind=11 then [.t [40]]++(f (kd x 0)++[.t [41]])
 else if x.kind=6 then f (kd x 0)++[.t (46::x.text)]
 else if x.kind=4 then Og f [91] x.kids [93]
 else if x.kind=5 then f (kd x 0)++Og f [40] (x.kids.drop 1) [41]
 else if x.kind=7 then qCh f x.text x.kids true
 else if x.kind=8 then qPk f x.kids 0
 else if x.kind=9 then [.t (ET ns x++[32,61,62]),.g true]++f (kd x (x.kids.length-1))
 else f (kd x 0)++qCa f (x.kids.drop 1)
def qV(ns:List Nd):Nat→Int→List Gp
 |0,_=>[]
 |n+1,k=>qV1 ns (qV ns n) (Ab ns k)
section
variable {f:Int→Int→Bs→Bs} {q:Int→List Gp}
theorem b2w(h:∀c a,EE (f c a) (q c)){r g inner:Int}:∀ {l:Ad} {first:Bool},EE (itL f r g inner l first) (qL q l first)
 |[],first=>fun q0 s hs=>by simpa [qL,itL] using hs
 |c::l,first=>fun q0 s hs=>by
  rw[qL,itL,←Bz,←Bz]
  refine b2w h _ _ (h _ _ _ _ ?_)
  cases first with
  |true=>simpa using hs
  |false=>have:=Of (r:=r) (fr:=g) (nest:=inner) (sp:=true) _ _ (Jg [44] _ _ hs);simpa using this
theorem b2x(h:∀c a,EE (f c a) (q c)){rd:Bool}{op:Aa}{ks:Ad}{en:Aa}{a:Int}:EE (FF rd f op ks en a) (Og q op ks en):=fun q0 s hs=>by
 unfold FF Og
 split
 ·have:=Jg en _ _ (Jg op _ _ hs);simpa using this
 ·have:=Jg en _ _ (Of (r:=AP rd (As op s)) (fr:=1) (nest:=a) (sp:=false) _ _ (b2w h (r:=AP rd (As op s)) (g:=min ks.length 2) (inner:=up4 a) (l:=ks) (first:=true) _ _ (Of (r:=AP rd (As op s)) (fr:=1) (nest:=up4 a) (sp:=false) _ _ (Sy (rd:=rd) (v:=min ks.length 2+1) (c:=1) _ _ (Jg op _ _ hs)))))
  simpa using this
theorem c6Z(h:∀c a,EE (f c a) (q c)){ns:List Nd}{r inner c:Int}:EE (KI ns f r inner c) (q c):=fun q0 s hs=>by
 have h1:=h c inner _ _ hs
 have h2:TL (q0++q c) (if Ai ns c=7 then DY (Es s.rules.length (f c inner s)) r (f c inner s) else f c inner s).chunks (if Ai ns c=7 then DY (Es s.rules.length (f c inner s)) r (f c inner s) else f c inner s).text:=by
  split
  ·have:=b2v (k:=Es s.rules.length (f c inner s)) (u:=r) _ _ h1;simpa using this
  ·exact h1
 unfold KI
 dsimp only
 split
 ·exact h2
 ·have:=c6Y (k:=s.chunks.length) _ _ h2;simpa using this
theorem b2y(h:∀c a,EE (f c a) (q c)){ns:List Nd}{r inner:Int}{t:Aa}:∀ {l:Ad} {first:Bool},EE (chL ns f r inner t l first) (qCh q t l first)
 |[],first=>fun q0 s hs=>by simpa [qCh,chL] using hs
 |c::l,first=>fun q0 s hs=>by
  rw[qCh,chL,←Bz,←Bz]
  refine b2y h _ _ (c6Z h _ _ ?_)
  cases first with
  |true=>simpa using hs
  |false=>have:=Of (r:=r) (fr:=1) (nest:=inner) (sp:=true) _ _ (Jg (32::t) _ _ hs);simpa using this
theorem c7a(h:∀c a,EE (f c a) (q c)){ns:List Nd}{r inner c:Int}:EE (KJ ns f r inner c) (q c):=fun q0 s hs=>by
 have h1:=h c inner _ _ hs
 unfold KJ
 split
 ·have:=b2v (k:=Es s.rules.length (f c inner s)) (u:=r) _ _ h1;simpa using this
 ·exact h1
theorem b2z(h:∀c a,EE (f c a) (q c)){ns:List Nd}{r inner:Int}:∀ {l:Ad} {i:Int},EE (pkL ns f r inner l i) (qPk q l i)
 |[],i=>fun q0 s hs=>by simpa [qPk,pkL] using hs
 |c::l,i=>fun q0 s hs=>by
  rw[qPk,pkL,←Bz,←Bz]
  refine b2z h _ _ (c7a h _ _ ?_)
  by_cases hi:i=0
  ·rw[if_pos hi,if_pos hi];simpa using hs
  ·rw[if_neg hi,if_neg hi]
   have:=Jg (pkT i) _ _ (Of (r:=r) (fr:=1) (nest:=inner) (sp:=true) _ _ hs);simpa using this
theorem b2A(h:∀c a,EE (f c a) (q c)){r inner:Int}:∀ {l:Ad},EE (caL f r inner l) (qCa q l)
 |[]=>fun q0 s hs=>by simpa [qCa,caL] using hs
 |c::l=>fun q0 s hs=>by
  rw[qCa,caL,←Bz,←Bz]
  refine b2A h _ _ (h _ _ _ _ ?_)
  have:=Jg [46,46] _ _ (Of (r:=r) (fr:=1) (nest:=inner) (sp:=false) _ _ hs);simpa using this
theorem c7b(h:∀c a,EE (f c a) (q c)){ns:List Nd}{rd:Bool}{x:Nd}{a:Int}:EE (bV1 ns rd f x a) (qV1 ns q x):=by
 unfold bV1 qV1
 split
 ·exact Jg _
 split
 ·intro q0 s hs
  have:=Jg [41] _ _ (h (kd x 0) a _ _ (Jg [40] _ _ hs));simpa using this
 split
 ·exact b2u (h _ _) (Jg _)
 split
 ·exact b2x h
 split
 ·exact b2u (h _ _) (b2x h)
 split
 ·intro q0 s hs
  have:=b2y h (ns:=ns) (r:=AP rd s) (inner:=up4 a) (t:=x.text) (l:=x.kids) (first:=true) _ _ (Sy (rd:=rd) (v:=2) (c:=1) _ _ hs)
  simpa [NX] using this
 split
 ·intro q0 s hs
  have:=b2z h (ns:=ns) (r:=AP rd s) (inner:=up4 a) (l:=x.kids) (i:=0) _ _ (Sy (rd:=rd) (v:=2) (c:=1) _ _ hs)
  simpa [PB] using this
 split
 ·intro q0 s hs
  have:=h (kd x (x.kids.length-1)) (up4 a) _ _ (Of (r:=AP rd (As (ET ns x++[32,61,62]) s)) (fr:=1) (nest:=up4 a) (sp:=true) _ _ (Sy (rd:=rd) (v:=2) (c:=2) _ _ (Jg (ET ns x++[32,61,62]) _ _ hs)))
  simpa [bFn] using this
 ·intro q0 s hs
  have:=b2A h (r:=AP rd s) (inner:=up4 a) (l:=x.kids.drop 1) _ _ (h (kd x 0) a _ _ (Sy (rd:=rd) (v:=2) (c:=1) _ _ hs))
  simpa [b1C] using this
end
theorem b2B{ns:List Nd}{rd:Bool}:∀ {n:Nat} {k a:Int},EE (bV ns rd n k a) (qV ns n k)
 |0,k,a=>fun q0 s hs=>by simpa [qV,bV] using hs
 |n+1,k,a=>by
  have:=c7b (f:=bV ns rd n) (q:=qV ns n) (fun c a=>b2B) (ns:=ns) (rd:=rd) (x:=Ab ns k) (a:=a)
  exact this
def qB(ns:List Nd)(n:Nat)(k:Int)(pre post:Aa):List Gp:=([.t pre]++(if Dc pre then [.g true] else []))++(qV ns n k++[.t post])
theorem c7c{ns:List Nd}{n:Nat}{k:Int}{pre:Aa}:TL (([.t pre]++(if Dc pre then [.g true] else []))++qV ns n k) (Dt ns n k pre).chunks (Dt ns n k pre).text:=by
 refine b2B (rd:=true) (a:=0) _ _ ?_
 have h0:TL [.t pre] (b00 pre).chunks (b00 pre).text:=by have:=TL.put pre .nil;simpa [b00] using this
 unfold Gf
 split
 ·have:=Of (r:=AP true (b00 pre)) (fr:=1) (nest:=4) (sp:=true) _ _ (Sy (rd:=true) (v:=2) (c:=2) _ _ h0);simpa using this
 ·simpa using h0
theorem c7d{nl:Aa}{ns:List Nd}{n:Nat}{k ind:Int}{pre post:Aa}{v:Ad}:∃T K,Ren nl (qB ns n k pre post) T K∧jnl nl (EC (bdP ns n k pre post ind) v)=blk ind++T∧(EC (bdP ns n k pre post ind) v).length=K+1:=by
 have h1:=c6U (nl:=nl) (ind:=ind) (v:=v) (@c7c ns n k pre)
 have h2:=YC h1 (.put (b:=post) .nil)
 have h3:= @a4w nl ind v ⟨(Dt ns n k pre).text++post,0,0,false,0⟩ (Dt ns n k pre).chunks (blk ind)
 refine⟨rT nl ind v (Dt ns n k pre).chunks++((Dt ns n k pre).text++post),rK v (Dt ns n k pre).chunks,?_,?_,?_⟩
 rotate_left
 ·show jnl nl (rnL ind v ((Dt ns n k pre).chunks++[⟨(Dt ns n k pre).text++post,0,0,false,0⟩]) (blk ind))=_
  exact h3.1
 ·exact h3.2
 ·have e:rT nl ind v (Dt ns n k pre).chunks++((Dt ns n k pre).text++post)=rT nl ind v (Dt ns n k pre).chunks++(Dt ns n k pre).text++(post++[]):=by simp
  have e2:qB ns n k pre post=([.t pre]++(if Dc pre then [.g true] else []))++qV ns n k++[.t post]:=by simp [qB]
  rw[e2]
  show Ren nl _ (rT nl ind v (Dt ns n k pre).chunks++((Dt ns n k pre).text++post)) _
  rw[e];exact h2
end Go.My
end
