/- joined -/
import Derived.Test.YtblmpjljedglaaaGreatDoorQK
set_option linter.unusedSimpArgs false
set_option linter.unusedVariables false
section
namespace Go.My
open Go.Eng
theorem Fi{s t:List UInt8}:Be (s++t)=(Be s&&Be t):=by simp [Be]
theorem b5T{c:UInt8}(h:Cp c=true):Bw c=true:=by
 simp only[Cp,CE,Bu,Bool.or_eq_true,Bool.and_eq_true,decide_eq_true_eq] at h
 simp only[Bw,Bool.and_eq_true,decide_eq_true_eq];omega
theorem b5U{c:UInt8}(h:Bu c=true):Bw c=true:=by
 simp only[Bu,Bool.or_eq_true,Bool.and_eq_true,decide_eq_true_eq] at h
 simp only[Bw,Bool.and_eq_true,decide_eq_true_eq];omega
theorem a5b{p:UInt8→Bool}(hp:∀c,p c=true→Bw c=true){s:List UInt8}(h:s.all p=true):Be s=true:=by
 rw[Be,List.all_eq_true];rw[List.all_eq_true] at h
 exact fun c hc=>hp c (h c hc)
theorem a5c{s:List UInt8}(h:CX s=true):Be s=true:=by
 simp only[CX,Bool.and_eq_true] at h
 have h:=h.1
 rw[UY] at h
 cases s with
 |nil=>rfl
 |cons b s=>
  simp only[Bool.and_eq_true] at h
  exact a5b (fun c hc=>b5T hc) h.2.1
theorem b5V{s:List UInt8}(h:BV s 2=true):Be s=true:=by
 rw[UZ] at h
 simp only[Bool.and_eq_true] at h
 exact a5b (fun c hc=>b5U hc) h.1
theorem b5W{s:List UInt8}(h:BV s 3=true):Be s=true:=by
 have h2:=h
 rw[PZ] at h2
 cases s with
 |nil=>rfl
 |cons c t=>
  simp only[Bool.and_eq_true] at h2
  have h39:c.toNat=39:=by simpa [isQ] using h2.1
  have hc:CE c=false:=by simp [CE];omega
  have hf:Bu c=false:=by simp [Bu];omega
  simp only[BV,Cm,hc,hf,h39,Bool.false_eq_true,if_false,if_true,Bool.and_eq_true,beq_iff_eq] at h
  obtain⟨_,h4,_,h5,_⟩:=h
  unfold En at h4 h5
  split at h4
  ·cases h4
  ·rename_i i hi
   simp only[hi] at h5
   rw[h5] at h4;exact h4
theorem b5X{s:List UInt8}(h:HU s=true):Be s=true:=by
 simp only[HU,Bool.or_eq_true,beq_iff_eq] at h
 rcases h with rfl|rfl|rfl|rfl|rfl|rfl|rfl<;>decide
theorem b5Y{k:Int}{s:List UInt8}(h:Dv k s=true)(hk:AX k=true):Be s=true:=by
 have hv:=BA.1 hk
 unfold Dv at h
 split at h
 ·exact a5c h
 split at h
 ·exact b5V h
 split at h
 ·exact b5W h
 split at h
 ·omega
 split at h
 ·exact b5X h
 ·simp at h;rw[h];rfl
structure bW (s:Bs):Prop where
 ru:∀r∈s.rules,(2≤r.vals∧r.vals≤3)∧1≤r.cost∧r.cost≤2
 ch:∀c∈s.chunks,Be c.text=true∧(0≤c.rule∧c.rule<s.rules.length)∧(1≤c.fr∧c.fr<(s.rules.getD c.rule.toNat ru0).vals)∧0≤c.nest∧c.nest≤40
 sp:∀x∈s.spans,(0≤x.fr∧x.fr≤x.tuu∧x.tuu<s.chunks.length)∧x.cost=1
 ti:∀x∈s.ties,(0≤x.kid∧x.kid<s.rules.length)∧(0≤x.up∧x.up<s.rules.length)∧x.kid≠x.up
 tx:Be s.text=true
structure bG (s t:Bs):Prop where
 w:bW t
 ru:∃e,t.rules=s.rules++e
def rIn(s:Bs)(r fr:Int):Prop:=r<0∨((0≤r∧r<s.rules.length)∧fr<(s.rules.getD r.toNat ru0).vals)
theorem a5d{α:Type}{l e:List α}{i:Nat}{d:α}(h:i<l.length):(l++e).getD i d=l.getD i d:=by simp [List.getD,List.getElem?_append_left h]
theorem FS{s t:Bs}{r fr:Int}(h:rIn s r fr)(g:bG s t):rIn t r fr:=by
 obtain⟨e,he⟩:=g.ru
 rcases h with h|⟨h1,h2⟩
 ·exact .inl h
 ·refine .inr ⟨by rw[he,List.length_append];omega,?_⟩
  rw[he,a5d (by omega)];exact h2
theorem He{s:Bs}(h:bW s):bG s s:=⟨h,[],by simp⟩
theorem CB{s t u:Bs}(h:bG s t)(g:bG t u):bG s u:=by
 obtain⟨e,he⟩:=h.ru;obtain⟨f,hf⟩:=g.ru
 exact⟨g.w,e++f,by rw[hf,he,List.append_assoc]⟩
theorem FT{s:Bs}{t:List UInt8}(h:bW s)(ht:Be t=true):bG s (Am t s):=⟨⟨h.ru,h.ch,h.sp,h.ti,by show Be (s.text++t)=true;rw[Fi,h.tx,ht];rfl⟩,[],by simp [Am]⟩
theorem MO{rd:Bool}{v c:Int}{s:Bs}(h:bW s)(hv:2≤v∧v≤3)(hc:1≤c∧c≤2):bG s (Bd rd v c s):=by
 unfold Bd
 split
 ·refine⟨⟨fun r hr=> ?_,fun x hx=> ?_,h.sp,fun x hx=> ?_,h.tx⟩,[⟨v,c⟩],rfl⟩
  ·rcases List.mem_append.1 hr with hr|hr
   ·exact h.ru r hr
   ·simp at hr;subst hr;exact⟨hv,hc⟩
  ·have:=h.ch x hx
   simp only[List.length_append,List.length_cons,List.length_nil]
   rw[a5d (by omega)]
   exact⟨this.1,by omega,this.2.2⟩
  ·have:=h.ti x hx
   simp only[List.length_append,List.length_cons,List.length_nil]
   omega
 ·exact He h
theorem MP{rd:Bool}{v c fr:Int}{s:Bs}(hf:fr<v):rIn (Bd rd v c s) (AM rd s) fr:=by
 unfold Bd AM
 split
 ·refine .inr ⟨by simp;omega,?_⟩
  simp [List.getD,hf]
 ·exact .inl (by omega)
theorem Jw{r fr nest:Int}{sp:Bool}{s:Bs}(h:bW s)(hr:rIn s r fr)(hf:1≤fr)(hn:0≤nest):bG s (AU r fr sp nest s):=by
 unfold AU
 split
 ·rename_i hc
  refine⟨⟨h.ru,fun x hx=> ?_,fun x hx=> ?_,h.ti,rfl⟩,[],by simp⟩
  ·rcases List.mem_append.1 hx with hx|hx
   ·exact h.ch x hx
   ·simp at hx;subst hx
    rcases hr with hr|hr
    ·omega
    ·exact⟨h.tx,hr.1,⟨hf,hr.2⟩,by show 0≤min nest 40;omega,by show min nest 40≤40;omega⟩
  ·have:=h.sp x hx
   simp only[List.length_append,List.length_cons,List.length_nil]
   omega
 ·split
  ·exact FT h rfl
  ·exact He h
theorem b5Z{k u:Int}{s:Bs}(h:bW s)(hk:k<s.rules.length)(hu:u<s.rules.length)(hne:0≤k→k≠u):bG s (CH k u s):=by
 unfold CH
 split
 ·rename_i hc
  refine⟨⟨h.ru,h.ch,h.sp,fun x hx=> ?_,h.tx⟩,[],by simp⟩
  rcases List.mem_append.1 hx with hx|hx
  ·exact h.ti x hx
  ·simp at hx;subst hx
   exact⟨⟨hc.1.1,hk⟩,⟨hc.1.2,hu⟩,hne hc.1.1⟩
 ·exact He h
theorem b6a{f:Int}{s:Bs}(h:bW s)(hf:0≤f):bG s (Fe f s):=by
 unfold Fe
 split
 ·rename_i hc
  refine⟨⟨h.ru,h.ch,fun x hx=> ?_,h.ti,h.tx⟩,[],by simp⟩
  rcases List.mem_append.1 hx with hx|hx
  ·exact h.sp x hx
  ·simp at hx;subst hx
   exact⟨⟨hf,hc.1,by show(s.chunks.length:Int)-1<s.chunks.length;omega⟩,rfl⟩
 ·exact He h
def Jx(f:Int→Int→Bs→Bs)(l:List Int):Prop:=∀c∈l,∀a s,0≤a→bW s→bG s (f c a s)
theorem Sj{f:Int→Int→Bs→Bs}{c:Int}{l:List Int}(h:Jx f (c::l)):Jx f l:=fun d hd=>h d (by simp [hd])
theorem a5e{f:Int→Int→Bs→Bs}{r g inner:Int}(hg:1≤g)(hi:0≤inner):∀ {l:List Int} {first:Bool} {s:Bs},Jx f l→bW s→rIn s r g→bG s (itL f r g inner l first s)
 |[],_,s,_,h,_=>He h
 |c::l,first,s,hf,h,hr=>by
  have h1:bG s (if first then s else AU r g true inner (Am [44] s)):=by
   split
   ·exact He h
   ·have h2:=FT h (t:=[44]) rfl
    exact CB h2 (Jw h2.w (FS hr h2) hg hi)
  have h2:=CB h1 (hf c (by simp) inner _ hi h1.w)
  rw[itL]
  exact CB h2 (a5e hg hi (Sj hf) h2.w (FS hr h2))
theorem a5f{rd:Bool}{f:Int→Int→Bs→Bs}{op en:List UInt8}{ks:List Int}{a:Int}{s:Bs}(hf:Jx f ks)(h:bW s)(ho:Be op=true)(he:Be en=true)(ha:0≤a):bG s (Eb rd f op ks en a s):=by
 have h1:=FT h ho
 unfold Eb
 split
 ·exact CB h1 (FT h1.w he)
 ·rename_i hne
  have hk:0<ks.length:=List.length_pos_iff.2 hne
  have hu:0≤up4 a:=by unfold up4;omega
  have h2:=CB h1 (MO (rd:=rd) (v:=min ks.length 2+1) (c:=1) h1.w (by omega) (by omega))
  have hr:∀g:Int,g<min ks.length 2+1→rIn (Bd rd (min ks.length 2+1) 1 (Am op s)) (AM rd (Am op s)) g:=fun g hg=>MP hg
  have h3:=Jw (nest:=up4 a) (sp:=false) h2.w (hr 1 (by omega)) (by omega) hu
  have h4:=a5e (g:=min ks.length 2) (first:=true) (by omega) hu hf h3.w (FS (hr (min ks.length 2) (by omega)) h3)
  have h5:=Jw (nest:=a) (sp:=false) h4.w (FS (FS (hr 1 (by omega)) h3) h4) (by omega) ha
  exact CB h2 (CB h3 (CB h4 (CB h5 (FT h5.w he))))
theorem XF{s:Bs}{r fr:Int}(h:rIn s r fr):r<s.rules.length:=by rcases h with h|h<;>omega
theorem b6b{n:Nat}{s:Bs}:Dy n s<s.rules.length:=by unfold Dy;split<;>omega
theorem a5g{n:Nat}{s t:Bs}{r:Int}(hn:r<n)(hg:bG s t)(hr:rIn s r 1):bG s (CH (Dy n t) r t):=
 CB hg (b5Z hg.w b6b (XF (FS hr hg)) (fun h=>by unfold Dy at h ⊢;split at h<;>simp_all<;>omega))
theorem b6c{ns:List Nd}{f:Int→Int→Bs→Bs}{r inner c:Int}{s:Bs}(hf:∀a s,0≤a→bW s→bG s (f c a s))(hi:0≤inner)(h:bW s)(hr:rIn s r 1):bG s (HZ ns f r inner c s):=by
 have h1:=hf inner s hi h
 have h2:bG s (if Al ns c=7 then CH (Dy s.rules.length (f c inner s)) r (f c inner s) else f c inner s):=by
  split
  ·exact a5g (by have:=XF hr;omega) h1 hr
  ·exact h1
 unfold HZ
 simp only
 split
 ·exact h2
 ·exact CB h2 (b6a h2.w (by omega))
theorem a5h{ns:List Nd}{f:Int→Int→Bs→Bs}{r inner:Int}{t:List UInt8}(hi:0≤inner)(ht:Be t=true):∀ {l:List Int} {first:Bool} {s:Bs},Jx f l→bW s→rIn s r 1→bG s (chL ns f r inner t l first s)
 |[],_,s,_,h,_=>He h
 |c::l,first,s,hf,h,hr=>by
  have h1:bG s (if first then s else AU r 1 true inner (Am (32::t) s)):=by
   split
   ·exact He h
   ·have h2:=FT h (t:=32::t) (by rw[show(32::t:List UInt8)=[32]++t from rfl,Fi,ht];rfl)
    exact CB h2 (Jw h2.w (FS hr h2) (by omega) hi)
  have h2:=CB h1 (b6c (ns:=ns) (hf c (by simp)) hi h1.w (FS hr h1))
  rw[chL]
  exact CB h2 (a5h hi ht (Sj hf) h2.w (FS hr h2))
theorem b6d{ns:List Nd}{f:Int→Int→Bs→Bs}{r inner c:Int}{s:Bs}(hf:∀a s,0≤a→bW s→bG s (f c a s))(hi:0≤inner)(h:bW s)(hr:rIn s r 1):bG s (Ia ns f r inner c s):=by
 have h1:=hf inner s hi h
 unfold Ia
 split
 ·exact a5g (by have:=XF hr;omega) h1 hr
 ·exact h1
theorem b6e{i:Int}:Be (pkT i)=true:=by
 unfold pkT;split
 ·rfl
 ·split<;>rfl
theorem a5i{ns:List Nd}{f:Int→Int→Bs→Bs}{r inner:Int}(hi:0≤inner):∀ {l:List Int} {i:Int} {s:Bs},Jx f l→bW s→rIn s r 1→bG s (pkL ns f r inner l i s)
 |[],_,s,_,h,_=>He h
 |c::l,i,s,hf,h,hr=>by
  have h1:bG s (if i=0 then s else Am (pkT i) (AU r 1 true inner s)):=by
   split
   ·exact He h
   ·have h2:=Jw (nest:=inner) (sp:=true) h hr (by omega) hi
    exact CB h2 (FT h2.w b6e)
  have h2:=CB h1 (b6d (ns:=ns) (hf c (by simp)) hi h1.w (FS hr h1))
  rw[pkL]
  exact CB h2 (a5i hi (Sj hf) h2.w (FS hr h2))
theorem a5j{f:Int→Int→Bs→Bs}{r inner:Int}(hi:0≤inner):∀ {l:List Int} {s:Bs},Jx f l→bW s→rIn s r 1→bG s (caL f r inner l s)
 |[],s,_,h,_=>He h
 |c::l,s,hf,h,hr=>by
  have h1:=Jw (nest:=inner) (sp:=false) h hr (by omega) hi
  have h2:=CB h1 (FT (t:=[46,46]) h1.w rfl)
  have h3:=CB h2 (hf c (by simp) inner _ hi h2.w)
  rw[caL]
  exact CB h3 (a5j hi (Sj hf) h3.w (FS hr h3))
theorem a5k{ns:List Nd}:∀ {l:List Int} {first:Bool},(∀c∈l,Be (Aa ns c).text=true)→Be (Dz ns l first)=true
 |[],_,_=>rfl
 |c::l,first,h=>by
  rw[Dz,Fi,Fi,h c (by simp),a5k fun d hd=>h d (by simp [hd])]
  split<;>rfl
theorem b6f{rd:Bool}{ns:List Nd}{f:Int→Int→Bs→Bs}{x:Nd}{a:Int}{s:Bs}(hf:Jx f x.kids)(h:bW s)(ha:0≤a)(hx:Be x.text=true)(hn:∀c∈x.kids,Be (Aa ns c).text=true)
 (hp:x.kind≠1→x.kind≠2→x.kind≠3→x.kind≠4→0<x.kids.length):bG s (bV1 ns rd f x a s):=by
 have hu:0≤up4 a:=by unfold up4;omega
 unfold bV1
 split
 ·exact FT h hx
 split
 ·have h1:=FT (t:=[40]) h rfl
  have h2:=hf _ (DR (x:=x) (i:=0) (hp (by omega) (by omega) (by omega) (by omega))) a _ ha h1.w
  exact CB (CB h1 h2) (FT h2.w rfl)
 split
 ·have h2:=hf _ (DR (x:=x) (i:=0) (hp (by omega) (by omega) (by omega) (by omega))) a _ ha h
  exact CB h2 (FT h2.w (by rw[show(46::x.text:List UInt8)=[46]++x.text from rfl,Fi,hx];rfl))
 split
 ·exact a5f hf h rfl rfl ha
 split
 ·have h2:=hf _ (DR (x:=x) (i:=0) (hp (by omega) (by omega) (by omega) (by omega))) a _ ha h
  exact CB h2 (a5f (fun c hc=>hf c (List.mem_of_mem_drop hc)) h2.w rfl rfl ha)
 split
 ·have h1:=MO (rd:=rd) (v:=2) (c:=1) h (by omega) (by omega)
  exact CB h1 (a5h hu hx hf h1.w (MP (by omega)))
 split
 ·have h1:=MO (rd:=rd) (v:=2) (c:=1) h (by omega) (by omega)
  exact CB h1 (a5i hu hf h1.w (MP (by omega)))
 split
 ·have h0:Be (CS ns x++[32,61,62])=true:=by
   rw[Fi,CS,show∀l:List UInt8,(40::l)=[40]++l from fun _=>rfl,Fi,Fi,a5k fun c hc=>hn c (List.mem_of_mem_take hc)]
   rfl
  have h1:=FT h h0
  have h2:=MO (rd:=rd) (v:=2) (c:=2) h1.w (by omega) (by omega)
  have h3:=Jw (nest:=up4 a) (sp:=true) (fr:=1) h2.w (MP (by omega)) (by omega) hu
  have h4:=hf _ (DR (x:=x) (i:=x.kids.length-1) (by have:=hp (by omega) (by omega) (by omega) (by omega);omega)) (up4 a) _ hu h3.w
  exact CB h1 (CB h2 (CB h3 h4))
 ·have h1:=MO (rd:=rd) (v:=2) (c:=1) h (by omega) (by omega)
  have h2:=hf _ (DR (x:=x) (i:=0) (hp (by omega) (by omega) (by omega) (by omega))) a _ ha h1.w
  exact CB h1 (CB h2 (a5j hu (fun c hc=>hf c (List.mem_of_mem_drop hc)) h2.w (FS (MP (by omega)) h2)))
theorem a5l{ns:List Nd}{k:Int}(h:BB ns k)(hv:AX (Al ns k)=true):Be (Aa ns k).text=true:=b5Y (Dj (Eo h)).2.2.1 hv
theorem b6g{ns:List Nd}{k:Int}(h:BB ns k)(hv:AX (Al ns k)=true)(h1:(Aa ns k).kind≠1)(h2:(Aa ns k).kind≠2)(h3:(Aa ns k).kind≠3)(h4:(Aa ns k).kind≠4):0<(Aa ns k).kids.length:=by
 have hv:=BA.1 hv
 have hlo:=(HY h).2.1
 unfold Al at hv
 unfold CN at hlo
 split at hlo
 ·omega
 ·split at hlo
  ·simp only at hlo;omega
  ·split at hlo
   ·simp only at hlo;omega
   ·split at hlo
    ·simp only at hlo;omega
    ·split at hlo
     ·simp only at hlo;omega
     ·omega
theorem a5m{ns:List Nd}{rd:Bool}:∀ {n:Nat} {k a:Int} {s:Bs},BB ns k→k<n→AX (Al ns k)=true→0≤a→bW s→bG s (bV ns rd n k a s)
 |0,k,a,s,h,hk,_,_,_=>by have:=Bc.1 h.1;omega
 |n+1,k,a,s,h,hk,hv,ha,hw=>by
  rw[bV]
  refine b6f (fun c hc a s ha hw=> ?_) hw ha (a5l h hv) (fun c hc=>a5l (CG h hc).1 (Mk h hv hc)) (b6g h hv)
  have hm:=CG h hc
  exact a5m hm.1 (by omega) (Mk h hv hc) ha hw
def Dd(s:List UInt8):Bool:=s.getLast? ==some 61
def b00(pre:List UInt8):Bs:=⟨[],[],[],[],pre⟩
def Fx(pre:List UInt8):Bs:=if Dd pre then AU (AM true (b00 pre)) 1 true 4 (Bd true 2 2 (b00 pre)) else b00 pre
def Fj(ns:List Nd)(n:Nat)(k:Int)(pre:List UInt8):Bs:=bV ns true n k 0 (Fx pre)
def Jy(ind:Int)(s:Bs)(post:List UInt8):Pc:=⟨ind,s.rules,s.chunks++[⟨s.text++post,0,0,false,0⟩],s.spans,s.ties⟩
def bdP(ns:List Nd)(n:Nat)(k:Int)(pre post:List UInt8)(ind:Int):Pc:=Jy ind (Fj ns n k pre) post
theorem b6h{pre:List UInt8}(h:Be pre=true):bW (b00 pre):=⟨by simp [b00],by simp [b00],by simp [b00],by simp [b00],h⟩
theorem XG{pre:List UInt8}:bOk (b00 pre):=⟨by simp [b00],by simp [b00],by simp [b00],by simp [b00]⟩
theorem b6i{pre:List UInt8}(h:Be pre=true):bW (Fx pre):=by
 have h0:=b6h h
 unfold Fx
 split
 ·have h1:=MO (rd:=true) (v:=2) (c:=2) h0 (by omega) (by omega)
  exact(Jw (nest:=4) (sp:=true) (fr:=1) h1.w (MP (by omega)) (by omega) (by omega)).w
 ·exact h0
theorem b6j{pre:List UInt8}{m:Nat}(h:pre.length+1+m≤2^61):bR m (Fx pre):=by
 have h0:bR (1+m) (b00 pre):=⟨XG,by simp [tot,Ci,b00];omega⟩
 unfold Fx
 split
 ·exact Jr (HD h0) (by omega)
 ·exact Dg h0 (by omega)
theorem b6k{α:Type}{l:List α}{x d:α}:(l++[x]).getLast?.getD d=x:=by simp
theorem b6l{s:Bs}{ind:Int}{post:List UInt8}(hw:bW s)(ho:bOk s)(hp:Be post=true)(hi:0≤ind∧ind≤60):Bo (Jy ind s post)=true:=by
 have hru:(Jy ind s post).rules=s.rules:=rfl
 have hch:(Jy ind s post).chunks=s.chunks++[⟨s.text++post,0,0,false,0⟩]:=rfl
 have hl:(Jy ind s post).chunks.length=s.chunks.length+1:=by rw[hch];simp
 have h1:=ho.ru;have h2:=ho.ch
 unfold Bo
 simp only[Bool.and_eq_true,decide_eq_true_eq]
 refine⟨BA.2 hi,?_,?_,⟨ho.sp,ho.ti⟩,?_,?_⟩
 ·simp only[Ft,Bool.and_eq_true,decide_eq_true_eq,List.all_eq_true]
  refine⟨h1,fun r hr=> ?_⟩
  have:=hw.ru r hr
  simp only[Ep,Bool.and_eq_true]
  exact⟨BA.2 this.1,BA.2 (by omega)⟩
 ·simp only[EF,Bool.and_eq_true]
  refine⟨BA.2 (by rw[hl];omega),a1g.2 fun i c hc=> ?_,?_⟩
  ·rw[hch] at hc
   by_cases e:i<s.chunks.length
   ·rw[List.getElem?_append_left e] at hc
    have:=hw.ch c (AZ hc)
    refine⟨this.1,fun _=> ?_⟩
    simp only[Ee,Bool.and_eq_true]
    refine⟨BA.2 (by rw[hru];omega),BA.2 ?_,BA.2 this.2.2.2⟩
    have h3:=this.2.2.1
    have h4:CI (Jy ind s post) c.rule=s.rules.getD c.rule.toNat ru0:=rfl
    rw[h4];omega
   ·rw[List.getElem?_append_right (by omega)] at hc
    have hj:i-s.chunks.length=0:=by
     rcases Nat.eq_zero_or_pos (i-s.chunks.length) with h|h
     ·exact h
     ·rw[List.getElem?_eq_none (by simp;omega)] at hc;cases hc
    rw[hj] at hc
    simp at hc;subst hc
    refine⟨by show Be (s.text++post)=true;rw[Fi,hw.tx,hp];rfl,fun hlt=> ?_⟩
    rw[hl] at hlt;omega
  ·rw[hch,b6k];rfl
 ·rw[List.all_eq_true]
  intro x hx
  have:=hw.sp x hx
  simp only[DS,Bool.and_eq_true,decide_eq_true_eq]
  rw[hl]
  exact⟨⟨this.1.1,this.1.2.1⟩,by omega,BA.2 (by omega)⟩
 ·rw[List.all_eq_true]
  intro x hx
  have:=hw.ti x hx
  simp only[FO,Bool.and_eq_true,Bool.not_eq_true',decide_eq_false_iff_not]
  rw[hru]
  exact⟨BA.2 (by omega),BA.2 (by omega),this.2.2⟩
structure bdQ (ns:List Nd) (n:Nat) (k:Int) (pre post:List UInt8) (ind:Int):Prop where
 up:BB ns k
 lt:k<n
 vl:AX (Al ns k)=true
 tw:tW ns n k≤2^60
 pr:pre.length≤40∧Be pre=true
 po:post.length≤40∧Be post=true
 ind:0≤ind∧ind≤60
theorem XH{ns:List Nd}{n:Nat}{k ind:Int}{pre post:List UInt8}(h:bdQ ns n k pre post ind):bR (tW ns n k+100) (Fx pre):=b6j (by have:=h.pr;have:=h.tw;omega)
theorem Sk{ns:List Nd}{n:Nat}{k ind:Int}{pre post:List UInt8}(h:bdQ ns n k pre post ind):bR 100 (Fj ns n k pre):=MD (rd:=true) (XH h) (Ml h.up h.lt h.vl) (by omega)
theorem MQ{ns:List Nd}{n:Nat}{k ind:Int}{pre post:List UInt8}(h:bdQ ns n k pre post ind):Bo (bdP ns n k pre post ind)=true:=
 b6l (a5m h.up h.lt h.vl (by omega) (b6i h.pr.2)).w (Sk h).1 h.po.2 h.ind
theorem OP{ns:List Nd}{n:Nat}{k ind:Int}{pre post:List UInt8}(h:bdQ ns n k pre post ind):pcS (bdP ns n k pre post ind):=by
 have h1:=EQ (MQ h)
 have h2:=(Sk h).2
 have h3:Ci (bdP ns n k pre post ind).chunks=Ci (Fj ns n k pre).chunks+((Fj ns n k pre).text.length+post.length):=by
  rw[bdP,Jy,a0V];simp [Ci]
 unfold tot at h2
 have h4:=h.po
 refine⟨⟨by have:=h1.rl;omega,by have:=h1.cl;omega⟩,⟨⟨by have:=h1.snl;omega,by have:=h1.til;omega⟩,by omega⟩,fun r hr=> ?_⟩
 have:=(h1.ru r hr).1;omega
structure Ws where
 ls:List (List UInt8)
 st:Int
structure WC where
 ns:List Nd
 w:Int
 bud:Int
def Bv(i:Int)(t:List UInt8)(s:Ws):Ws:=⟨s.ls++[blk i++t],s.st⟩
def Eh(p:Pc)(w bud:Int):List (List UInt8):=BF p (srF p w bud).1.best
def Et(p:Pc)(w bud:Int):Int:=(srF p w bud).2
def BZ(c:WC)(n:Nat)(pre:List UInt8)(k:Int)(post:List UInt8)(i:Int)(s:Ws):Ws:=
 ⟨s.ls++Eh (bdP c.ns n k pre post i) c.w c.bud,if Et (bdP c.ns n k pre post i) c.w c.bud=2 then 2 else s.st⟩
def Iu(ns:List Nd)(k:Int)(s:Ws):Ws:=if(Aa ns k).blank then⟨s.ls++[[]],s.st⟩ else s
def EH(ns:List Nd)(f:Int→Int→Ws→Ws)(i:Int):List Int→Ws→Ws
 |[],s=>s
 |k::l,s=>EH ns f i l (f k i (Iu ns k s))
def CC(ns:List Nd)(f:Int→Int→Ws→Ws)(k i:Int)(s:Ws):Ws:=EH ns f (i+2) (Aa ns k).kids s
def hdT(ns:List Nd)(x:Nd):List UInt8:=x.text++[40]++Dz ns (x.kids.take (x.kids.length-1)) true++[41,32,123]
def wV1(c:WC)(n:Nat)(f:Int→Int→Ws→Ws)(x:Nd)(i:Int)(s:Ws):Ws:=
 if x.kind=19 then Bv i x.text s
 else if x.kind=12 then(if x.kids.length=0 then Bv i ([118,97,114,32]++x.text++[59]) s else BZ c n ([118,97,114,32]++x.text++[32,61]) (kd x 0) [59] i s)
 else if x.kind=13 then BZ c n (x.text++[32,61]) (kd x 0) [59] i s
 else if x.kind=14 then BZ c n [] (kd x 0) [59] i s
 else if x.kind=15 then(if x.kids.length=0 then Bv i [114,101,116,117,114,110,59] s else BZ c n [114,101,116,117,114,110,32] (kd x 0) [59] i s)
 else if x.kind=16 then Bv i [125] (if x.kids.length=3 then CC c.ns f (kd x 2) i (Bv i [125,32,101,108,115,101,32,123] (CC c.ns f (kd x 1) i (BZ c n [105,102,32,40] (kd x 0) [41,32,123] i s))) else CC c.ns f (kd x 1) i (BZ c n [105,102,32,40] (kd x 0) [41,32,123] i s))
 else if x.kind=17 then Bv i [125] (CC c.ns f (kd x 1) i (BZ c n [119,104,105,108,101,32,40] (kd x 0) [41,32,123] i s))
 else if x.kind=20 then Bv i [125] (CC c.ns f (kd x (x.kids.length-1)) i (Bv i (hdT c.ns x) s))
 else if x.kind=21 then Bv i [125] (EH c.ns f (i+2) x.kids (Bv i ([99,108,97,115,115,32]++x.text++[32,123]) s))
 else s
def wN(c:WC)(n:Nat):Nat→Int→Int→Ws→Ws
 |0,_,_,s=>s
 |m+1,k,i,s=>wV1 c n (wN c n m) (Aa c.ns k) i s
def wW(ns:List Nd):Nat→Int→Nat
 |0,_=>0
 |m+1,k=>if AX (Al ns k) then 0 else if Al ns k=18∨Al ns k=21∨Al ns k=22 then 2+(wL (wW ns m) (Aa ns k).kids+(Aa ns k).kids.length) else 85+wL (wW ns m) (Aa ns k).kids
theorem a5n{p:Pc}{w bud:Int}(h:pcOk p):(Eh p w bud).length≤81:=(Oa h).2
theorem p25(d:Nat)(h:2≤d):25^(d/2)=25*25^((d-2)/2):=by
 rw[show d/2=(d-2)/2+1 by omega,Nat.pow_succ,Nat.mul_comm]
structure dpP (ns:List Nd) (K:Nat) (ds:List Int):Prop where
 hd:BW ns K=some ds
theorem Jz{ns:List Nd}{K:Nat}{ds:List Int}(hd:BW ns K=some ds){k c:Int}(h:BB ns k)(hK:k<K)(hc:c∈(Aa ns k).kids):(1≤ds.getD c.toNat 0∧ds.getD c.toNat 0+1≤ds.getD k.toNat 0)∧ds.getD k.toNat 0≤14:=by
 have hr:=Bc.1 h.1
 have hm:=CG h hc
 have hat:=Je hd k.toNat (by omega)
 rw[show((k.toNat:Nat):Int)=k by omega] at hat
 exact⟨⟨(Je hd c.toNat (by omega)).1.1,hat.2 c hc⟩,hat.1.2⟩
theorem kko{ns:List Nd}{k:Int}(h:BB ns k):CR (Aa ns k).kind ((Aa ns k).kids.map (Al ns))=true:=(Dj (Eo h)).2.2.2.2.2.1
theorem HF{ns:List Nd}{k:Int}(h:BB ns k){e:Int}(he:Al ns k=e):CR e ((Aa ns k).kids.map (Al ns))=true:=by have:=kko h;rw[show(Aa ns k).kind=e from he] at this;exact this
theorem HG{ns:List Nd}{k:Int}(h:BB ns k)(hk:Al ns k=12∨Al ns k=13∨Al ns k=14∨Al ns k=15∨Al ns k=19):∀c∈(Aa ns k).kids,AX (Al ns c)=true:=by
 have ha:∀(p:Bool),(p&&((Aa ns k).kids.map (Al ns)).all AX)=true→∀c∈(Aa ns k).kids,AX (Al ns c)=true:=fun p hp=>by
  rw[Bool.and_eq_true] at hp;exact Vy hp.2
 rcases hk with e|e|e|e|e
 ·exact ha _ (HF h e)
 ·exact ha _ (HF h e)
 ·exact ha _ (HF h e)
 ·exact ha _ (HF h e)
 ·have h:=HF h e
  simp only[CR,true_or,or_true,if_true,decide_eq_true_eq,List.length_map] at h
  intro c hc
  rw[List.eq_nil_of_length_eq_zero h] at hc;cases hc
theorem JA{ns:List Nd}{k:Int}(h:BB ns k)(hk:Al ns k=16):(2≤(Aa ns k).kids.length∧(Aa ns k).kids.length≤3)∧AX (Al ns (kd (Aa ns k) 0))=true∧∀c∈(Aa ns k).kids.drop 1,Al ns c=18:=by
 have h1:(decide (2≤((Aa ns k).kids.map (Al ns)).length)&&decide (((Aa ns k).kids.map (Al ns)).length≤3)&&(AX (((Aa ns k).kids.map (Al ns)).headD 0)&&(((Aa ns k).kids.map (Al ns)).drop 1).all CY))=true:=HF h hk
 simp only[Bool.and_eq_true,decide_eq_true_eq,List.length_map,List.all_eq_true] at h1
 refine⟨h1.1,?_,fun c hc=> ?_⟩
 ·have:=h1.2.1
  match hx:(Aa ns k).kids with
  |[]=>rw[hx] at h1;simp at h1
  |d::l=>rw[hx] at this;rw[show kd (Aa ns k) 0=d by simp [kd,hx]];exact this
 ·have:=h1.2.2 (Al ns c) (by rw[←List.map_drop];exact List.mem_map.2 ⟨c,hc,rfl⟩)
  simpa [CY] using this
theorem OQ{ns:List Nd}{k:Int}(h:BB ns k)(hk:Al ns k=17):(Aa ns k).kids.length=2∧AX (Al ns (kd (Aa ns k) 0))=true∧Al ns (kd (Aa ns k) 1)=18:=by
 have h1:(decide (((Aa ns k).kids.map (Al ns)).length=2)&&(AX (((Aa ns k).kids.map (Al ns)).headD 0)&&CY (((Aa ns k).kids.map (Al ns)).getD 1 0)))=true:=HF h hk
 simp only[Bool.and_eq_true,decide_eq_true_eq,List.length_map] at h1
 match hx:(Aa ns k).kids with
 |[]=>rw[hx] at h1;simp at h1
 |[d]=>rw[hx] at h1;simp at h1
 |d::e::l=>
  rw[hx] at h1
  refine⟨h1.1,?_,?_⟩
  ·rw[show kd (Aa ns k) 0=d by simp [kd,hx]];exact h1.2.1
  ·rw[show kd (Aa ns k) 1=e by simp [kd,hx]];simpa [CY] using h1.2.2
theorem a5o{ns:List Nd}{k:Int}(h:BB ns k)(hk:Al ns k=18):∀c∈(Aa ns k).kids,CM (Al ns c)=true:=by
 have h1:((Aa ns k).kids.map (Al ns)).all CM=true:=HF h hk
 rw[List.all_eq_true] at h1
 exact fun c hc=>h1 _ (List.mem_map.2 ⟨c,hc,rfl⟩)
theorem a5p{ns:List Nd}{k:Int}(h:BB ns k)(hk:Al ns k=21):∀c∈(Aa ns k).kids,CF (Al ns c)=true:=by
 have h1:((Aa ns k).kids.map (Al ns)).all CF=true:=HF h hk
 rw[List.all_eq_true] at h1
 exact fun c hc=>h1 _ (List.mem_map.2 ⟨c,hc,rfl⟩)
theorem JB{ns:List Nd}{k:Int}(h:BB ns k)(hk:Al ns k=20):1≤(Aa ns k).kids.length∧Al ns (kd (Aa ns k) ((Aa ns k).kids.length-1))=18∧∀c∈(Aa ns k).kids.take ((Aa ns k).kids.length-1),Al ns c=1:=by
 have h1:EA CY ((Aa ns k).kids.map (Al ns))=true:=HF h hk
 unfold EA at h1
 split at h1
 ·rename_i l hl
  rw[Bool.and_eq_true,List.all_eq_true] at h1
  have hpos:1≤(Aa ns k).kids.length:=by
   rcases Nat.eq_zero_or_pos (Aa ns k).kids.length with e|e
   ·rw[List.eq_nil_of_length_eq_zero e] at hl;simp at hl
   ·exact e
  refine⟨hpos,?_,fun c hc=> ?_⟩
  ·rw[List.getLast?_eq_getElem?,List.length_map,List.getElem?_map,Option.map_eq_some_iff] at hl
   obtain⟨d,hd,e⟩:=hl
   rw[Cr hd,e];simpa [CY] using h1.1
  ·have h2:Al ns c∈((Aa ns k).kids.map (Al ns)).dropLast:=by
    rw[List.dropLast_eq_take,List.length_map,←List.map_take]
    exact List.mem_map.2 ⟨c,hc,rfl⟩
   simpa [Dw] using h1.2 _ h2
 ·cases h1
theorem MR{ns:List Nd}{m:Nat}{k:Int}(h:AX (Al ns k)=true):wW ns m k=0:=by
 cases m with
 |zero=>rfl
 |succ m=>rw[wW,if_pos h]
theorem OT{w:Int→Nat}:∀ {l:List Int},(∀c∈l,w c=0)→wL w l=0
 |[],_=>rfl
 |c::l,h=>by rw[Db,h c (by simp),OT fun d hd=>h d (by simp [hd])]
theorem a5q{ns:List Nd}{m:Nat}{k:Int}{B:Nat}(h:BB ns k)(hk:Al ns k=18∨Al ns k=21∨Al ns k=22)(hB:5≤B)(hs:∀c∈(Aa ns k).kids,wW ns m c+5≤B):wW ns (m+1) k+46≤12*B:=by
 have h1:=Jf (w:=wW ns m) (b:=B-5) (l:=(Aa ns k).kids) fun c hc=>by have:=hs c hc;omega
 have h2:=(Dj (Eo h)).2.1
 have h3:(Aa ns k).kids.length*(B-5)≤12*(B-5):=Nat.mul_le_mul_right _ h2
 have hv:AX (Al ns k)=false:=by
  rcases hk with e|e|e<;>rw[e]<;>rfl
 rw[wW,if_neg (by rw[hv];simp),if_pos hk];omega
theorem Sl{a:Nat}:120≤120*25^(a/2):=by
 have:1≤25^(a/2):=Nat.one_le_pow _ _ (by omega)
 omega
theorem a5r{w:Int→Nat}{x:Nd}(h:0<x.kids.length)(h0:w (kd x 0)=0):wL w x.kids=wL w (x.kids.drop 1):=by have:=Vx (w:=w) h;omega
theorem OU{k:Int}(h:CM k=true):k=12∨k=13∨k=14∨k=15∨k=16∨k=17∨k=19:=by
 simp only[CM,Gm,Bool.or_eq_true,decide_eq_true_eq] at h
 rcases h with h|h
 ·have:=BA.1 h;omega
 ·omega
theorem XI{ns:List Nd}{K:Nat}{ds:List Int}(hd:BW ns K=some ds){m:Nat}(ih:∀ {k:Int} {d:Nat},BB ns k→k<m→k<K→CM (Al ns k)=true→ds.getD k.toNat 0≤d→wW ns m k+5≤120*25^(d/2)){k c:Int}{d:Nat}(h:BB ns k)(hm:k<(m+2:Nat))(hK:k<K)(hd':ds.getD k.toNat 0≤d)(hc:c∈(Aa ns k).kids)(hk:Al ns c=18):
 wW ns (m+1) c+46≤12*(120*25^((d-2)/2)):=by
 have h1:=CG h hc
 have h2:=Jz hd h hK hc
 refine a5q h1.1 (.inl hk) (by have:= @Sl (d-2);omega) fun e he=> ?_
 have h3:=CG h1.1 he
 have h4:=Jz hd h1.1 (by omega) he
 exact ih h3.1 (by omega) (by omega) (a5o h1.1 hk e he) (by omega)
theorem OV{ns:List Nd}{K:Nat}{ds:List Int}(hd:BW ns K=some ds):∀(m:Nat),∀ {k:Int} {d:Nat},BB ns k→k<m→k<K→CM (Al ns k)=true→ds.getD k.toNat 0≤d→wW ns m k+5≤120*25^(d/2):=by
 intro m
 induction m using Nat.strongRecOn with
 |_ m ih=>
  intro k d h hm hK hs hle
  have hr:=Bc.1 h.1
  obtain⟨m1,rfl⟩:∃m1,m=m1+1:=⟨m-1,by omega⟩
  have hp:= @Sl d
  have hv:AX (Al ns k)=false:=by
   rcases OU hs with e|e|e|e|e|e|e<;>rw[e]<;>rfl
  have hn:¬(Al ns k=18∨Al ns k=21∨Al ns k=22):=by rcases OU hs with e|e|e|e|e|e|e<;>omega
  rw[wW,if_neg (by rw[hv];simp),if_neg hn]
  have hval:(Al ns k=12∨Al ns k=13∨Al ns k=14∨Al ns k=15∨Al ns k=19)→wL (wW ns m1) (Aa ns k).kids=0:=fun hh=>OT fun c hc=>MR (HG h hh c hc)
  have hblk:∀c∈(Aa ns k).kids,Al ns c=18→wW ns m1 c+46≤12*(120*25^((d-2)/2))∧2≤d:=by
   intro c hc h18
   have h1:=CG h hc
   have h2:=Jz hd h hK hc
   obtain⟨m2,rfl⟩:∃m2,m1=m2+1:=⟨m1-1,by omega⟩
   exact⟨XI hd (fun a b c e f=>ih m2 (by omega) a b c e f) h hm hK hle hc h18,by omega⟩
  rcases OU hs with e|e|e|e|e|e|e
  ·rw[hval (by omega)];omega
  ·rw[hval (by omega)];omega
  ·rw[hval (by omega)];omega
  ·rw[hval (by omega)];omega
  ·obtain⟨⟨hl1,hl2⟩,hv0,hbs⟩:=JA h e
   rw[a5r (by omega) (MR hv0)]
   have h3:=Jf (w:=wW ns m1) (b:=12*(120*25^((d-2)/2))-46) (l:=(Aa ns k).kids.drop 1) fun c hc=>by have:=(hblk c (List.mem_of_mem_drop hc) (hbs c hc)).1;omega
   have h4:((Aa ns k).kids.drop 1).length*(12*(120*25^((d-2)/2))-46)≤2*(12*(120*25^((d-2)/2))-46):=Nat.mul_le_mul_right _ (by rw[List.length_drop];omega)
   have h5:= @Sl (d-2)
   have h6:2≤d:=by
    have hm:=DR (x:=Aa ns k) (i:=1) (by omega)
    have:kd (Aa ns k) 1∈(Aa ns k).kids.drop 1:=by
     have hg:(Aa ns k).kids[1]? =some (Aa ns k).kids[1]:=List.getElem?_eq_getElem (by omega)
     have e2:=List.drop_eq_getElem_cons (l:=(Aa ns k).kids) (i:=1) (by omega)
     rw[Cr hg,e2];exact List.mem_cons_self
    exact(hblk _ hm (hbs _ this)).2
   have h7:=p25 d h6
   rw[h7];omega
  ·obtain⟨hl,hv0,hb⟩:=OQ h e
   have hm:=DR (x:=Aa ns k) (i:=1) (by omega)
   have h3:=hblk _ hm hb
   have h4:=p25 d h3.2
   have h5:= @Sl (d-2)
   rw[a5r (by omega) (MR hv0)]
   have e2:(Aa ns k).kids.drop 1=[kd (Aa ns k) 1]:=by
    have hg:(Aa ns k).kids[1]? =some (Aa ns k).kids[1]:=List.getElem?_eq_getElem (by omega)
    rw[Cr hg,List.drop_eq_getElem_cons (by omega),List.drop_of_length_le (by omega)]
   rw[e2,h4];simp [wL];omega
  ·rw[hval (by omega)];omega
theorem b6m{ns:List Nd}{K:Nat}{ds:List Int}(hd:BW ns K=some ds){m:Nat}{k:Int}(h:BB ns k)(hm:k<m)(hK:k<K)(hk:CF (Al ns k)=true)(hle:ds.getD k.toNat 0≤13):wW ns m k+5≤14062500200:=by
 have hr:=Bc.1 h.1
 by_cases e:Al ns k=20
 ·obtain⟨m1,rfl⟩:∃m1,m=m1+1:=⟨m-1,by omega⟩
  obtain⟨hl,hb,hn⟩:=JB h e
  have hmm:=DR (x:=Aa ns k) (i:=(Aa ns k).kids.length-1) (by omega)
  have h1:=CG h hmm
  obtain⟨m2,rfl⟩:∃m2,m1=m2+1:=⟨m1-1,by omega⟩
  have h2:=XI hd (fun a b c e f=>OV hd m2 a b c e f) (d:=13) h hm hK hle hmm hb
  have h3:=Qx (w:=wW ns (m2+1)) (x:=Aa ns k) (by omega)
  rw[OT fun c hc=>MR (by rw[hn c hc];rfl)] at h3
  rw[wW,e,if_neg (by decide),if_neg (by decide),←h3]
  have:12*(120*25^((13-2)/2))=14062500000:=by decide
  omega
 ·have hs:CM (Al ns k)=true:=by
   simp only[CF,Bool.or_eq_true,decide_eq_true_eq] at hk
   rcases hk with hk|hk|hk
   ·rw[hk];rfl
   ·exact absurd hk e
   ·rw[hk];rfl
  have h1:=OV hd m (d:=13) h hm hK hs hle
  have:120*25^(13/2)=29296875000:=by decide
  have hp:Al ns k=12∨Al ns k=19:=by
   simp only[CF,Bool.or_eq_true,decide_eq_true_eq] at hk;omega
  obtain⟨m1,rfl⟩:∃m1,m=m1+1:=⟨m-1,by omega⟩
  have hz:wL (wW ns m1) (Aa ns k).kids=0:=OT fun c hc=>MR (HG h (by omega) c hc)
  rw[wW,if_neg (by rcases hp with e|e<;>rw[e]<;>decide),if_neg (by omega),hz];omega
theorem b6n{ns:List Nd}{K:Nat}{ds:List Int}(hd:BW ns K=some ds){m:Nat}{k:Int}(h:BB ns k)(hm:k<m)(hK:k<K)(hk:Al ns k=21):wW ns m k+46≤168750002400:=by
 have hr:=Bc.1 h.1
 obtain⟨m1,rfl⟩:∃m1,m=m1+1:=⟨m-1,by omega⟩
 refine a5q (B:=14062500200) h (.inr (.inl hk)) (by omega) fun c hc=> ?_
 have h1:=CG h hc
 have h2:=Jz hd h hK hc
 exact b6m hd h1.1 (by omega) (by omega) (a5p h hk c hc) (by omega)
def Fy(k:Int):Bool:=CM k||(CF k||decide (k=21))
theorem b6o{ns:List Nd}{K:Nat}{ds:List Int}(hd:BW ns K=some ds){m:Nat}{k:Int}(h:BB ns k)(hm:k<m)(hK:k<K)(hk:Fy (Al ns k)=true):wW ns m k+5≤732421875000:=by
 have hr:=Bc.1 h.1
 have hat:=(Je hd k.toNat (by omega)).1
 simp only[Fy,Bool.or_eq_true,decide_eq_true_eq] at hk
 rcases hk with hk|hk|hk
 ·have h1:=OV hd m (d:=14) h hm hK hk (by omega)
  have:120*25^(14/2)=732421875000:=by decide
  omega
 ·by_cases e:Al ns k=20
  ·obtain⟨m1,rfl⟩:∃m1,m=m1+1:=⟨m-1,by omega⟩
   obtain⟨hl,hb,hn⟩:=JB h e
   have hmm:=DR (x:=Aa ns k) (i:=(Aa ns k).kids.length-1) (by omega)
   have h1:=CG h hmm
   obtain⟨m2,rfl⟩:∃m2,m1=m2+1:=⟨m1-1,by omega⟩
   have h2:=XI hd (fun a b c e f=>OV hd m2 a b c e f) (d:=14) h hm hK (by omega) hmm hb
   have h3:=Qx (w:=wW ns (m2+1)) (x:=Aa ns k) (by omega)
   rw[OT fun c hc=>MR (by rw[hn c hc];rfl)] at h3
   rw[wW,e,if_neg (by decide),if_neg (by decide),←h3]
   have:12*(120*25^((14-2)/2))=351562500000:=by decide
   omega
  ·have hs:CM (Al ns k)=true:=by
    simp only[CF,Bool.or_eq_true,decide_eq_true_eq] at hk
    rcases hk with hk|hk|hk
    ·rw[hk];rfl
    ·exact absurd hk e
    ·rw[hk];rfl
   have h1:=OV hd m (d:=14) h hm hK hs (by omega)
   have:120*25^(14/2)=732421875000:=by decide
   omega
 ·have:=b6n hd h hm hK hk;omega
end Go.My
end
section
namespace Go.My
open Go.Eng Go.Proofs
variable {G:GInv}
theorem b6p{s:List UInt8}(h:(s.length:Int)≥1):(s.drop ((s.length:Int)-1).toNat==[61])=Dd s:=by
 have hl:((s.length:Int)-1).toNat=s.length-1:=by omega
 rw[hl]
 have h2:s≠[]:=by intro e;rw[e] at h;simp at h
 have h3:=List.dropLast_concat_getLast h2
 have h4:s.drop (s.length-1)=[s.getLast h2]:=by
  conv=>lhs;rw[←h3]
  rw[List.drop_append,List.length_dropLast];simp
 rw[h4,Dd,List.getLast?_eq_some_getLast h2]
 simp
theorem b6q{s:List UInt8}(h:¬(s.length:Int)≥1):false=Dd s:=by
 have:s=[]:=List.eq_nil_of_length_eq_zero (by omega)
 subst this;rfl
def Lh:Sig:= {X:=List UInt8×List UInt8,args:=fun x=>[.str x.1,.str x.2],pre:=fun x=>x.2=[61]∧x.1.length≤2^62,Y:=Unit,post:=fun x y=>True,res:=fun x y=> .bool (Dd x.1),outs:=fun x y=>[.top,.top],keep:=false}
theorem b6r:Ah G Tryz.prog 111 Lh:=
 vcFun_okP [] [] false (fun x=>[]) Tryz.func111 rfl (by decide) trivial (fun(x:List UInt8×List UInt8)=>(∀(y:Unit),True→True∧True∧True∧True)∧Ab (decide ((↑(List.length x.1):Int)≥(↑(List.length x.2):Int))) (inR IntKind.i64 ((↑(List.length x.1):Int)-(↑(List.length x.2):Int))∧((0:Int)≤(↑(List.length x.1):Int)-(↑(List.length x.2):Int)∧(↑(List.length x.1):Int)-(↑(List.length x.2):Int)≤(↑(List.length x.1):Int)∧(↑(List.length x.1):Int)≤(↑(List.length x.1):Int))∧rA Lh x [.bool (List.drop (Int.toNat ((↑(List.length x.1):Int)-(↑(List.length x.2):Int))) x.1==x.2),.top,.top]) (rA Lh x [.bool false,.top,.top])) (fun x=>by kernel_rfl) fun(x:List UInt8×List UInt8) (hx:x.2=[61]∧x.1.length≤2^62)=>(by
 dsimp only[rA,Lh,Aq,Aw]
 obtain⟨s,t⟩:=x;dsimp only at hx ⊢
 obtain⟨rfl,h2⟩:=hx
 (repeat' first|(with_reducible first|rfl|exact True.intro|apply AG|apply And.intro|((first|apply Au|apply AE|apply Av|apply AF)<;>intro _))|(apply As<;>intro _)|apply AD|refine Af () ?_ ?_|((first|apply AK|apply AJ|apply AI|apply AH|apply AC|apply AB|apply AA|apply Az|apply Ax)<;>try dsimp only)|apply Af|(refine Prod.forall.2 ?_;intro _;try dsimp only)|(intro _;try dsimp only))
 all_goals first
  |rfl
  |exact b6q ‹_›
  |exact b6p ‹_›
  |((try simp only[Aj,List.length_cons,List.length_nil] at*);omega)
  |skip)
def Iv:Sig:= {X:=List UInt8×List UInt8,args:=fun x=>[.str x.1,.str x.2],pre:=fun x=>x.2=[61]∧x.1.length≤2^62,Y:=Unit,post:=fun x y=>True,res:=fun x y=> .bool (Dd x.1),outs:=fun x y=>[.top,.top],keep:=false}
theorem a5s:Ah G Tryz.prog 78 Iv:=
 vcFun_okP [(111,0,Lh)] [] false (fun x=>[]) Tryz.func78 rfl (by decide) ⟨b6r,trivial⟩ (fun(x:List UInt8×List UInt8)=>(∀(y:Unit),True→True∧True∧True∧True)∧cA Lh [.str x.1,.str x.2] fun x_1 y=>rA Iv x [.bool (Dd x_1.1),.top,.top]) (fun x=>by kernel_rfl) fun(x:List UInt8×List UInt8) (hx:x.2=[61]∧x.1.length≤2^62)=>(by
 dsimp only[cA,rA,Iv,Lh,Aq,Aw,mvL,lnL,mvE,lnE,mvG,mvH,lnG,lnH]
 obtain⟨s,t⟩:=x;dsimp only at hx ⊢
 obtain⟨rfl,h2⟩:=hx
 (repeat' first|(with_reducible first|rfl|exact True.intro|apply AG|apply And.intro|((first|apply Au|apply AE|apply Av|apply AF)<;>intro _))|(apply As<;>intro _)|apply AD|refine Af () ?_ ?_|((first|apply AK|apply AJ|apply AI|apply AH|apply AC|apply AB|apply AA|apply Az|apply Ax)<;>try dsimp only)|apply Af|(refine Prod.forall.2 ?_;intro _;try dsimp only)|(intro _;try dsimp only))
 all_goals first
  |rfl
  |exact h2
  |skip)
def De(s:List UInt8):Bool:=decide (s.length≤40)&&Be s
def JC:Sig:= {X:=List UInt8,args:=fun x=>[.str x],pre:=fun x=>x.length<2^62,Y:=Unit,post:=fun x y=>True,res:=fun x y=> .bool (De x),outs:=fun x y=>[.top],keep:=false}
theorem b6s:Ah G Tryz.prog 37 JC:=
 vcFun_okP [(77,0,EB)] [] false (fun x=>[]) Tryz.func37 rfl (by decide) ⟨PY,trivial⟩ (fun(x:List UInt8)=>(∀(y:Unit),True→True∧True∧True)∧Ab (decide ((↑(List.length x):Int)≤(40:Int))) (cA EB [.str x] fun x_1 y=>rA JC x [.bool (List.all x_1 Bw),.top]) (rA JC x [.bool false,.top])) (fun x=>by kernel_rfl) fun(x:List UInt8) (hx:x.length<2^62)=>(by
 dsimp only[cA,rA,EB,JC,Aq,Aw,mvL,lnL,mvE,lnE,mvG,mvH,lnG,lnH]
 have hx:x.length<2^62:=hx
 (repeat' first|(with_reducible first|rfl|exact True.intro|apply AG|apply And.intro|((first|apply Au|apply AE|apply Av|apply AF)<;>intro _))|(apply As<;>intro _)|apply AD|refine Af () ?_ ?_|((first|apply AK|apply AJ|apply AI|apply AH|apply AC|apply AB|apply AA|apply Az|apply Ax)<;>try dsimp only)|apply Af|(refine Prod.forall.2 ?_;intro _;try dsimp only)|(intro _;try dsimp only))
 all_goals first
  |rfl
  |omega
  |(simp [De,Be];omega)
  |(simp only[De,Be];rw[decide_eq_true (show x.length≤40 by omega)];rfl)
  |skip)
def Cv(ns:List Nd)(k:Int):Bool:=Bf ns k&&(AX (Al ns k)&&decide (0<BM ns k))
def JD:Sig:= {X:=List Nd×Int,args:=fun x=>[nds x.1,.int .i64 x.2],pre:=fun x=>CZ x.1∧x.1.length≤2^30,Y:=Unit,post:=fun x y=>True,res:=fun x y=> .bool (Cv x.1 x.2),outs:=fun x y=>[.top,.top],keep:=false}
theorem b6t:Ah G Tryz.prog 35 JD:=
 vcFun_okP [(57,0,DZ),(76,0,EC),(58,0,Gx)] [] false (fun x=>[]) Tryz.func35 rfl (by decide) ⟨NS,Qg,a0I,trivial⟩ (fun(x:List Nd×Int)=>(∀(y:Unit),True→True∧True∧True∧True)∧cA DZ [nds x.1,.int .i64 x.2] fun x_1 y=>Ab (Bf x_1.1 x_1.2) (((0:Int)≤x.2∧x.2<(↑(List.length x.1):Int))∧∀(e:Nd),x.1[Int.toNat x.2]? =some e→cA EC [.int .i64 e.kind] fun x_2 y=>Ab (AX x_2) (cA Gx [nds x.1,.int .i64 x.2] fun x_3 y=>rA JD x [.bool (decide (BM x_3.1 x_3.2>(0:Int))),.top,.top]) (rA JD x [.bool false,.top,.top])) (rA JD x [.bool false,.top,.top])) (fun x=>by kernel_rfl) fun(x:List Nd×Int) (hx:CZ x.1∧x.1.length≤2^30)=>(by
 dsimp only[cA,Bi,nds,rA,Gx,DZ,EC,JD,Aq,Aw,mvL,lnL,mvE,lnE,mvG,mvH,lnG,lnH]
 obtain⟨ns,k⟩:=x;dsimp only at hx ⊢
 obtain⟨h1,h2⟩:=hx
 (repeat' first|(with_reducible first|rfl|exact True.intro|apply AG|apply And.intro|((first|apply Au|apply AE|apply Av|apply AF)<;>intro _))|(apply As<;>intro _)|apply AD|refine Af () ?_ ?_|((first|apply AK|apply AJ|apply AI|apply AH|apply AC|apply AB|apply AA|apply Az|apply Ax)<;>try dsimp only)|apply Af|(refine Prod.forall.2 ?_;intro _;try dsimp only)|(intro _;try dsimp only))
 all_goals(try(have hi:=Bc.1 (show Bf ns k=true by assumption)))
 all_goals first
  |rfl
  |exact⟨h1,h2⟩
  |omega
  |(simp [Cv, *];done)
  |(rename ns[_]? =some _=>he;simp [Cv,Eg he, *];done)
  |skip)
theorem Sm{β:Type}{q:BC×β→Prop}(c:BC)(h:∃b,q (c,b)):∃x,q x:=let⟨b,hb⟩:=h;⟨(c,b),hb⟩
theorem XJ{pre:List UInt8}(h:pre.length≤40):bB (b00 pre):=⟨XG,by simp [tot,Ci,b00];omega⟩
theorem a5t{pre:List UInt8}{t:Bs}(ht:t=Bd true 2 2 (b00 pre))(h:pre.length≤40):bB t:=by
 subst ht
 have h1:=XJ h
 exact CV (m:=0) (HD ⟨h1.ok,h1.tt⟩)
theorem a5u{ns:List Nd}{n:Nat}{k ind:Int}{pre post:List UInt8}{t u:Bs}(ht:t=AU (AM true (b00 pre)) 1 true 4 u)(hu:u=Bd true 2 2 (b00 pre))(he:Dd pre=true)(h:bdQ ns n k pre post ind):vlP ns n t k 0:=by
 have e:t=Fx pre:=by rw[Fx,if_pos he,ht,hu]
 rw[e];exact⟨h.up,h.lt,h.vl,Dg (XH h) (by omega),by omega⟩
theorem a5v{ns:List Nd}{n:Nat}{k ind:Int}{pre post:List UInt8}(he:Dd pre=false)(h:bdQ ns n k pre post ind):vlP ns n (b00 pre) k 0:=by
 have e:b00 pre=Fx pre:=by rw[Fx,if_neg (by rw[he];simp)]
 rw[e];exact⟨h.up,h.lt,h.vl,Dg (XH h) (by omega),by omega⟩
theorem a5w{ns:List Nd}{n:Nat}{k ind o:Int}{pre:List UInt8}{t u v:Bs}(hv:BJ ⟨ind,ns,true⟩ n t k 0 o v)(ht:t=AU (AM true (b00 pre)) 1 true 4 u)(hu:u=Bd true 2 2 (b00 pre))(he:Dd pre=true):v=Fj ns n k pre:=by
 have e:t=Fx pre:=by rw[Fx,if_pos he,ht,hu]
 rw[Fj,←e];exact hv.1
theorem a5x{ns:List Nd}{n:Nat}{k ind o:Int}{pre:List UInt8}{v:Bs}(hv:BJ ⟨ind,ns,true⟩ n (b00 pre) k 0 o v)(he:Dd pre=false):v=Fj ns n k pre:=by
 have e:b00 pre=Fx pre:=by rw[Fx,if_neg (by rw[he];simp)]
 rw[Fj,←e];exact hv.1
theorem So{ns:List Nd}{n:Nat}{k ind:Int}{pre post:List UInt8}{r1:List Ru}{r2:List Ch}{r3:List Sn}{r4:List Ti}{r5:List UInt8}(h:⟨r1,r2,r3,r4,r5⟩=Fj ns n k pre):(r1=(bdP ns n k pre post ind).rules∧r2++[⟨r5++post,0,0,false,0⟩]=(bdP ns n k pre post ind).chunks)∧r3=(bdP ns n k pre post ind).spans∧r4=(bdP ns n k pre post ind).ties:=by
 rw[bdP,←h];exact⟨⟨rfl,rfl⟩,rfl,rfl⟩
theorem b6u{ns:List Nd}{n:Nat}{k ind:Int}{pre post:List UInt8}{r1:List Ru}{r2:List Ch}{r3:List Sn}{r4:List Ti}{r5:List UInt8}(h:⟨r1,r2,r3,r4,r5⟩=Fj ns n k pre)(hx:bdQ ns n k pre post ind):r2.length≤79∧r5.length≤2^61:=by
 have:=Sk hx
 rw[←h] at this
 exact⟨this.1.ch,Ha (CV this)⟩
def Sp(n:Nat):Sig:= {X:=List Nd×Int×List UInt8×List UInt8×Int,args:=fun x=>[nds x.1,.int .i64 x.2.1,.str x.2.2.1,.str x.2.2.2.1,.int .i64 x.2.2.2.2],pre:=fun x=>bdQ x.1 n x.2.1 x.2.2.1 x.2.2.2.1 x.2.2.2.2,Y:=Unit,post:=fun x y=>True,res:=fun x y=> .tup [.agg (pcA true (bdP x.1 n x.2.1 x.2.2.1 x.2.2.2.1 x.2.2.2.2)),.bool true],outs:=fun x y=>[.top,.top,.top,.top,.top],keep:=false}
theorem b6v(n:Nat):Ah G Tryz.prog 38 (Sp n):=
 vcFun_okP [(78,0,Iv),(79,0,DD),(80,0,CU),(81,0,(Cf n)),(82,0,DB)] [(28,⟨Ch,chA⟩)] false (fun x=>[]) Tryz.func38 rfl (by decide) ⟨a5s,MB,MC,(Xv n),a1v,trivial⟩ (fun(x:List Nd×Int×List UInt8×List UInt8×Int)=>(∀(y:Unit),True→((True∧(∀(x:Ru),True∧True∧True)∧(∀(x:Ch),True∧True∧True∧True∧True∧True)∧(∀(x:Sn),True∧True∧True∧True)∧(∀(x:Ti),True∧True∧True)∧True)∧True∧True)∧True∧True∧True∧True∧True∧True)∧cA Iv [.str x.2.2.1,.str #[(61:UInt8)].toList] fun x_1 y=>Ab (Dd x_1.1) (cA DD [.box 0 [.int .i64 x.2.2.2.2,.nil,.nil,.nil,.nil,nds x.1,.str x.2.2.1,.bool true],.int .i64 (2:Int),.int .i64 (2:Int)] fun x_2 y=>cA CU [.box 0 [.int .i64 x_2.1.ind,AV.sl true 0 2 Ru ruA (yBW y).rules,AV.sl true 0 5 Ch chA (yBW y).chunks,AV.sl true 0 3 Sn snA (yBW y).spans,AV.sl true 0 2 Ti tiA (yBW y).ties,nds x_2.1.ns,.str (yBW y).text,.bool x_2.1.rd],.int .i64 (AM x_2.1.rd (xC x_2)),.int .i64 (1:Int),.bool true,.int .i64 (4:Int)] fun x_3 y=>cA (Cf n) [.box 0 [.int .i64 x_3.1.ind,AV.sl true 0 2 Ru ruA (yBW y).rules,AV.sl true 0 5 Ch chA (yBW y).chunks,AV.sl true 0 3 Sn snA (yBW y).spans,AV.sl true 0 2 Ti tiA (yBW y).ties,nds x_3.1.ns,.str (yBW y).text,.bool x_3.1.rd],.int .i64 x.2.1,.int .i64 (0:Int)] fun x_4 y=>(↑(List.length (yBW y.2).text+List.length x.2.2.2.1):Int)≤IntKind.max IntKind.i64∧∃(x_5:Ch),(yBW y.2).text++x.2.2.2.1=x_5.text∧(0:Int)=x_5.rule∧(0:Int)=x_5.fr∧false=x_5.space∧(0:Int)=x_5.nest∧∃(zs:List Ch),AV.sl true 0 5 Ch chA [x_5]=AV.sl true 0 5 Ch chA zs∧Bg chA∧AY (List.length (yBW y.2).chunks+List.length zs) (48:Nat)∧cA DB [.agg [.int .i64 x_4.1.ind,AV.sl true 0 2 Ru ruA (yBW y.2).rules,AV.sl true 0 5 Ch chA ((yBW y.2).chunks++zs),AV.sl true 0 3 Sn snA (yBW y.2).spans,AV.sl true 0 2 Ti tiA (yBW y.2).ties]] fun x_6 y_1=>Ab (!Bo x_6) (∃(y:Unit),True∧((0:Int)=(bdP x.1 n x.2.1 x.2.2.1 x.2.2.2.1 x.2.2.2.2).ind∧((bdP x.1 n x.2.1 x.2.2.1 x.2.2.2.1 x.2.2.2.2).rules=[]∧((bdP x.1 n x.2.1 x.2.2.1 x.2.2.2.1 x.2.2.2.2).chunks=[]∧((bdP x.1 n x.2.1 x.2.2.1 x.2.2.2.1 x.2.2.2.2).spans=[]∧(bdP x.1 n x.2.1 x.2.2.1 x.2.2.2.1 x.2.2.2.2).ties=[]∧false=true∧True))))) (∃(y_2:Unit),True∧x_4.1.ind=(bdP x.1 n x.2.1 x.2.2.1 x.2.2.2.1 x.2.2.2.2).ind∧AV.sl true 0 2 Ru ruA (yBW y.2).rules=AV.sl true 0 2 Ru ruA (bdP x.1 n x.2.1 x.2.2.1 x.2.2.2.1 x.2.2.2.2).rules∧AV.sl true 0 5 Ch chA ((yBW y.2).chunks++zs)=AV.sl true 0 5 Ch chA (bdP x.1 n x.2.1 x.2.2.1 x.2.2.2.1 x.2.2.2.2).chunks∧AV.sl true 0 3 Sn snA (yBW y.2).spans=AV.sl true 0 3 Sn snA (bdP x.1 n x.2.1 x.2.2.1 x.2.2.2.1 x.2.2.2.2).spans∧AV.sl true 0 2 Ti tiA (yBW y.2).ties=AV.sl true 0 2 Ti tiA (bdP x.1 n x.2.1 x.2.2.1 x.2.2.2.1 x.2.2.2.2).ties∧true=true∧True)) (cA (Cf n) [.box 0 [.int .i64 x.2.2.2.2,.nil,.nil,.nil,.nil,nds x.1,.str x.2.2.1,.bool true],.int .i64 x.2.1,.int .i64 (0:Int)] fun x_2 y=>(↑(List.length (yBW y.2).text+List.length x.2.2.2.1):Int)≤IntKind.max IntKind.i64∧∃(x_3:Ch),(yBW y.2).text++x.2.2.2.1=x_3.text∧(0:Int)=x_3.rule∧(0:Int)=x_3.fr∧false=x_3.space∧(0:Int)=x_3.nest∧∃(zs:List Ch),AV.sl true 0 5 Ch chA [x_3]=AV.sl true 0 5 Ch chA zs∧Bg chA∧AY (List.length (yBW y.2).chunks+List.length zs) (48:Nat)∧cA DB [.agg [.int .i64 x_2.1.ind,AV.sl true 0 2 Ru ruA (yBW y.2).rules,AV.sl true 0 5 Ch chA ((yBW y.2).chunks++zs),AV.sl true 0 3 Sn snA (yBW y.2).spans,AV.sl true 0 2 Ti tiA (yBW y.2).ties]] fun x_4 y_1=>Ab (!Bo x_4) (∃(y:Unit),True∧((0:Int)=(bdP x.1 n x.2.1 x.2.2.1 x.2.2.2.1 x.2.2.2.2).ind∧((bdP x.1 n x.2.1 x.2.2.1 x.2.2.2.1 x.2.2.2.2).rules=[]∧((bdP x.1 n x.2.1 x.2.2.1 x.2.2.2.1 x.2.2.2.2).chunks=[]∧((bdP x.1 n x.2.1 x.2.2.1 x.2.2.2.1 x.2.2.2.2).spans=[]∧(bdP x.1 n x.2.1 x.2.2.1 x.2.2.2.1 x.2.2.2.2).ties=[]∧false=true∧True))))) (∃(y_2:Unit),True∧x_2.1.ind=(bdP x.1 n x.2.1 x.2.2.1 x.2.2.2.1 x.2.2.2.2).ind∧AV.sl true 0 2 Ru ruA (yBW y.2).rules=AV.sl true 0 2 Ru ruA (bdP x.1 n x.2.1 x.2.2.1 x.2.2.2.1 x.2.2.2.2).rules∧AV.sl true 0 5 Ch chA ((yBW y.2).chunks++zs)=AV.sl true 0 5 Ch chA (bdP x.1 n x.2.1 x.2.2.1 x.2.2.2.1 x.2.2.2.2).chunks∧AV.sl true 0 3 Sn snA (yBW y.2).spans=AV.sl true 0 3 Sn snA (bdP x.1 n x.2.1 x.2.2.1 x.2.2.2.1 x.2.2.2.2).spans∧AV.sl true 0 2 Ti tiA (yBW y.2).ties=AV.sl true 0 2 Ti tiA (bdP x.1 n x.2.1 x.2.2.1 x.2.2.2.1 x.2.2.2.2).ties∧true=true∧True))) (fun x=>by kernel_rfl) fun(x:List Nd×Int×List UInt8×List UInt8×Int) (hx:bdQ x.1 n x.2.1 x.2.2.1 x.2.2.2.1 x.2.2.2.2)=>(by
 dsimp only[buA,cA,Bl,Bi,nds,pcA,Bj,DD,CU,Cf,DB,Iv,Bm,sns,Bn,tis,Aq,Aw,mvL,lnL,mvE,lnE,mvG,mvH,lnG,lnH]
 obtain⟨ns,k,pre,post,ind⟩:=x;dsimp only at hx ⊢
 have hx:bdQ ns n k pre post ind:=hx
 have hp:=hx.pr.1;have hp2:=hx.po.1
 (repeat' first|refine Rv ?_|refine Sm ⟨ind,ns,true⟩ ?_|refine Ib (bdP ns n k pre post ind) ?_|(with_reducible first|rfl|exact True.intro|apply AG|apply And.intro|((first|apply Au|apply AE|apply Av|apply AF)<;>intro _))|(apply As<;>intro _)|apply AD|refine Af () ?_ ?_|((first|apply AK|apply AJ|apply AI|apply AH|apply AC|apply AB|apply AA|apply Az|apply Ax)<;>try dsimp only)|apply Af|(refine Prod.forall.2 ?_;intro _;try dsimp only)|(intro _;try dsimp only))
 all_goals(try dsimp only[yBW,xC,zBW,zI,wB] at*)
 all_goals(try(first|(have hE:=a5w (show BJ _ _ _ _ _ _ _ by assumption) ‹_› ‹_› ‹_›)|(have hE:=a5x (show BJ _ _ _ _ _ _ _ by assumption) ‹_›)))
 all_goals first
  |with_reducible rfl
  |exact XJ hp
  |exact a5t ‹_› hp
  |exact a5u ‹_› ‹_› ‹_› hx
  |exact a5v ‹_› hx
  |exact(So hE).1.1
  |exact(So hE).1.2
  |exact(So hE).2.1
  |exact(So hE).2.2
  |exact OP hx
  |(exfalso;rename Bo _=false=>hf;rw[MQ hx] at hf;cases hf)
  |(have hl:=b6u hE hx;(try simp only[Aj,AY,List.length_cons,List.length_nil]);omega)
  |omega
  |rfl
  |skip)
def pc0:Pc:=⟨0,[],[],[],[]⟩
def Bq(ns:List Nd)(k:Int)(pre post:List UInt8)(ind:Int):Bool:=Cv ns k&&(inn ind 0 60&&(De pre&&De post))
structure pfP (ns:List Nd) (n:Nat) (k:Int) (pre post:List UInt8):Prop where
 ok:CZ ns
 l30:ns.length≤2^30
 ln:ns.length≤n
 tw:Cv ns k=true→tW ns n k≤2^60
 pr:pre.length<2^62
 po:post.length<2^62
theorem a5y{ns:List Nd}{k:Int}(h:Cv ns k=true):BB ns k∧AX (Al ns k)=true:=by
 simp only[Cv,Bool.and_eq_true,decide_eq_true_eq] at h
 exact⟨HX (by omega),h.2.1⟩
theorem a5z{ns:List Nd}{n:Nat}{k ind:Int}{pre post:List UInt8}(h:pfP ns n k pre post)(h1:Cv ns k=true)(h2:inn ind 0 60=true)(h3:De pre=true)(h4:De post=true):bdQ ns n k pre post ind:=by
 have hv:=a5y h1
 have hr:=Bc.1 hv.1.1
 simp only[De,Bool.and_eq_true,decide_eq_true_eq] at h3 h4
 exact⟨hv.1,by have:=h.ln;omega,hv.2,h.tw h1,h3,h4,BA.1 h2⟩
def pfR(ns:List Nd)(n:Nat)(k:Int)(pre post:List UInt8)(ind:Int):Pc:=if Bq ns k pre post ind then bdP ns n k pre post ind else pc0
theorem XK{ns:List Nd}{n:Nat}{k ind:Int}{pre post:List UInt8}(h1:Cv ns k=true)(h2:inn ind 0 60=true)(h3:De pre=true)(h4:De post=true):pfR ns n k pre post ind=bdP ns n k pre post ind∧Bq ns k pre post ind=true:=by
 have:Bq ns k pre post ind=true:=by simp [Bq, *]
 exact⟨by rw[pfR,if_pos this],this⟩
theorem OW{ns:List Nd}{n:Nat}{k ind:Int}{pre post:List UInt8}(h:((Cv ns k=false∨inn ind 0 60=false)∨De pre=false)∨De post=false):pfR ns n k pre post ind=pc0∧Bq ns k pre post ind=false:=by
 have:Bq ns k pre post ind=false:=by
  rcases h with((h|h)|h)|h<;>simp [Bq,h]
 exact⟨by rw[pfR,if_neg (by rw[this];simp)],this⟩
def OX(n:Nat):Sig:= {X:=List Nd×Int×List UInt8×List UInt8×Int,args:=fun x=>[nds x.1,.int .i64 x.2.1,.str x.2.2.1,.str x.2.2.2.1,.int .i64 x.2.2.2.2],pre:=fun x=>pfP x.1 n x.2.1 x.2.2.1 x.2.2.2.1,Y:=Unit,post:=fun x y=>True,res:=fun x y=> .tup [.agg (pcA true (pfR x.1 n x.2.1 x.2.2.1 x.2.2.2.1 x.2.2.2.2)),.bool (Bq x.1 x.2.1 x.2.2.1 x.2.2.2.1 x.2.2.2.2)],outs:=fun x y=>[.top,.top,.top,.top,.top],keep:=false}
theorem b6w(n:Nat):Ah G Tryz.prog 8 (OX n):=
 vcFun_okP [(35,0,JD),(36,0,BN),(37,0,JC),(38,0,(Sp n))] [] false (fun x=>[]) Tryz.func8 rfl (by decide) ⟨b6t,GM,b6s,(b6v n),trivial⟩ (fun(x:List Nd×Int×List UInt8×List UInt8×Int)=>(∀(y:Unit),True→((True∧(∀(x:Ru),True∧True∧True)∧(∀(x:Ch),True∧True∧True∧True∧True∧True)∧(∀(x:Sn),True∧True∧True∧True)∧(∀(x:Ti),True∧True∧True)∧True)∧True∧True)∧True∧True∧True∧True∧True∧True)∧cA JD [nds x.1,.int .i64 x.2.1] fun x_1 y=>Ab (!Cv x_1.1 x_1.2) (∃(y:Unit),True∧((0:Int)=(pfR x.1 n x.2.1 x.2.2.1 x.2.2.2.1 x.2.2.2.2).ind∧((pfR x.1 n x.2.1 x.2.2.1 x.2.2.2.1 x.2.2.2.2).rules=[]∧((pfR x.1 n x.2.1 x.2.2.1 x.2.2.2.1 x.2.2.2.2).chunks=[]∧((pfR x.1 n x.2.1 x.2.2.1 x.2.2.2.1 x.2.2.2.2).spans=[]∧((pfR x.1 n x.2.1 x.2.2.1 x.2.2.2.1 x.2.2.2.2).ties=[]∧false=Bq x.1 x.2.1 x.2.2.1 x.2.2.2.1 x.2.2.2.2∧True)))))) (cA BN [.int .i64 x.2.2.2.2,.int .i64 (0:Int),.int .i64 (60:Int)] fun x_2 y=>Ab (!inn x_2.1 x_2.2.1 x_2.2.2) (∃(y:Unit),True∧((0:Int)=(pfR x.1 n x.2.1 x.2.2.1 x.2.2.2.1 x.2.2.2.2).ind∧((pfR x.1 n x.2.1 x.2.2.1 x.2.2.2.1 x.2.2.2.2).rules=[]∧((pfR x.1 n x.2.1 x.2.2.1 x.2.2.2.1 x.2.2.2.2).chunks=[]∧((pfR x.1 n x.2.1 x.2.2.1 x.2.2.2.1 x.2.2.2.2).spans=[]∧((pfR x.1 n x.2.1 x.2.2.1 x.2.2.2.1 x.2.2.2.2).ties=[]∧false=Bq x.1 x.2.1 x.2.2.1 x.2.2.2.1 x.2.2.2.2∧True)))))) (cA JC [.str x.2.2.1] fun x_3 y=>Ab (!De x_3) (∃(y:Unit),True∧((0:Int)=(pfR x.1 n x.2.1 x.2.2.1 x.2.2.2.1 x.2.2.2.2).ind∧((pfR x.1 n x.2.1 x.2.2.1 x.2.2.2.1 x.2.2.2.2).rules=[]∧((pfR x.1 n x.2.1 x.2.2.1 x.2.2.2.1 x.2.2.2.2).chunks=[]∧((pfR x.1 n x.2.1 x.2.2.1 x.2.2.2.1 x.2.2.2.2).spans=[]∧((pfR x.1 n x.2.1 x.2.2.1 x.2.2.2.1 x.2.2.2.2).ties=[]∧false=Bq x.1 x.2.1 x.2.2.1 x.2.2.2.1 x.2.2.2.2∧True)))))) (cA JC [.str x.2.2.2.1] fun x_4 y=>Ab (!De x_4) (∃(y:Unit),True∧((0:Int)=(pfR x.1 n x.2.1 x.2.2.1 x.2.2.2.1 x.2.2.2.2).ind∧((pfR x.1 n x.2.1 x.2.2.1 x.2.2.2.1 x.2.2.2.2).rules=[]∧((pfR x.1 n x.2.1 x.2.2.1 x.2.2.2.1 x.2.2.2.2).chunks=[]∧((pfR x.1 n x.2.1 x.2.2.1 x.2.2.2.1 x.2.2.2.2).spans=[]∧((pfR x.1 n x.2.1 x.2.2.1 x.2.2.2.1 x.2.2.2.2).ties=[]∧false=Bq x.1 x.2.1 x.2.2.1 x.2.2.2.1 x.2.2.2.2∧True)))))) (cA (Sp n) [nds x.1,.int .i64 x.2.1,.str x.2.2.1,.str x.2.2.2.1,.int .i64 x.2.2.2.2] fun x_5 y=>∃(y:Unit),True∧(bdP x_5.1 n x_5.2.1 x_5.2.2.1 x_5.2.2.2.1 x_5.2.2.2.2).ind=(pfR x.1 n x.2.1 x.2.2.1 x.2.2.2.1 x.2.2.2.2).ind∧AV.sl true 0 2 Ru ruA (bdP x_5.1 n x_5.2.1 x_5.2.2.1 x_5.2.2.2.1 x_5.2.2.2.2).rules=AV.sl true 0 2 Ru ruA (pfR x.1 n x.2.1 x.2.2.1 x.2.2.2.1 x.2.2.2.2).rules∧AV.sl true 0 5 Ch chA (bdP x_5.1 n x_5.2.1 x_5.2.2.1 x_5.2.2.2.1 x_5.2.2.2.2).chunks=AV.sl true 0 5 Ch chA (pfR x.1 n x.2.1 x.2.2.1 x.2.2.2.1 x.2.2.2.2).chunks∧AV.sl true 0 3 Sn snA (bdP x_5.1 n x_5.2.1 x_5.2.2.1 x_5.2.2.2.1 x_5.2.2.2.2).spans=AV.sl true 0 3 Sn snA (pfR x.1 n x.2.1 x.2.2.1 x.2.2.2.1 x.2.2.2.2).spans∧AV.sl true 0 2 Ti tiA (bdP x_5.1 n x_5.2.1 x_5.2.2.1 x_5.2.2.2.1 x_5.2.2.2.2).ties=AV.sl true 0 2 Ti tiA (pfR x.1 n x.2.1 x.2.2.1 x.2.2.2.1 x.2.2.2.2).ties∧true=Bq x.1 x.2.1 x.2.2.1 x.2.2.2.1 x.2.2.2.2∧True))))) (fun x=>by kernel_rfl) fun(x:List Nd×Int×List UInt8×List UInt8×Int) (hx:pfP x.1 n x.2.1 x.2.2.1 x.2.2.2.1)=>(by
 dsimp only[cA,Bl,Bi,nds,pcA,Bj,BN,Sp,JC,JD,Bm,Bn,Aq,Aw,mvL,lnL,mvE,lnE,mvG,mvH,lnG,lnH]
 obtain⟨ns,k,pre,post,ind⟩:=x;dsimp only at hx ⊢
 have hx:pfP ns n k pre post:=hx
 (repeat' first|(with_reducible first|rfl|exact True.intro|apply AG|apply And.intro|((first|apply Au|apply AE|apply Av|apply AF)<;>intro _))|(apply As<;>intro _)|apply AD|refine Af () ?_ ?_|((first|apply AK|apply AJ|apply AI|apply AH|apply AC|apply AB|apply AA|apply Az|apply Ax)<;>try dsimp only)|apply Af|(refine Prod.forall.2 ?_;intro _;try dsimp only)|(intro _;try dsimp only))
 all_goals(try(first|(have hF:= @OW ns n k ind pre post (.inl (.inl (.inl ‹_›))))|(have hF:= @OW ns n k ind pre post (.inl (.inl (.inr ‹_›))))|(have hF:= @OW ns n k ind pre post (.inl (.inr ‹_›)))|(have hF:= @OW ns n k ind pre post (.inr ‹_›))|(have hF:= @XK ns n k ind pre post ‹_› ‹_› ‹_› ‹_›)))
 all_goals first
  |with_reducible rfl
  |exact hx.ok
  |exact hx.l30
  |exact hx.pr
  |exact hx.po
  |exact a5z hx ‹_› ‹_› ‹_› ‹_›
  |(rw[hF.1];done)
  |(rw[hF.1];rfl)
  |exact hF.2.symm
  |(rw[hF.2];done)
  |skip)
def Hf(ns:List Nd)(n:Nat)(k:Int):List UInt8:=(bV ns false n k 0 (b00 [])).text
structure plP (ns:List Nd) (n:Nat) (k:Int):Prop where
 up:BB ns k
 lt:k<n
 vl:AX (Al ns k)=true
 tw:tW ns n k≤2^60
theorem a5A{ns:List Nd}{n:Nat}{k:Int}(h:plP ns n k):vlP ns n (b00 []) k 0:=⟨h.up,h.lt,h.vl,⟨XG,by have:=h.tw;simp [tot,Ci,b00];omega⟩,by omega⟩
def Li(n:Nat):Sig:= {X:=List Nd×Int,args:=fun x=>[nds x.1,.int .i64 x.2],pre:=fun x=>plP x.1 n x.2,Y:=Unit,post:=fun x y=>True,res:=fun x y=> .str (Hf x.1 n x.2),outs:=fun x y=>[.top,.top],keep:=false}
theorem b6x(n:Nat):Ah G Tryz.prog 39 (Li n):=
 vcFun_okP [(81,0,(Cf n))] [] false (fun x=>[]) Tryz.func39 rfl (by decide) ⟨(Xv n),trivial⟩ (fun(x:List Nd×Int)=>(∀(y:Unit),True→True∧True∧True∧True)∧cA (Cf n) [.box 0 [.int .i64 (0:Int),.nil,.nil,.nil,.nil,nds x.1,.str #[].toList,.bool false],.int .i64 x.2,.int .i64 (0:Int)] fun x_1 y=>rA (Li n) x [.str (yBW y.2).text,.top,.top]) (fun x=>by kernel_rfl) fun(x:List Nd×Int) (hx:plP x.1 n x.2)=>(by
 dsimp only[buA,cA,Bl,Bi,nds,rA,Bj,Cf,Li,Bm,Bn,Aq,Aw,mvL,lnL,mvE,lnE,mvG,mvH,lnG,lnH]
 obtain⟨ns,k⟩:=x;dsimp only at hx ⊢
 have hx:plP ns n k:=hx
 (repeat' first|refine Sm ⟨0,ns,false⟩ ?_|(with_reducible first|rfl|exact True.intro|apply AG|apply And.intro|((first|apply Au|apply AE|apply Av|apply AF)<;>intro _))|(apply As<;>intro _)|apply AD|refine Af () ?_ ?_|((first|apply AK|apply AJ|apply AI|apply AH|apply AC|apply AB|apply AA|apply Az|apply Ax)<;>try dsimp only)|apply Af|(refine Prod.forall.2 ?_;intro _;try dsimp only)|(intro _;try dsimp only))
 all_goals(try dsimp only[yBW,xC,zBW,zI,wB] at*)
 all_goals first
  |with_reducible rfl
  |exact a5A hx
  |(rename BJ _ _ _ _ _ _ _=>hq;exact congrArg Bs.text hq.1)
  |rfl
  |skip)
end Go.My
end
section
namespace Go.My
open Go.Eng
structure trC (c:WC) (n:Nat):Prop where
 ok:CZ c.ns
 l30:c.ns.length≤2^30
 ln:c.ns.length≤n
 tx:txS c.ns≤1048576
structure ndV (c:WC) (n m:Nat) (k i:Int):Prop where
 tr:trC c n
 up:BB c.ns k
 lt:k<m
 tk:Fy (Al c.ns k)=true
 dp:∃K ds,BW c.ns K=some ds∧k<K∧i+ds.getD k.toNat 0+(if Al c.ns k=21 then 1 else 0)≤59
 i0:0≤i
def alV(c:WC)(n m:Nat)(ks:List Int)(i:Int):Prop:=∀e∈ks,ndV c n m e i
theorem a5B{c:WC}{n m:Nat}{k i:Int}(h:ndV c n m k i):0≤i∧i≤59:=by
 obtain⟨K,ds,hd,hk,hi⟩:=h.dp
 have hr:=Bc.1 h.up.1
 have:=(Je hd k.toNat (by omega)).1
 have:=h.i0
 split at hi<;>omega
theorem a5C{ns:List Nd}:∀ {m m':Nat} {k:Int},BB ns k→k<m→k<m'→wW ns m k=wW ns m' k
 |0,_,k,h,hm,_=>by have:=Bc.1 h.1;omega
 |_+1,0,k,h,_,hm=>by have:=Bc.1 h.1;omega
 |m+1,m'+1,k,h,hm,hm'=>by
  have e:∀l:List Int,(∀c∈l,c∈(Aa ns k).kids)→wL (wW ns m) l=wL (wW ns m') l:=by
   intro l
   induction l with
   |nil=>intro _;rfl
   |cons c l ih=>
    intro hl
    have h1:=CG h (hl c (by simp))
    rw[Db,Db,a5C (m:=m) (m':=m') h1.1 (by omega) (by omega),ih fun d hd=>hl d (by simp [hd])]
  rw[wW,wW,e _ fun c hc=>hc]
theorem b6y{ns:List Nd}{K:Nat}{ds:List Int}(hd:BW ns K=some ds){k:Int}(h:BB ns k)(hK:k<K)(hv:AX (Al ns k)=true):Cv ns k=true:=by
 have hr:=Bc.1 h.1
 have h1:∃es,BW ns (k.toNat+1)=some es:=by
  cases e:BW ns (k.toNat+1) with
  |none=>rw[US e (m:=K) (by omega)] at hd;cases hd
  |some es=>exact⟨es,rfl⟩
 obtain⟨es,he⟩:=h1
 have h2:=a8L h.1 he
 have h3:= @UU ns k
 simp only[Cv,Bool.and_eq_true,decide_eq_true_eq]
 exact⟨h.1,hv,by omega⟩
structure vwP (c:WC) (n:Nat) (pre:List UInt8) (k:Int) (post:List UInt8) (i:Int):Prop where
 tr:trC c n
 bd:bdQ c.ns n k pre post i
 va:Cv c.ns k=true
theorem a5D{c:WC}{n m:Nat}{k i d:Int}{pre post:List UInt8}(h:ndV c n m k i)(hc:d∈(Aa c.ns k).kids)(hv:AX (Al c.ns d)=true)(hp:pre.length≤40∧Be pre=true)(hq:post.length≤40∧Be post=true):vwP c n pre d post i:=by
 obtain⟨K,ds,hd,hk,hi⟩:=h.dp
 have h1:=CG h.up hc
 have h2:=Jz hd h.up hk hc
 have h3:=a5B h
 have hr:=Bc.1 h1.1.1
 have hl:=h.tr.ln
 refine⟨h.tr,⟨h1.1,by omega,hv,?_,hp,hq,by omega⟩,b6y hd h1.1 (by omega) hv⟩
 have:=b1Q hd (n:=n) h1.1 (by omega) (by omega) hv (by omega) h.tr.tx
 omega
theorem b6z{c:WC}{n m:Nat}{k i b:Int}(h:ndV c n (m+1) k i)(hk:¬Al c.ns k=21)(hb:b∈(Aa c.ns k).kids)(h18:Al c.ns b=18):alV c n m (Aa c.ns b).kids (i+2):=by
 obtain⟨K,ds,hd,hk,hi⟩:=h.dp
 have h1:=CG h.up hb
 have h2:=Jz hd h.up hk hb
 intro e he
 have h3:=CG h1.1 he
 have h4:=Jz hd h1.1 (by omega) he
 have h5:=a5o h1.1 h18 e he
 have h6:=h.lt;have h7:=h.i0
 refine⟨h.tr,h3.1,by omega,by simp [Fy,h5],⟨K,ds,hd,by omega,?_⟩,by omega⟩
 have h8:¬Al c.ns e=21:=by rcases OU h5 with e|e|e|e|e|e|e<;>omega
 rw[if_neg h8]
 split at hi<;>omega
theorem XL{c:WC}{n m:Nat}{k i:Int}(h:ndV c n (m+1) k i)(hk:Al c.ns k=21):alV c n m (Aa c.ns k).kids (i+2):=by
 obtain⟨K,ds,hd,hkK,hi⟩:=h.dp
 rw[if_pos hk] at hi
 intro e he
 have h3:=CG h.up he
 have h4:=Jz hd h.up hkK he
 have h5:=a5p h.up hk e he
 have h6:=h.lt;have h7:=h.i0
 refine⟨h.tr,h3.1,by omega,by simp [Fy,h5],⟨K,ds,hd,by omega,?_⟩,by omega⟩
 have h8:¬Al c.ns e=21:=by simp only[CF,Bool.or_eq_true,decide_eq_true_eq] at h5;omega
 rw[if_neg h8];omega
theorem Sq{c:WC}{n:Nat}{pre post:List UInt8}{k i:Int}{s:Ws}(h:vwP c n pre k post i):(BZ c n pre k post i s).ls.length≤s.ls.length+81:=by
 have:=a5n (w:=c.w) (bud:=c.bud) (EQ (MQ h.bd))
 simp only[BZ,List.length_append];omega
theorem FU{i:Int}{t:List UInt8}{s:Ws}:(Bv i t s).ls.length=s.ls.length+1:=by simp [Bv]
theorem a5E{ns:List Nd}{k:Int}{s:Ws}:(Iu ns k s).ls.length≤s.ls.length+1:=by unfold Iu;split<;>simp
theorem Sr{c:WC}{n m:Nat}(ih:∀ {k i:Int} {s:Ws},ndV c n m k i→(wN c n m k i s).ls.length≤s.ls.length+wW c.ns m k){i:Int}:∀ {l:List Int} {s:Ws},alV c n m l i→(EH c.ns (wN c n m) i l s).ls.length≤s.ls.length+(wL (wW c.ns m) l+l.length)
 |[],s,_=>by rw[EH];omega
 |k::l,s,h=>by
  have h1:=ih (s:=Iu c.ns k s) (h k (by simp))
  have h2:=Sr ih (i:=i) (l:=l) (s:=wN c n m k i (Iu c.ns k s)) fun e he=>h e (by simp [he])
  have h3:= @a5E c.ns k s
  rw[EH,Db,List.length_cons];omega
def bkW(ns:List Nd)(m:Nat)(b:Int):Nat:=wL (wW ns m) (Aa ns b).kids+(Aa ns b).kids.length
theorem b6A{ns:List Nd}{m:Nat}{k b:Int}(h:BB ns k)(hm:k<(m+1:Nat))(hb:b∈(Aa ns k).kids)(h18:Al ns b=18):2+bkW ns m b=wW ns m b:=by
 have h1:=CG h hb
 have hr:=Bc.1 h1.1.1
 obtain⟨m1,rfl⟩:∃m1,m=m1+1:=⟨m-1,by omega⟩
 have e:∀l:List Int,(∀c∈l,c∈(Aa ns b).kids)→wL (wW ns (m1+1)) l=wL (wW ns m1) l:=by
  intro l
  induction l with
  |nil=>intro _;rfl
  |cons c l ih=>
   intro hl
   have h2:=CG h1.1 (hl c (by simp))
   rw[Db,Db,a5C (m:=m1+1) (m':=m1) h2.1 (by omega) (by omega),ih fun d hd=>hl d (by simp [hd])]
 rw[bkW,e _ fun c hc=>hc]
 conv=>rhs;rw[wW,h18]
 rw[if_neg (by decide),if_pos (.inl rfl)]
theorem b6B{ns:List Nd}{m:Nat}{k:Int}(h:¬(Al ns k=18∨Al ns k=21∨Al ns k=22))(hv:AX (Al ns k)=false):wW ns (m+1) k=85+wL (wW ns m) (Aa ns k).kids:=by
 rw[wW,if_neg (by rw[hv];simp),if_neg h]
theorem XM{k:Int}(h:Fy k=true):AX k=false∧(k=12∨k=13∨k=14∨k=15∨k=16∨k=17∨k=19∨k=20∨k=21):=by
 have:k=12∨k=13∨k=14∨k=15∨k=16∨k=17∨k=19∨k=20∨k=21:=by
  simp only[Fy,Bool.or_eq_true,decide_eq_true_eq,CF] at h
  rcases h with h|h
  ·have:=OU h;omega
  ·omega
 refine⟨?_,this⟩
 rcases this with e|e|e|e|e|e|e|e|e<;>rw[e]<;>rfl
end Go.My
end
section
namespace Go.My
open Go.Eng Go.Proofs
variable {G:GInv}
theorem Lj{ns:List Nd}{n:Nat}{k ind:Int}{pre post:List UInt8}(h:(BM ns k=0∨(Bf ns k=true∧AX (Al ns k)=false))∨(inn ind 0 60=false∨((pre.length:Int)>40∨(post.length:Int)>40))∨(Be pre=false∨Be post=false)):pfR ns n k pre post ind=pc0∧Bq ns k pre post ind=false:=by
 refine OW ?_
 rcases h with(h|h)|(h|h|h)|(h|h)
 ·exact .inl (.inl (.inl (by simp [Cv,h])))
 ·exact .inl (.inl (.inl (by simp [Cv,h.2])))
 ·exact .inl (.inl (.inr h))
 ·exact .inl (.inr (by rw[De,decide_eq_false (by omega)];rfl))
 ·exact .inr (by rw[De,decide_eq_false (by omega)];rfl)
 ·exact .inl (.inr (by simp [De,h]))
 ·exact .inr (by simp [De,h])
theorem b6C{ns:List Nd}{n:Nat}{k ind:Int}{pre post:List UInt8}{e:Nd}(hd:¬BM ns k=0)(he:ns[k.toNat]? =some e)(hv:AX e.kind=true)(hi:inn ind 0 60=true)(h1:¬(pre.length:Int)>40)(h2:¬(post.length:Int)>40)(h3:Be pre=true)(h4:Be post=true):(Cv ns k=true∧De pre=true)∧De post=true:=by
 have h0:= @UU ns k
 refine⟨⟨?_,by simp [De,h3];omega⟩,by simp [De,h4];omega⟩
 simp only[Cv,Bool.and_eq_true,decide_eq_true_eq]
 exact⟨(HX hd).1,by rw[Eg he];exact hv,by omega⟩
def isP(p q:Pc):Prop:=q=p
theorem a5F{s:List UInt8}(h:s≠[]){b:UInt8}(hb:s[((s.length:Int)-1).toNat]? =some b):((b.toNat:Int)==61)=Dd s:=by
 have hl:0<s.length:=List.length_pos_iff.2 h
 rw[show((s.length:Int)-1).toNat=s.length-1 by omega] at hb
 rw[Dd,List.getLast?_eq_getElem?,hb,Bool.eq_iff_iff]
 simp only[beq_iff_eq,Option.some.injEq]
 constructor
 ·intro e
  have h4:(61:UInt8).toNat=61:=rfl
  exact UInt8.toNat_inj.1 (by omega)
 ·intro e;rw[e];rfl
theorem b6D{ns:List Nd}{n:Nat}{k ind:Int}{pre post:List UInt8}{t u:Bs}(ht:isB (AU (AM true (b00 pre)) 1 true 4 u) t)(hu:u=Bd true 2 2 (b00 pre))(he:Dd pre=true)(h:bdQ ns n k pre post ind)(hk:k≤2^30):vsP ns n t k 0:=by
 have:=a5u ht hu he h
 exact⟨this.up,this.lt,this.vl,this.rm,by omega⟩
theorem b6E{ns:List Nd}{n:Nat}{k ind:Int}{pre post:List UInt8}(he:Dd pre=false)(h:bdQ ns n k pre post ind)(hk:k≤2^30):vsP ns n (b00 pre) k 0:=by
 have:=a5v he h
 exact⟨this.up,this.lt,this.vl,this.rm,by omega⟩
theorem b6F{ns:List Nd}{n:Nat}{k ind:Int}{pre:List UInt8}{t u v:Bs}(hv:vsQ ⟨ind,ns,true⟩ n t k 0 v)(ht:isB (AU (AM true (b00 pre)) 1 true 4 u) t)(hu:u=Bd true 2 2 (b00 pre))(he:Dd pre=true):v=Fj ns n k pre:=a5w (ind:=ind) (o:=Gy true (Aa ns k) t) ⟨hv,rfl⟩ ht hu he
theorem b6G{ns:List Nd}{n:Nat}{k ind:Int}{pre:List UInt8}{v:Bs}(hv:vsQ ⟨ind,ns,true⟩ n (b00 pre) k 0 v)(he:Dd pre=false):v=Fj ns n k pre:=a5x (ind:=ind) (o:=Gy true (Aa ns k) (b00 pre)) ⟨hv,rfl⟩ he
theorem b6H{ns:List Nd}{n:Nat}{k ind:Int}{pre post:List UInt8}{v w:Bs}(hw:isB (Am post v) w)(hv:v=Fj ns n k pre):isP (bdP ns n k pre post ind) ⟨ind,w.rules,w.chunks++[⟨w.text,0,0,false,0⟩],w.spans,w.ties⟩:=by
 rw[isP,bdP,Jy,←hv,hw];rfl
theorem a5G{ns:List Nd}{n:Nat}{k ind:Int}{pre post:List UInt8}{v:Bs}(hv:v=Fj ns n k pre)(hx:bdQ ns n k pre post ind):v.chunks.length≤79∧v.text.length≤2^61:=by
 rw[hv];have:=Sk hx;exact⟨this.1.ch,Ha (CV this)⟩
theorem b6I{ns:List Nd}{n:Nat}{k ind:Int}{pre post:List UInt8}{v w:Bs}(hw:isB (Am post v) w)(hv:v=Fj ns n k pre)(hx:bdQ ns n k pre post ind):w.chunks.length≤79:=by
 have:=(a5G hv hx).1
 rw[hw];exact this
theorem b6J{ns:List Nd}{n:Nat}{k ind:Int}{pre post:List UInt8}{e:Nd}(hd:¬BM ns k=0)(he:ns[k.toNat]? =some e)(hv:AX e.kind=false):pfR ns n k pre post ind=pc0∧Bq ns k pre post ind=false:=Lj (.inl (.inr ⟨(HX hd).1,by rw[Eg he];exact hv⟩))
theorem b6K{pre:List UInt8}(h:¬(pre.length:Int)>40):bB (b00 pre):=XJ (by omega)
theorem b6L{pre:List UInt8}{t:Bs}(ht:t=Bd true 2 2 (b00 pre))(h:¬(pre.length:Int)>40):bB t:=a5t ht (by omega)
theorem b6M{ns:List Nd}{n:Nat}{k:Int}{pre post:List UInt8}(h:pfP ns n k pre post)(hd:¬BM ns k=0):(0≤k∧k<ns.length)∧k≤2^30:=by
 have:=Bc.1 (HX hd).1
 have:=h.l30
 omega
theorem b6N{s:List UInt8}(h:s=[]):Dd s=false:=by rw[h];rfl
theorem b6O{ns:List Nd}{n:Nat}{k:Int}{e:Nd}(hd:¬BM ns k=0)(he:ns[k.toNat]? =some e)(hv:AX e.kind=true):Cv ns k=true:=by
 have h0:= @UU ns k
 simp only[Cv,Bool.and_eq_true,decide_eq_true_eq]
 exact⟨(HX hd).1,by rw[Eg he];exact hv,by omega⟩
theorem b6P{ns:List Nd}{k:Int}(hd:BM ns k=0):Cv ns k=false:=by simp [Cv,hd]
theorem b6Q{ns:List Nd}{k:Int}{e:Nd}(he:ns[k.toNat]? =some e)(hv:AX e.kind=false):Cv ns k=false:=by simp [Cv,Eg he,hv]
theorem b6R{ns:List Nd}{n:Nat}{k:Int}(h3:ns.length≤n)(h4:Cv ns k=true→tW ns n k≤2^60)(h:Cv ns k=true)(h2:ns.length≤2^30):vsP ns n (b00 []) k 0:=by
 have hv:=a5y h
 have hr:=Bc.1 hv.1.1
 have:=a5A (ns:=ns) (n:=n) (k:=k) ⟨hv.1,by omega,hv.2,h4 h⟩
 exact⟨this.up,this.lt,this.vl,this.rm,by omega⟩
theorem b6S{ns:List Nd}{n:Nat}{k ind:Int}{pre post:List UInt8}{e:Nd}(hx:pfP ns n k pre post)(hd:BM ns k≠0)(he:ns[k.toNat]? =some e)(hv:AX e.kind=true)(hi:inn ind 0 60=true)(h1:¬(pre.length:Int)>40)(h2:¬(post.length:Int)>40)(h3:Be pre=true)(h4:Be post=true):bdQ ns n k pre post ind∧Bq ns k pre post ind=true∧pfR ns n k pre post ind=bdP ns n k pre post ind:=by
 have hT:= @b6C ns n k ind pre post e hd he hv hi h1 h2 h3 h4
 have:=XK (n:=n) hT.1.1 hi hT.1.2 hT.2
 exact⟨a5z hx hT.1.1 hi hT.1.2 hT.2,this.2,this.1⟩
theorem b6T{s:List UInt8}{b:UInt8}(h:(s==[])=false)(hb:s[((s.length:Int)-1).toNat]? =some b)(h61:(b.toNat:Int)=61):Dd s=true:=by
 rw[←a5F (by intro e;rw[e] at h;cases h) hb];simp [h61]
theorem b6U{s:List UInt8}(h:(s==[])=true):Dd s=false:=b6N (by simpa using h)
theorem b6V{s:List UInt8}{b:UInt8}(h:(s==[])=false)(hb:s[((s.length:Int)-1).toNat]? =some b)(h61:(b.toNat:Int)≠61):Dd s=false:=by
 rw[←a5F (by intro e;rw[e] at h;cases h) hb];simp only[beq_eq_false_iff_ne,ne_eq];exact h61
theorem b6W{s:List UInt8}(h:(s==[])=false):0<s.length:=List.length_pos_iff.2 (by intro e;rw[e] at h;cases h)
theorem a5H{ns:List Nd}{n:Nat}{k ind:Int}{pre post:List UInt8}{p:Pc}(h:isP (bdP ns n k pre post ind) p):p=bdP ns n k pre post ind:=h
def MS(n:Nat):Sig:= {X:=List Nd×Int×List UInt8×List UInt8×Int,args:=fun x=>[nds x.1,.int .i64 x.2.1,.str x.2.2.1,.str x.2.2.2.1,.int .i64 x.2.2.2.2],pre:=fun x=>pfP x.1 n x.2.1 x.2.2.1 x.2.2.2.1,Y:=Unit,post:=fun x y=>True,res:=fun x y=> .tup [.agg (pcA true (pfR x.1 n x.2.1 x.2.2.1 x.2.2.2.1 x.2.2.2.2)),.bool (Bq x.1 x.2.1 x.2.2.1 x.2.2.2.1 x.2.2.2.2)],outs:=fun x y=>[.top,.top,.top,.top,.top],keep:=false}
def b6X(n:Nat)(x:List Nd×Int×List UInt8×List UInt8×Int):LS:= {ι:=List Ru×List Ch×List Sn×List Ti×List UInt8,inv:=fun j=>isP (bdP x.1 n x.2.1 x.2.2.1 x.2.2.2.1 x.2.2.2.2) ⟨x.2.2.2.2,j.1,j.2.1,j.2.2.1,j.2.2.2.1⟩∧bdQ x.1 n x.2.1 x.2.2.1 x.2.2.2.1 x.2.2.2.2∧Bq x.1 x.2.1 x.2.2.1 x.2.2.2.1 x.2.2.2.2=true,regs:=fun j=>[(10,.box 0 (pcA true pc0)),(12,suA ⟨x.2.2.2.2,x.1,true⟩ (yBW j))],als:=[],meas:=fun _=>0}
set_option maxHeartbeats 8000000 in
theorem b6Y(n:Nat)(hv:Ah G Go.Proofs.Tryz.prog 49 (BQ n)):Ah G Tryz.prog 11 (MS n):=
 vcFun_okP [(44,0,FL),(34,0,Ea),(45,0,Bz),(46,0,Ik),(48,0,DT),(47,0,Dq),(49,0,(BQ n)),(50,0,Cd),(13,0,CT)] [(28,⟨Ch,chA⟩)] false (fun x=>[(100008,b6X n x)]) Tryz.func11 rfl (by decide) ⟨Vq,Qp,GN,a2T,OD,OF,hv,ML,a2U,trivial⟩ (fun(x:List Nd×Int×List UInt8×List UInt8×Int)=>(∀(y:Unit),True→((True∧(∀(x:Ru),True∧True∧True)∧(∀(x:Ch),True∧True∧True∧True∧True∧True)∧(∀(x:Sn),True∧True∧True∧True)∧(∀(x:Ti),True∧True∧True)∧True)∧True∧True)∧True∧True∧True∧True∧True∧True)∧cA FL [nds x.1,.int .i64 x.2.1] fun x_1 y=>Ab (BM x_1.1 x_1.2==(0:Int)) (∃(y:Unit),True∧((0:Int)=(pfR x.1 n x.2.1 x.2.2.1 x.2.2.2.1 x.2.2.2.2).ind∧((pfR x.1 n x.2.1 x.2.2.1 x.2.2.2.1 x.2.2.2.2).rules=[]∧((pfR x.1 n x.2.1 x.2.2.1 x.2.2.2.1 x.2.2.2.2).chunks=[]∧((pfR x.1 n x.2.1 x.2.2.1 x.2.2.2.1 x.2.2.2.2).spans=[]∧((pfR x.1 n x.2.1 x.2.2.1 x.2.2.2.1 x.2.2.2.2).ties=[]∧false=Bq x.1 x.2.1 x.2.2.1 x.2.2.2.1 x.2.2.2.2∧True)))))) (((0:Int)≤x.2.1∧x.2.1<(↑(List.length x.1):Int))∧∀(e:Nd),x.1[Int.toNat x.2.1]? =some e→cA Ea [.int .i64 e.kind] fun x_2 y=>Ab (!AX x_2) (∃(y:Unit),True∧((0:Int)=(pfR x.1 n x.2.1 x.2.2.1 x.2.2.2.1 x.2.2.2.2).ind∧((pfR x.1 n x.2.1 x.2.2.1 x.2.2.2.1 x.2.2.2.2).rules=[]∧((pfR x.1 n x.2.1 x.2.2.1 x.2.2.2.1 x.2.2.2.2).chunks=[]∧((pfR x.1 n x.2.1 x.2.2.1 x.2.2.2.1 x.2.2.2.2).spans=[]∧((pfR x.1 n x.2.1 x.2.2.1 x.2.2.2.1 x.2.2.2.2).ties=[]∧false=Bq x.1 x.2.1 x.2.2.1 x.2.2.2.1 x.2.2.2.2∧True)))))) (cA Bz [.int .i64 x.2.2.2.2,.int .i64 (0:Int),.int .i64 (60:Int)] fun x_3 y=>Ab (!inn x_3.1 x_3.2.1 x_3.2.2) (∃(y:Unit),True∧((0:Int)=(pfR x.1 n x.2.1 x.2.2.1 x.2.2.2.1 x.2.2.2.2).ind∧((pfR x.1 n x.2.1 x.2.2.1 x.2.2.2.1 x.2.2.2.2).rules=[]∧((pfR x.1 n x.2.1 x.2.2.1 x.2.2.2.1 x.2.2.2.2).chunks=[]∧((pfR x.1 n x.2.1 x.2.2.1 x.2.2.2.1 x.2.2.2.2).spans=[]∧((pfR x.1 n x.2.1 x.2.2.1 x.2.2.2.1 x.2.2.2.2).ties=[]∧false=Bq x.1 x.2.1 x.2.2.1 x.2.2.2.1 x.2.2.2.2∧True)))))) (Ab (decide ((↑(List.length x.2.2.1):Int)>(40:Int))) (∃(y:Unit),True∧((0:Int)=(pfR x.1 n x.2.1 x.2.2.1 x.2.2.2.1 x.2.2.2.2).ind∧((pfR x.1 n x.2.1 x.2.2.1 x.2.2.2.1 x.2.2.2.2).rules=[]∧((pfR x.1 n x.2.1 x.2.2.1 x.2.2.2.1 x.2.2.2.2).chunks=[]∧((pfR x.1 n x.2.1 x.2.2.1 x.2.2.2.1 x.2.2.2.2).spans=[]∧((pfR x.1 n x.2.1 x.2.2.1 x.2.2.2.1 x.2.2.2.2).ties=[]∧false=Bq x.1 x.2.1 x.2.2.1 x.2.2.2.1 x.2.2.2.2∧True)))))) (Ab (decide ((↑(List.length x.2.2.2.1):Int)>(40:Int))) (∃(y:Unit),True∧((0:Int)=(pfR x.1 n x.2.1 x.2.2.1 x.2.2.2.1 x.2.2.2.2).ind∧((pfR x.1 n x.2.1 x.2.2.1 x.2.2.2.1 x.2.2.2.2).rules=[]∧((pfR x.1 n x.2.1 x.2.2.1 x.2.2.2.1 x.2.2.2.2).chunks=[]∧((pfR x.1 n x.2.1 x.2.2.1 x.2.2.2.1 x.2.2.2.2).spans=[]∧((pfR x.1 n x.2.1 x.2.2.1 x.2.2.2.1 x.2.2.2.2).ties=[]∧false=Bq x.1 x.2.1 x.2.2.1 x.2.2.2.1 x.2.2.2.2∧True)))))) (cA Ik [.str x.2.2.1] fun x_4 y=>Ab (!Be x_4.1) (∃(y:Unit),True∧((0:Int)=(pfR x.1 n x.2.1 x.2.2.1 x.2.2.2.1 x.2.2.2.2).ind∧((pfR x.1 n x.2.1 x.2.2.1 x.2.2.2.1 x.2.2.2.2).rules=[]∧((pfR x.1 n x.2.1 x.2.2.1 x.2.2.2.1 x.2.2.2.2).chunks=[]∧((pfR x.1 n x.2.1 x.2.2.1 x.2.2.2.1 x.2.2.2.2).spans=[]∧((pfR x.1 n x.2.1 x.2.2.1 x.2.2.2.1 x.2.2.2.2).ties=[]∧false=Bq x.1 x.2.1 x.2.2.1 x.2.2.2.1 x.2.2.2.2∧True)))))) (cA Ik [.str x.2.2.2.1] fun x_5 y=>Ab (!Be x_5.1) (∃(y:Unit),True∧((0:Int)=(pfR x.1 n x.2.1 x.2.2.1 x.2.2.2.1 x.2.2.2.2).ind∧((pfR x.1 n x.2.1 x.2.2.1 x.2.2.2.1 x.2.2.2.2).rules=[]∧((pfR x.1 n x.2.1 x.2.2.1 x.2.2.2.1 x.2.2.2.2).chunks=[]∧((pfR x.1 n x.2.1 x.2.2.1 x.2.2.2.1 x.2.2.2.2).spans=[]∧((pfR x.1 n x.2.1 x.2.2.1 x.2.2.2.1 x.2.2.2.2).ties=[]∧false=Bq x.1 x.2.1 x.2.2.1 x.2.2.2.1 x.2.2.2.2∧True)))))) (Ab (!x.2.2.1== #[].toList) (inR IntKind.i64 ((↑(List.length x.2.2.1):Int)-(1:Int))∧((0:Int)≤(↑(List.length x.2.2.1):Int)-(1:Int)∧(↑(List.length x.2.2.1):Int)-(1:Int)<(↑(List.length x.2.2.1):Int))∧∀(c:UInt8),x.2.2.1[Int.toNat ((↑(List.length x.2.2.1):Int)-(1:Int))]? =some c→Ab ((↑(UInt8.toNat c):Int)==(61:Int)) (cA DT [.box 0 [nds x.1,.int .i64 x.2.2.2.2,.nil,.nil,.nil,.nil,.str x.2.2.1,.bool false],.int .i64 (2:Int),.int .i64 (2:Int)] fun x_6 y=>cA Dq [.box 0 [nds x_6.1.ns,.int .i64 x_6.1.ind,AV.sl true 0 2 Ru ruA (yBW y).rules,AV.sl true 0 5 Ch chA (yBW y).chunks,AV.sl true 0 3 Sn snA (yBW y).spans,AV.sl true 0 2 Ti tiA (yBW y).ties,.str (yBW y).text,.bool !x_6.1.rd],.int .i64 (AM x_6.1.rd (xC x_6)),.int .i64 (1:Int),.bool true,.int .i64 (4:Int)] fun x_7 y=>cA (BQ n) [.box 0 [nds x_7.1.ns,.int .i64 x_7.1.ind,AV.sl true 0 2 Ru ruA (yBW y).rules,AV.sl true 0 5 Ch chA (yBW y).chunks,AV.sl true 0 3 Sn snA (yBW y).spans,AV.sl true 0 2 Ti tiA (yBW y).ties,.str (yBW y).text,.bool !x_7.1.rd],.int .i64 x.2.1,.int .i64 (0:Int)] fun x_8 y=>cA Cd [.box 0 [nds x_8.1.ns,.int .i64 x_8.1.ind,AV.sl true 0 2 Ru ruA (yBW y).rules,AV.sl true 0 5 Ch chA (yBW y).chunks,AV.sl true 0 3 Sn snA (yBW y).spans,AV.sl true 0 2 Ti tiA (yBW y).ties,.str (yBW y).text,.bool !x_8.1.rd],.str x.2.2.2.1] fun x_9 y=>true=true∧((∃(x_10:Ch),(yBW y).text=x_10.text∧((0:Int)=x_10.rule∧((0:Int)=x_10.fr∧false=x_10.space∧((0:Int)=x_10.nest∧(∃(zs:List Ch),AV.sl true 0 5 Ch chA [x_10]=AV.sl true 0 5 Ch chA zs∧(Bg chA∧(AY (List.length (yBW y).chunks+List.length zs) (48:Nat)∧(true=true∧(∃(i:List Ru×List Ch×List Sn×List Ti×List UInt8),(isP (bdP x.1 n x.2.1 x.2.2.1 x.2.2.2.1 x.2.2.2.2) {ind:=x.2.2.2.2,rules:=i.1,chunks:=i.2.1,spans:=i.2.2.1,ties:=i.2.2.2.1}∧bdQ x.1 n x.2.1 x.2.2.1 x.2.2.2.1 x.2.2.2.2∧Bq x.1 x.2.1 x.2.2.1 x.2.2.2.1 x.2.2.2.2=true)∧(((0:Int)=pc0.ind∧pc0.rules=[]∧pc0.chunks=[]∧pc0.spans=[]∧pc0.ties=[]∧nds x_9.1.ns=nds x.1∧x_9.1.ind=x.2.2.2.2∧AV.sl true 0 2 Ru ruA (yBW y).rules=AV.sl true 0 2 Ru ruA (yBW i).rules∧AV.sl true 0 5 Ch chA ((yBW y).chunks++zs)=AV.sl true 0 5 Ch chA (yBW i).chunks∧AV.sl true 0 3 Sn snA (yBW y).spans=AV.sl true 0 3 Sn snA (yBW i).spans∧AV.sl true 0 2 Ti tiA (yBW y).ties=AV.sl true 0 2 Ti tiA (yBW i).ties∧(yBW y).text=(yBW i).text∧(!x_9.1.rd)=false∧True)∧True))))))))))∧(∃(x_10:Ch),(yBW y).text=x_10.text∧((0:Int)=x_10.rule∧((0:Int)=x_10.fr∧false=x_10.space∧((0:Int)=x_10.nest∧(∃(zs:List Ch),AV.sl true 0 5 Ch chA [x_10]=AV.sl true 0 5 Ch chA zs∧(Bg chA∧(AY (List.length (yBW y).chunks+List.length zs) (48:Nat)∧(true=true∧(∃(i:List Ru×List Ch×List Sn×List Ti×List UInt8),(isP (bdP x.1 n x.2.1 x.2.2.1 x.2.2.2.1 x.2.2.2.2) {ind:=x.2.2.2.2,rules:=i.1,chunks:=i.2.1,spans:=i.2.2.1,ties:=i.2.2.2.1}∧bdQ x.1 n x.2.1 x.2.2.1 x.2.2.2.1 x.2.2.2.2∧Bq x.1 x.2.1 x.2.2.1 x.2.2.2.1 x.2.2.2.2=true)∧(((0:Int)=pc0.ind∧pc0.rules=[]∧pc0.chunks=[]∧pc0.spans=[]∧pc0.ties=[]∧nds x_9.1.ns=nds x.1∧x_9.1.ind=x.2.2.2.2∧AV.sl true 0 2 Ru ruA (yBW y).rules=AV.sl true 0 2 Ru ruA (yBW i).rules∧AV.sl true 0 5 Ch chA ((yBW y).chunks++zs)=AV.sl true 0 5 Ch chA (yBW i).chunks∧AV.sl true 0 3 Sn snA (yBW y).spans=AV.sl true 0 3 Sn snA (yBW i).spans∧AV.sl true 0 2 Ti tiA (yBW y).ties=AV.sl true 0 2 Ti tiA (yBW i).ties∧(yBW y).text=(yBW i).text∧(!x_9.1.rd)=false∧True)∧True))))))))))∧(∃(x_10:Ch),(yBW y).text=x_10.text∧((0:Int)=x_10.rule∧((0:Int)=x_10.fr∧false=x_10.space∧((0:Int)=x_10.nest∧(∃(zs:List Ch),AV.sl true 0 5 Ch chA [x_10]=AV.sl true 0 5 Ch chA zs∧(Bg chA∧(AY (List.length (yBW y).chunks+List.length zs) (48:Nat)∧(true=true∧(∃(i:List Ru×List Ch×List Sn×List Ti×List UInt8),(isP (bdP x.1 n x.2.1 x.2.2.1 x.2.2.2.1 x.2.2.2.2) {ind:=x.2.2.2.2,rules:=i.1,chunks:=i.2.1,spans:=i.2.2.1,ties:=i.2.2.2.1}∧bdQ x.1 n x.2.1 x.2.2.1 x.2.2.2.1 x.2.2.2.2∧Bq x.1 x.2.1 x.2.2.1 x.2.2.2.1 x.2.2.2.2=true)∧(((0:Int)=pc0.ind∧pc0.rules=[]∧pc0.chunks=[]∧pc0.spans=[]∧pc0.ties=[]∧nds x_9.1.ns=nds x.1∧x_9.1.ind=x.2.2.2.2∧AV.sl true 0 2 Ru ruA (yBW y).rules=AV.sl true 0 2 Ru ruA (yBW i).rules∧AV.sl true 0 5 Ch chA ((yBW y).chunks++zs)=AV.sl true 0 5 Ch chA (yBW i).chunks∧AV.sl true 0 3 Sn snA (yBW y).spans=AV.sl true 0 3 Sn snA (yBW i).spans∧AV.sl true 0 2 Ti tiA (yBW y).ties=AV.sl true 0 2 Ti tiA (yBW i).ties∧(yBW y).text=(yBW i).text∧(!x_9.1.rd)=false∧True)∧True))))))))))∧(∃(x_10:Ch),(yBW y).text=x_10.text∧((0:Int)=x_10.rule∧((0:Int)=x_10.fr∧false=x_10.space∧((0:Int)=x_10.nest∧(∃(zs:List Ch),AV.sl true 0 5 Ch chA [x_10]=AV.sl true 0 5 Ch chA zs∧(Bg chA∧(AY (List.length (yBW y).chunks+List.length zs) (48:Nat)∧(true=true∧(∃(i:List Ru×List Ch×List Sn×List Ti×List UInt8),(isP (bdP x.1 n x.2.1 x.2.2.1 x.2.2.2.1 x.2.2.2.2) {ind:=x.2.2.2.2,rules:=i.1,chunks:=i.2.1,spans:=i.2.2.1,ties:=i.2.2.2.1}∧bdQ x.1 n x.2.1 x.2.2.1 x.2.2.2.1 x.2.2.2.2∧Bq x.1 x.2.1 x.2.2.1 x.2.2.2.1 x.2.2.2.2=true)∧(((0:Int)=pc0.ind∧pc0.rules=[]∧pc0.chunks=[]∧pc0.spans=[]∧pc0.ties=[]∧nds x_9.1.ns=nds x.1∧x_9.1.ind=x.2.2.2.2∧AV.sl true 0 2 Ru ruA (yBW y).rules=AV.sl true 0 2 Ru ruA (yBW i).rules∧AV.sl true 0 5 Ch chA ((yBW y).chunks++zs)=AV.sl true 0 5 Ch chA (yBW i).chunks∧AV.sl true 0 3 Sn snA (yBW y).spans=AV.sl true 0 3 Sn snA (yBW i).spans∧AV.sl true 0 2 Ti tiA (yBW y).ties=AV.sl true 0 2 Ti tiA (yBW i).ties∧(yBW y).text=(yBW i).text∧(!x_9.1.rd)=false∧True)∧True)))))))))))∧∀(i:List Ru×List Ch×List Sn×List Ti×List UInt8),isP (bdP x.1 n x.2.1 x.2.2.1 x.2.2.2.1 x.2.2.2.2) {ind:=x.2.2.2.2,rules:=i.1,chunks:=i.2.1,spans:=i.2.2.1,ties:=i.2.2.2.1}∧bdQ x.1 n x.2.1 x.2.2.1 x.2.2.2.1 x.2.2.2.2∧Bq x.1 x.2.1 x.2.2.1 x.2.2.2.1 x.2.2.2.2=true→cA CT [.agg [.int .i64 x.2.2.2.2,AV.sl true 0 2 Ru ruA (yBW i).rules,AV.sl true 0 5 Ch chA (yBW i).chunks,AV.sl true 0 3 Sn snA (yBW i).spans,AV.sl true 0 2 Ti tiA (yBW i).ties]] fun x_10 y=>Ab (!Bo x_10) (∃(y:Unit),True∧((0:Int)=(pfR x.1 n x.2.1 x.2.2.1 x.2.2.2.1 x.2.2.2.2).ind∧((pfR x.1 n x.2.1 x.2.2.1 x.2.2.2.1 x.2.2.2.2).rules=[]∧((pfR x.1 n x.2.1 x.2.2.1 x.2.2.2.1 x.2.2.2.2).chunks=[]∧((pfR x.1 n x.2.1 x.2.2.1 x.2.2.2.1 x.2.2.2.2).spans=[]∧((pfR x.1 n x.2.1 x.2.2.1 x.2.2.2.1 x.2.2.2.2).ties=[]∧false=Bq x.1 x.2.1 x.2.2.1 x.2.2.2.1 x.2.2.2.2∧True)))))) (∃(y:Unit),True∧x.2.2.2.2=(pfR x.1 n x.2.1 x.2.2.1 x.2.2.2.1 x.2.2.2.2).ind∧AV.sl true 0 2 Ru ruA (yBW i).rules=AV.sl true 0 2 Ru ruA (pfR x.1 n x.2.1 x.2.2.1 x.2.2.2.1 x.2.2.2.2).rules∧AV.sl true 0 5 Ch chA (yBW i).chunks=AV.sl true 0 5 Ch chA (pfR x.1 n x.2.1 x.2.2.1 x.2.2.2.1 x.2.2.2.2).chunks∧AV.sl true 0 3 Sn snA (yBW i).spans=AV.sl true 0 3 Sn snA (pfR x.1 n x.2.1 x.2.2.1 x.2.2.2.1 x.2.2.2.2).spans∧AV.sl true 0 2 Ti tiA (yBW i).ties=AV.sl true 0 2 Ti tiA (pfR x.1 n x.2.1 x.2.2.1 x.2.2.2.1 x.2.2.2.2).ties∧true=Bq x.1 x.2.1 x.2.2.1 x.2.2.2.1 x.2.2.2.2∧True)) (cA (BQ n) [.box 0 [nds x.1,.int .i64 x.2.2.2.2,.nil,.nil,.nil,.nil,.str x.2.2.1,.bool false],.int .i64 x.2.1,.int .i64 (0:Int)] fun x_6 y=>cA Cd [.box 0 [nds x_6.1.ns,.int .i64 x_6.1.ind,AV.sl true 0 2 Ru ruA (yBW y).rules,AV.sl true 0 5 Ch chA (yBW y).chunks,AV.sl true 0 3 Sn snA (yBW y).spans,AV.sl true 0 2 Ti tiA (yBW y).ties,.str (yBW y).text,.bool !x_6.1.rd],.str x.2.2.2.1] fun x_7 y=>true=true∧(((∃(x_8:Ch),(yBW y).text=x_8.text∧((0:Int)=x_8.rule∧((0:Int)=x_8.fr∧false=x_8.space∧((0:Int)=x_8.nest∧(∃(zs:List Ch),AV.sl true 0 5 Ch chA [x_8]=AV.sl true 0 5 Ch chA zs∧(Bg chA∧(AY (List.length (yBW y).chunks+List.length zs) (48:Nat)∧(true=true∧(∃(i:List Ru×List Ch×List Sn×List Ti×List UInt8),(isP (bdP x.1 n x.2.1 x.2.2.1 x.2.2.2.1 x.2.2.2.2) {ind:=x.2.2.2.2,rules:=i.1,chunks:=i.2.1,spans:=i.2.2.1,ties:=i.2.2.2.1}∧bdQ x.1 n x.2.1 x.2.2.1 x.2.2.2.1 x.2.2.2.2∧Bq x.1 x.2.1 x.2.2.1 x.2.2.2.1 x.2.2.2.2=true)∧(((0:Int)=pc0.ind∧pc0.rules=[]∧pc0.chunks=[]∧pc0.spans=[]∧pc0.ties=[]∧nds x_7.1.ns=nds x.1∧x_7.1.ind=x.2.2.2.2∧AV.sl true 0 2 Ru ruA (yBW y).rules=AV.sl true 0 2 Ru ruA (yBW i).rules∧AV.sl true 0 5 Ch chA ((yBW y).chunks++zs)=AV.sl true 0 5 Ch chA (yBW i).chunks∧AV.sl true 0 3 Sn snA (yBW y).spans=AV.sl true 0 3 Sn snA (yBW i).spans∧AV.sl true 0 2 Ti tiA (yBW y).ties=AV.sl true 0 2 Ti tiA (yBW i).ties∧(yBW y).text=(yBW i).text∧(!x_7.1.rd)=false∧True)∧True))))))))))∧((∃(x_8:Ch),(yBW y).text=x_8.text∧((0:Int)=x_8.rule∧((0:Int)=x_8.fr∧false=x_8.space∧((0:Int)=x_8.nest∧(∃(zs:List Ch),AV.sl true 0 5 Ch chA [x_8]=AV.sl true 0 5 Ch chA zs∧(Bg chA∧(AY (List.length (yBW y).chunks+List.length zs) (48:Nat)∧(true=true∧(∃(i:List Ru×List Ch×List Sn×List Ti×List UInt8),(isP (bdP x.1 n x.2.1 x.2.2.1 x.2.2.2.1 x.2.2.2.2) {ind:=x.2.2.2.2,rules:=i.1,chunks:=i.2.1,spans:=i.2.2.1,ties:=i.2.2.2.1}∧bdQ x.1 n x.2.1 x.2.2.1 x.2.2.2.1 x.2.2.2.2∧Bq x.1 x.2.1 x.2.2.1 x.2.2.2.1 x.2.2.2.2=true)∧(((0:Int)=pc0.ind∧pc0.rules=[]∧pc0.chunks=[]∧pc0.spans=[]∧pc0.ties=[]∧nds x_7.1.ns=nds x.1∧x_7.1.ind=x.2.2.2.2∧AV.sl true 0 2 Ru ruA (yBW y).rules=AV.sl true 0 2 Ru ruA (yBW i).rules∧AV.sl true 0 5 Ch chA ((yBW y).chunks++zs)=AV.sl true 0 5 Ch chA (yBW i).chunks∧AV.sl true 0 3 Sn snA (yBW y).spans=AV.sl true 0 3 Sn snA (yBW i).spans∧AV.sl true 0 2 Ti tiA (yBW y).ties=AV.sl true 0 2 Ti tiA (yBW i).ties∧(yBW y).text=(yBW i).text∧(!x_7.1.rd)=false∧True)∧True))))))))))∧((∃(x_8:Ch),(yBW y).text=x_8.text∧((0:Int)=x_8.rule∧((0:Int)=x_8.fr∧false=x_8.space∧((0:Int)=x_8.nest∧(∃(zs:List Ch),AV.sl true 0 5 Ch chA [x_8]=AV.sl true 0 5 Ch chA zs∧(Bg chA∧(AY (List.length (yBW y).chunks+List.length zs) (48:Nat)∧(true=true∧(∃(i:List Ru×List Ch×List Sn×List Ti×List UInt8),(isP (bdP x.1 n x.2.1 x.2.2.1 x.2.2.2.1 x.2.2.2.2) {ind:=x.2.2.2.2,rules:=i.1,chunks:=i.2.1,spans:=i.2.2.1,ties:=i.2.2.2.1}∧bdQ x.1 n x.2.1 x.2.2.1 x.2.2.2.1 x.2.2.2.2∧Bq x.1 x.2.1 x.2.2.1 x.2.2.2.1 x.2.2.2.2=true)∧(((0:Int)=pc0.ind∧pc0.rules=[]∧pc0.chunks=[]∧pc0.spans=[]∧pc0.ties=[]∧nds x_7.1.ns=nds x.1∧x_7.1.ind=x.2.2.2.2∧AV.sl true 0 2 Ru ruA (yBW y).rules=AV.sl true 0 2 Ru ruA (yBW i).rules∧AV.sl true 0 5 Ch chA ((yBW y).chunks++zs)=AV.sl true 0 5 Ch chA (yBW i).chunks∧AV.sl true 0 3 Sn snA (yBW y).spans=AV.sl true 0 3 Sn snA (yBW i).spans∧AV.sl true 0 2 Ti tiA (yBW y).ties=AV.sl true 0 2 Ti tiA (yBW i).ties∧(yBW y).text=(yBW i).text∧(!x_7.1.rd)=false∧True)∧True))))))))))∧(∃(x_8:Ch),(yBW y).text=x_8.text∧((0:Int)=x_8.rule∧((0:Int)=x_8.fr∧false=x_8.space∧((0:Int)=x_8.nest∧(∃(zs:List Ch),AV.sl true 0 5 Ch chA [x_8]=AV.sl true 0 5 Ch chA zs∧(Bg chA∧(AY (List.length (yBW y).chunks+List.length zs) (48:Nat)∧(true=true∧(∃(i:List Ru×List Ch×List Sn×List Ti×List UInt8),(isP (bdP x.1 n x.2.1 x.2.2.1 x.2.2.2.1 x.2.2.2.2) {ind:=x.2.2.2.2,rules:=i.1,chunks:=i.2.1,spans:=i.2.2.1,ties:=i.2.2.2.1}∧bdQ x.1 n x.2.1 x.2.2.1 x.2.2.2.1 x.2.2.2.2∧Bq x.1 x.2.1 x.2.2.1 x.2.2.2.1 x.2.2.2.2=true)∧(((0:Int)=pc0.ind∧pc0.rules=[]∧pc0.chunks=[]∧pc0.spans=[]∧pc0.ties=[]∧nds x_7.1.ns=nds x.1∧x_7.1.ind=x.2.2.2.2∧AV.sl true 0 2 Ru ruA (yBW y).rules=AV.sl true 0 2 Ru ruA (yBW i).rules∧AV.sl true 0 5 Ch chA ((yBW y).chunks++zs)=AV.sl true 0 5 Ch chA (yBW i).chunks∧AV.sl true 0 3 Sn snA (yBW y).spans=AV.sl true 0 3 Sn snA (yBW i).spans∧AV.sl true 0 2 Ti tiA (yBW y).ties=AV.sl true 0 2 Ti tiA (yBW i).ties∧(yBW y).text=(yBW i).text∧(!x_7.1.rd)=false∧True)∧True)))))))))))))∧(∀(i:List Ru×List Ch×List Sn×List Ti×List UInt8),isP (bdP x.1 n x.2.1 x.2.2.1 x.2.2.2.1 x.2.2.2.2) {ind:=x.2.2.2.2,rules:=i.1,chunks:=i.2.1,spans:=i.2.2.1,ties:=i.2.2.2.1}∧bdQ x.1 n x.2.1 x.2.2.1 x.2.2.2.1 x.2.2.2.2∧Bq x.1 x.2.1 x.2.2.1 x.2.2.2.1 x.2.2.2.2=true→cA CT [.agg [.int .i64 x.2.2.2.2,AV.sl true 0 2 Ru ruA (yBW i).rules,AV.sl true 0 5 Ch chA (yBW i).chunks,AV.sl true 0 3 Sn snA (yBW i).spans,AV.sl true 0 2 Ti tiA (yBW i).ties]] fun x_8 y=>Ab (!Bo x_8) (∃(y:Unit),True∧((0:Int)=(pfR x.1 n x.2.1 x.2.2.1 x.2.2.2.1 x.2.2.2.2).ind∧((pfR x.1 n x.2.1 x.2.2.1 x.2.2.2.1 x.2.2.2.2).rules=[]∧((pfR x.1 n x.2.1 x.2.2.1 x.2.2.2.1 x.2.2.2.2).chunks=[]∧((pfR x.1 n x.2.1 x.2.2.1 x.2.2.2.1 x.2.2.2.2).spans=[]∧((pfR x.1 n x.2.1 x.2.2.1 x.2.2.2.1 x.2.2.2.2).ties=[]∧false=Bq x.1 x.2.1 x.2.2.1 x.2.2.2.1 x.2.2.2.2∧True)))))) (∃(y:Unit),True∧x.2.2.2.2=(pfR x.1 n x.2.1 x.2.2.1 x.2.2.2.1 x.2.2.2.2).ind∧AV.sl true 0 2 Ru ruA (yBW i).rules=AV.sl true 0 2 Ru ruA (pfR x.1 n x.2.1 x.2.2.1 x.2.2.2.1 x.2.2.2.2).rules∧AV.sl true 0 5 Ch chA (yBW i).chunks=AV.sl true 0 5 Ch chA (pfR x.1 n x.2.1 x.2.2.1 x.2.2.2.1 x.2.2.2.2).chunks∧AV.sl true 0 3 Sn snA (yBW i).spans=AV.sl true 0 3 Sn snA (pfR x.1 n x.2.1 x.2.2.1 x.2.2.2.1 x.2.2.2.2).spans∧AV.sl true 0 2 Ti tiA (yBW i).ties=AV.sl true 0 2 Ti tiA (pfR x.1 n x.2.1 x.2.2.1 x.2.2.2.1 x.2.2.2.2).ties∧true=Bq x.1 x.2.1 x.2.2.1 x.2.2.2.1 x.2.2.2.2∧True))))) (cA (BQ n) [.box 0 [nds x.1,.int .i64 x.2.2.2.2,.nil,.nil,.nil,.nil,.str x.2.2.1,.bool false],.int .i64 x.2.1,.int .i64 (0:Int)] fun x_6 y=>cA Cd [.box 0 [nds x_6.1.ns,.int .i64 x_6.1.ind,AV.sl true 0 2 Ru ruA (yBW y).rules,AV.sl true 0 5 Ch chA (yBW y).chunks,AV.sl true 0 3 Sn snA (yBW y).spans,AV.sl true 0 2 Ti tiA (yBW y).ties,.str (yBW y).text,.bool !x_6.1.rd],.str x.2.2.2.1] fun x_7 y=>true=true∧(((∃(x_8:Ch),(yBW y).text=x_8.text∧((0:Int)=x_8.rule∧((0:Int)=x_8.fr∧false=x_8.space∧((0:Int)=x_8.nest∧(∃(zs:List Ch),AV.sl true 0 5 Ch chA [x_8]=AV.sl true 0 5 Ch chA zs∧(Bg chA∧(AY (List.length (yBW y).chunks+List.length zs) (48:Nat)∧(true=true∧(∃(i:List Ru×List Ch×List Sn×List Ti×List UInt8),(isP (bdP x.1 n x.2.1 x.2.2.1 x.2.2.2.1 x.2.2.2.2) {ind:=x.2.2.2.2,rules:=i.1,chunks:=i.2.1,spans:=i.2.2.1,ties:=i.2.2.2.1}∧bdQ x.1 n x.2.1 x.2.2.1 x.2.2.2.1 x.2.2.2.2∧Bq x.1 x.2.1 x.2.2.1 x.2.2.2.1 x.2.2.2.2=true)∧(((0:Int)=pc0.ind∧pc0.rules=[]∧pc0.chunks=[]∧pc0.spans=[]∧pc0.ties=[]∧nds x_7.1.ns=nds x.1∧x_7.1.ind=x.2.2.2.2∧AV.sl true 0 2 Ru ruA (yBW y).rules=AV.sl true 0 2 Ru ruA (yBW i).rules∧AV.sl true 0 5 Ch chA ((yBW y).chunks++zs)=AV.sl true 0 5 Ch chA (yBW i).chunks∧AV.sl true 0 3 Sn snA (yBW y).spans=AV.sl true 0 3 Sn snA (yBW i).spans∧AV.sl true 0 2 Ti tiA (yBW y).ties=AV.sl true 0 2 Ti tiA (yBW i).ties∧(yBW y).text=(yBW i).text∧(!x_7.1.rd)=false∧True)∧True))))))))))∧((∃(x_8:Ch),(yBW y).text=x_8.text∧((0:Int)=x_8.rule∧((0:Int)=x_8.fr∧false=x_8.space∧((0:Int)=x_8.nest∧(∃(zs:List Ch),AV.sl true 0 5 Ch chA [x_8]=AV.sl true 0 5 Ch chA zs∧(Bg chA∧(AY (List.length (yBW y).chunks+List.length zs) (48:Nat)∧(true=true∧(∃(i:List Ru×List Ch×List Sn×List Ti×List UInt8),(isP (bdP x.1 n x.2.1 x.2.2.1 x.2.2.2.1 x.2.2.2.2) {ind:=x.2.2.2.2,rules:=i.1,chunks:=i.2.1,spans:=i.2.2.1,ties:=i.2.2.2.1}∧bdQ x.1 n x.2.1 x.2.2.1 x.2.2.2.1 x.2.2.2.2∧Bq x.1 x.2.1 x.2.2.1 x.2.2.2.1 x.2.2.2.2=true)∧(((0:Int)=pc0.ind∧pc0.rules=[]∧pc0.chunks=[]∧pc0.spans=[]∧pc0.ties=[]∧nds x_7.1.ns=nds x.1∧x_7.1.ind=x.2.2.2.2∧AV.sl true 0 2 Ru ruA (yBW y).rules=AV.sl true 0 2 Ru ruA (yBW i).rules∧AV.sl true 0 5 Ch chA ((yBW y).chunks++zs)=AV.sl true 0 5 Ch chA (yBW i).chunks∧AV.sl true 0 3 Sn snA (yBW y).spans=AV.sl true 0 3 Sn snA (yBW i).spans∧AV.sl true 0 2 Ti tiA (yBW y).ties=AV.sl true 0 2 Ti tiA (yBW i).ties∧(yBW y).text=(yBW i).text∧(!x_7.1.rd)=false∧True)∧True))))))))))∧((∃(x_8:Ch),(yBW y).text=x_8.text∧((0:Int)=x_8.rule∧((0:Int)=x_8.fr∧false=x_8.space∧((0:Int)=x_8.nest∧(∃(zs:List Ch),AV.sl true 0 5 Ch chA [x_8]=AV.sl true 0 5 Ch chA zs∧(Bg chA∧(AY (List.length (yBW y).chunks+List.length zs) (48:Nat)∧(true=true∧(∃(i:List Ru×List Ch×List Sn×List Ti×List UInt8),(isP (bdP x.1 n x.2.1 x.2.2.1 x.2.2.2.1 x.2.2.2.2) {ind:=x.2.2.2.2,rules:=i.1,chunks:=i.2.1,spans:=i.2.2.1,ties:=i.2.2.2.1}∧bdQ x.1 n x.2.1 x.2.2.1 x.2.2.2.1 x.2.2.2.2∧Bq x.1 x.2.1 x.2.2.1 x.2.2.2.1 x.2.2.2.2=true)∧(((0:Int)=pc0.ind∧pc0.rules=[]∧pc0.chunks=[]∧pc0.spans=[]∧pc0.ties=[]∧nds x_7.1.ns=nds x.1∧x_7.1.ind=x.2.2.2.2∧AV.sl true 0 2 Ru ruA (yBW y).rules=AV.sl true 0 2 Ru ruA (yBW i).rules∧AV.sl true 0 5 Ch chA ((yBW y).chunks++zs)=AV.sl true 0 5 Ch chA (yBW i).chunks∧AV.sl true 0 3 Sn snA (yBW y).spans=AV.sl true 0 3 Sn snA (yBW i).spans∧AV.sl true 0 2 Ti tiA (yBW y).ties=AV.sl true 0 2 Ti tiA (yBW i).ties∧(yBW y).text=(yBW i).text∧(!x_7.1.rd)=false∧True)∧True))))))))))∧(∃(x_8:Ch),(yBW y).text=x_8.text∧((0:Int)=x_8.rule∧((0:Int)=x_8.fr∧false=x_8.space∧((0:Int)=x_8.nest∧(∃(zs:List Ch),AV.sl true 0 5 Ch chA [x_8]=AV.sl true 0 5 Ch chA zs∧(Bg chA∧(AY (List.length (yBW y).chunks+List.length zs) (48:Nat)∧(true=true∧(∃(i:List Ru×List Ch×List Sn×List Ti×List UInt8),(isP (bdP x.1 n x.2.1 x.2.2.1 x.2.2.2.1 x.2.2.2.2) {ind:=x.2.2.2.2,rules:=i.1,chunks:=i.2.1,spans:=i.2.2.1,ties:=i.2.2.2.1}∧bdQ x.1 n x.2.1 x.2.2.1 x.2.2.2.1 x.2.2.2.2∧Bq x.1 x.2.1 x.2.2.1 x.2.2.2.1 x.2.2.2.2=true)∧(((0:Int)=pc0.ind∧pc0.rules=[]∧pc0.chunks=[]∧pc0.spans=[]∧pc0.ties=[]∧nds x_7.1.ns=nds x.1∧x_7.1.ind=x.2.2.2.2∧AV.sl true 0 2 Ru ruA (yBW y).rules=AV.sl true 0 2 Ru ruA (yBW i).rules∧AV.sl true 0 5 Ch chA ((yBW y).chunks++zs)=AV.sl true 0 5 Ch chA (yBW i).chunks∧AV.sl true 0 3 Sn snA (yBW y).spans=AV.sl true 0 3 Sn snA (yBW i).spans∧AV.sl true 0 2 Ti tiA (yBW y).ties=AV.sl true 0 2 Ti tiA (yBW i).ties∧(yBW y).text=(yBW i).text∧(!x_7.1.rd)=false∧True)∧True)))))))))))))∧(∀(i:List Ru×List Ch×List Sn×List Ti×List UInt8),isP (bdP x.1 n x.2.1 x.2.2.1 x.2.2.2.1 x.2.2.2.2) {ind:=x.2.2.2.2,rules:=i.1,chunks:=i.2.1,spans:=i.2.2.1,ties:=i.2.2.2.1}∧bdQ x.1 n x.2.1 x.2.2.1 x.2.2.2.1 x.2.2.2.2∧Bq x.1 x.2.1 x.2.2.1 x.2.2.2.1 x.2.2.2.2=true→cA CT [.agg [.int .i64 x.2.2.2.2,AV.sl true 0 2 Ru ruA (yBW i).rules,AV.sl true 0 5 Ch chA (yBW i).chunks,AV.sl true 0 3 Sn snA (yBW i).spans,AV.sl true 0 2 Ti tiA (yBW i).ties]] fun x_8 y=>Ab (!Bo x_8) (∃(y:Unit),True∧((0:Int)=(pfR x.1 n x.2.1 x.2.2.1 x.2.2.2.1 x.2.2.2.2).ind∧((pfR x.1 n x.2.1 x.2.2.1 x.2.2.2.1 x.2.2.2.2).rules=[]∧((pfR x.1 n x.2.1 x.2.2.1 x.2.2.2.1 x.2.2.2.2).chunks=[]∧((pfR x.1 n x.2.1 x.2.2.1 x.2.2.2.1 x.2.2.2.2).spans=[]∧((pfR x.1 n x.2.1 x.2.2.1 x.2.2.2.1 x.2.2.2.2).ties=[]∧false=Bq x.1 x.2.1 x.2.2.1 x.2.2.2.1 x.2.2.2.2∧True)))))) (∃(y:Unit),True∧x.2.2.2.2=(pfR x.1 n x.2.1 x.2.2.1 x.2.2.2.1 x.2.2.2.2).ind∧AV.sl true 0 2 Ru ruA (yBW i).rules=AV.sl true 0 2 Ru ruA (pfR x.1 n x.2.1 x.2.2.1 x.2.2.2.1 x.2.2.2.2).rules∧AV.sl true 0 5 Ch chA (yBW i).chunks=AV.sl true 0 5 Ch chA (pfR x.1 n x.2.1 x.2.2.1 x.2.2.2.1 x.2.2.2.2).chunks∧AV.sl true 0 3 Sn snA (yBW i).spans=AV.sl true 0 3 Sn snA (pfR x.1 n x.2.1 x.2.2.1 x.2.2.2.1 x.2.2.2.2).spans∧AV.sl true 0 2 Ti tiA (yBW i).ties=AV.sl true 0 2 Ti tiA (pfR x.1 n x.2.1 x.2.2.1 x.2.2.2.1 x.2.2.2.2).ties∧true=Bq x.1 x.2.1 x.2.2.1 x.2.2.2.1 x.2.2.2.2∧True)))))))))))) (fun x=>by kernel_rfl) fun(x:List Nd×Int×List UInt8×List UInt8×Int) (hx:pfP x.1 n x.2.1 x.2.2.1 x.2.2.2.1)=>(by
 dsimp only[cA,Bl,Bi,nds,pcA,Bj,Bz,Ea,CT,Ik,FL,Cd,DT,Dq,BQ,Bm,suA,Bn,Aq,Aw,mvL,lnL,mvE,lnE,mvG,mvH,lnG,lnH]
 obtain⟨ns,k,pre,post,ind⟩:=x;dsimp only at hx ⊢
 have hx:pfP ns n k pre post:=hx
 (repeat' first|refine Rv ?_|refine Sm ⟨ind,ns,true⟩ ?_|refine Ib (bdP ns n k pre post ind) ?_|(with_reducible first|rfl|exact True.intro|apply AG|apply And.intro|((first|apply Au|apply AE|apply Av|apply AF)<;>intro _))|(apply As<;>intro _)|apply AD|refine Af () ?_ ?_|((first|apply AK|apply AJ|apply AI|apply AH|apply AC|apply AB|apply AA|apply Az|apply Ax)<;>try dsimp only)|apply Af|(refine Prod.forall.2 ?_;intro _;try dsimp only)|(intro _;try dsimp only))
 all_goals(try dsimp only[yBW,xC,zBW,zI,wB] at*)
 all_goals(try(have hkk:=b6M hx ‹_›))
 all_goals(try(have hQQ:=b6S (ind:=ind) hx (show BM ns k≠0 by assumption) (show ns[k.toNat]? =some _ by assumption) ‹_› ‹_› (show¬(pre.length:Int)>40 by assumption) (show¬(post.length:Int)>40 by assumption) ‹_› ‹_›;have hQ:=hQQ.1))
 all_goals(try(first
  |(have hF:= @Lj ns n k ind pre post (.inl (.inl ‹_›)))
  |(have hF:= @b6J ns n k ind pre post _ ‹_› ‹_› ‹_›)
  |(have hF:= @Lj ns n k ind pre post (.inr (.inl (.inl ‹_›))))
  |(have hF:= @Lj ns n k ind pre post (.inr (.inl (.inr (.inl ‹_›)))))
  |(have hF:= @Lj ns n k ind pre post (.inr (.inl (.inr (.inr ‹_›)))))
  |(have hF:= @Lj ns n k ind pre post (.inr (.inr (.inl ‹_›))))
  |(have hF:= @Lj ns n k ind pre post (.inr (.inr (.inr ‹_›))))))
 all_goals(try(first|(have hE:Dd pre=true:=b6T ‹_› ‹_› ‹_›)|(have hE:Dd pre=false:=b6U ‹_›)|(have hE:Dd pre=false:=b6V ‹_› ‹_› ‹_›)))
 all_goals(try(have hZ:=b6W (show(pre==[])=false by assumption)))
 all_goals(try(first|(have hA:=b6F (ind:=ind) ‹_› ‹_› ‹_› hE)|(have hA:=b6G (ind:=ind) ‹_› hE)))
 all_goals(try(have hL:=a5G hA hQ;dsimp only at hL))
 all_goals(try(have hW:=b6I (show isB (Am post _) _ by assumption) hA hQ;dsimp only at hW))
 all_goals first
  |with_reducible rfl
  |with_reducible assumption
  |omega
  |exact hx.ok
  |exact hx.ok.1
  |exact hx.l30
  |(rw[hF.1];done)
  |(rw[hF.1];rfl)
  |exact hF.2.symm
  |exact b6K ‹_›
  |exact b6L ‹_› ‹_›
  |exact b6D ‹_› ‹_› hE hQ hkk.2
  |exact b6E hE hQ hkk.2
  |exact b6H ‹_› hA
  |exact hQ
  |exact hQQ.2.1
  |(have hq:=(show isP _ _∧_ by assumption).1;have e:=a5H hq;first|exact congrArg Pc.ind e|exact congrArg Pc.rules e|exact congrArg Pc.chunks e|exact congrArg Pc.spans e|exact congrArg Pc.ties e)
  |exact OP (show isP _ _∧bdQ _ _ _ _ _ _∧_ by assumption).2.1
  |(exfalso;rename Bo _=false=>hf;rw[MQ (show isP _ _∧bdQ _ _ _ _ _ _∧_ by assumption).2.1] at hf;cases hf)
  |(have hq:=(show isP _ _∧bdQ _ _ _ _ _ _∧_ by assumption);have e:=a5H hq.1;have eR:=hQQ.2.2;rw[eR];first|exact congrArg Pc.ind e|exact(congrArg Pc.ind e).symm|exact congrArg Pc.rules e|exact(congrArg Pc.rules e).symm|exact congrArg Pc.chunks e|exact(congrArg Pc.chunks e).symm|exact congrArg Pc.spans e|exact(congrArg Pc.spans e).symm|exact congrArg Pc.ties e|exact(congrArg Pc.ties e).symm)
  |exact(show isP _ _∧bdQ _ _ _ _ _ _∧Bq ns k pre post ind=true by assumption).2.2.symm
  |((try simp only[Aj,AY,List.length_cons,List.length_nil]);omega)
  |rfl
  |exact()
  |skip)
def JE(n:Nat):Sig:= {X:=List Nd×Int,args:=fun x=>[nds x.1,.int .i64 x.2],pre:=fun x=>(CZ x.1∧x.1.length≤2^30)∧(x.1.length≤n∧(Cv x.1 x.2=true→tW x.1 n x.2≤2^60)),Y:=Unit,post:=fun x y=>True,res:=fun x y=> .str (if Cv x.1 x.2 then Hf x.1 n x.2 else []),outs:=fun x y=>[.top,.top],keep:=false}
theorem b6Z(n:Nat)(hv:Ah G Go.Proofs.Tryz.prog 49 (BQ n)):Ah G Tryz.prog 15 (JE n):=
 vcFun_okP [(44,0,FL),(34,0,Ea),(49,0,(BQ n))] [] false (fun x=>[]) Tryz.func15 rfl (by decide) ⟨Vq,Qp,hv,trivial⟩ (fun(x:List Nd×Int)=>(∀(y:Unit),True→True∧True∧True∧True)∧cA FL [nds x.1,.int .i64 x.2] fun x_1 y=>Ab (BM x_1.1 x_1.2==(0:Int)) (rA (JE n) x [.str #[].toList,.top,.top]) (((0:Int)≤x.2∧x.2<(↑(List.length x.1):Int))∧∀(e:Nd),x.1[Int.toNat x.2]? =some e→cA Ea [.int .i64 e.kind] fun x_2 y=>Ab (!AX x_2) (rA (JE n) x [.str #[].toList,.top,.top]) (cA (BQ n) [.box 0 [nds x.1,.int .i64 (0:Int),.nil,.nil,.nil,.nil,.str #[].toList,.bool true],.int .i64 x.2,.int .i64 (0:Int)] fun x_3 y=>rA (JE n) x [.str (yBW y).text,.top,.top]))) (fun x=>by kernel_rfl) fun(x:List Nd×Int) (hx:(CZ x.1∧x.1.length≤2^30)∧(x.1.length≤n∧(Cv x.1 x.2=true→tW x.1 n x.2≤2^60)))=>(by
 dsimp only[cA,Bl,Bi,nds,rA,Bj,Ea,FL,BQ,JE,Bm,suA,Bn,Aq,Aw,mvL,lnL,mvE,lnE,mvG,mvH,lnG,lnH]
 obtain⟨ns,k⟩:=x;dsimp only at hx ⊢
 obtain⟨⟨h1,h2⟩,h3,h4⟩:=hx
 (repeat' first|refine Sm ⟨0,ns,false⟩ ?_|(with_reducible first|rfl|exact True.intro|apply AG|apply And.intro|((first|apply Au|apply AE|apply Av|apply AF)<;>intro _))|(apply As<;>intro _)|apply AD|refine Af () ?_ ?_|((first|apply AK|apply AJ|apply AI|apply AH|apply AC|apply AB|apply AA|apply Az|apply Ax)<;>try dsimp only)|apply Af|(refine Prod.forall.2 ?_;intro _;try dsimp only)|(intro _;try dsimp only))
 all_goals(try dsimp only[yBW,xC,zBW,zI,wB] at*)
 all_goals(try(have hkk:=Bc.1 (HX (show BM ns k≠0 by assumption)).1))
 all_goals(try(have hT:= @b6O ns n k _ ‹_› ‹_› ‹_›))
 all_goals(try(first|(have hF:= @b6P ns k ‹_›)|(have hF:= @b6Q ns k _ ‹_› ‹_›)))
 all_goals first
  |with_reducible rfl
  |with_reducible assumption
  |omega
  |exact h1
  |exact h1.1
  |(rw[if_neg (by rw[hF];simp)];done)
  |exact b6R h3 h4 hT h2
  |(rw[if_pos hT];rename vsQ _ _ _ _ _ _=>hq;exact congrArg Bs.text hq)
  |rfl
  |skip)
def wpL(p:Pc)(w bud:Int):List (List UInt8):=if Bo p then Eh p w bud else []
def wpS(p:Pc)(w bud:Int):Int:=if Bo p then Et p w bud else 0
theorem b7a{p:Pc}{w bud:Int}(h:Bo p=false):wpL p w bud=[]∧wpS p w bud=0:=by simp [wpL,wpS,h]
theorem b7b{p:Pc}{w bud:Int}(h:Bo p=true):wpL p w bud=BF p (srF p w bud).1.best∧wpS p w bud=(srF p w bud).2:=by simp [wpL,wpS,h,Eh,Et]
theorem b7c{p:Pc}{w bud:Int}(h:Bo p=true):(srF p w bud).2≠0:=by rcases(Wm (w:=w) (bud:=bud) (EQ h)).2 with e|e<;>omega
def Ss:Sig:= {X:=Pc×Int×Int,args:=fun x=>[.agg (pcA false x.1),.int .i64 x.2.1,.int .i64 x.2.2],pre:=fun x=>pcS x.1,Y:=Unit,post:=fun x y=>True,res:=fun x y=> .agg [Cu (wpL x.1 x.2.1 x.2.2),.int .i64 (wpS x.1 x.2.1 x.2.2)],outs:=fun x y=>[.top,.top,.top],keep:=false}
theorem b7d:Ah G Tryz.prog 127 Ss:=
 vcFun_okP [(164,0,KR),(165,0,Hz)] [] false (fun x=>[]) Tryz.func127 rfl (by decide) ⟨b2Q,a1Q,trivial⟩ (fun(x:Pc×Int×Int)=>(∀(y:Unit),True→((∀(x:List UInt8),True∧True)∧True∧True)∧True∧True∧True∧True)∧cA KR [.agg [.int .i64 x.1.ind,AV.sl false 0 2 Ru ruA x.1.rules,AV.sl false 0 5 Ch chA x.1.chunks,AV.sl false 0 3 Sn snA x.1.spans,AV.sl false 0 2 Ti tiA x.1.ties],.int .i64 x.2.1,.int .i64 x.2.2] fun x_1 y=>Ab ((if Bo x_1.1=true then(srF x_1.1 x_1.2.1 x_1.2.2).2 else(0:Int))==(0:Int)) (∃(y:Unit),True∧wpL x.1 x.2.1 x.2.2=[]∧(0:Int)=wpS x.1 x.2.1 x.2.2∧True) (cA Hz [.agg [.int .i64 x.1.ind,AV.sl false 0 2 Ru ruA x.1.rules,AV.sl false 0 5 Ch chA x.1.chunks,AV.sl false 0 3 Sn snA x.1.spans,AV.sl false 0 2 Ti tiA x.1.ties],Ad (if Bo x_1.1=true then(srF x_1.1 x_1.2.1 x_1.2.2).1.best else [])] fun x_2 y=>∃(y:Unit),True∧AV.sl true 0 1 (List UInt8) Ag (BF x_2.1 x_2.2)=AV.sl true 0 1 (List UInt8) Ag (wpL x.1 x.2.1 x.2.2)∧(if Bo x_1.1=true then(srF x_1.1 x_1.2.1 x_1.2.2).2 else(0:Int))=wpS x.1 x.2.1 x.2.2∧True)) (fun x=>by kernel_rfl) fun(x:Pc×Int×Int) (hx:pcS x.1)=>(by
 dsimp only[cA,Bl,chs,Ad,Cu,pcA,Bj,Hz,KR,Bm,Bn,Aq,Aw,mvL,lnL,mvE,lnE,mvG,mvH,lnG,lnH]
 obtain⟨p,w,bud⟩:=x;dsimp only at hx ⊢
 have hx:pcS p:=hx
 by_cases hp:Bo p=true
 ·have hF:= @b7b p w bud hp
  have hn:= @b7c p w bud hp
  (repeat' first|refine Ib p ?_|refine Dp p ?_|(with_reducible first|rfl|exact True.intro|apply AG|apply And.intro|((first|apply Au|apply AE|apply Av|apply AF)<;>intro _))|(apply As<;>intro _)|apply AD|refine Af () ?_ ?_|((first|apply AK|apply AJ|apply AI|apply AH|apply AC|apply AB|apply AA|apply Az|apply Ax)<;>try dsimp only)|apply Af|(refine Prod.forall.2 ?_;intro _;try dsimp only)|(intro _;try dsimp only))
  all_goals first
   |with_reducible rfl
   |exact hx
   |(exfalso;rename(if Bo p=true then _ else _)=(0:Int)=>hq;rw[if_pos hp] at hq;exact hn hq)
   |(rw[if_pos hp,hF.1];done)
   |(rw[if_pos hp,hF.2];done)
   |(dsimp only;rw[if_pos hp];exact⟨EQ hp,(Wm (EQ hp)).1.bl,hx.2.1.2⟩)
   |skip
 ·have hp2:Bo p=false:=by simpa using hp
  have hF:= @b7a p w bud hp2
  (repeat' first|refine Ib p ?_|refine Dp p ?_|(with_reducible first|rfl|exact True.intro|apply AG|apply And.intro|((first|apply Au|apply AE|apply Av|apply AF)<;>intro _))|(apply As<;>intro _)|apply AD|refine Af () ?_ ?_|((first|apply AK|apply AJ|apply AI|apply AH|apply AC|apply AB|apply AA|apply Az|apply Ax)<;>try dsimp only)|apply Af|(refine Prod.forall.2 ?_;intro _;try dsimp only)|(intro _;try dsimp only))
  all_goals first
   |with_reducible rfl
   |exact hx
   |exact hF.1
   |exact hF.2.symm
   |(exfalso;rename¬(if Bo p=true then _ else _)=(0:Int)=>hq;rw[if_neg hp] at hq;exact hq rfl)
   |skip)
theorem a5I{i:Int}(h1:0≤i)(h2:i≤100000):(blk i).length≤100000:=by simp [blk];omega
def wrA(c:WC)(s:Ws):AV:= .box 0 [nds c.ns,.int .i64 c.w,.int .i64 c.bud,.sl true 0 1 (List UInt8) Ag s.ls,.int .i64 s.st]
abbrev yW (y:List (List UInt8)×Int):Ws:=⟨y.1,y.2⟩
abbrev xW {α:Type} (x:WC×List (List UInt8)×Int×α):Ws:=⟨x.2.1,x.2.2.1⟩
def AR(a b:Ws):Prop:=b=a
def DU:Sig:= {X:=WC×List (List UInt8)×Int×Int×List UInt8,args:=fun x=>[wrA x.1 (xW x),.int .i64 x.2.2.2.1,.str x.2.2.2.2],pre:=fun x=>(0≤x.2.2.2.1∧x.2.2.2.1≤100000)∧x.2.2.2.2.length≤2^62∧x.2.1.length≤2^41,Y:=List (List UInt8)×Int,post:=fun x y=>AR (Bv x.2.2.2.1 x.2.2.2.2 (xW x)) (yW y),res:=fun x y=> .tup [],outs:=fun x y=>[wrA x.1 (yW y),.top,.top],keep:=true}
def b7e(x:WC×List (List UInt8)×Int×Int×List UInt8):LS:= {ι:=Unit,inv:=fun _=>True,regs:=fun _=>[(0,wrA x.1 ⟨x.2.1++[blk x.2.2.2.1++x.2.2.2.2],x.2.2.1⟩)],als:=[],meas:=fun _=>0}
def Su(x:WC×List (List UInt8)×Int×Int×List UInt8)(x_1:GD.X):Prop:=∃(x_2:List UInt8),blk x_1++x.2.2.2.2=x_2∧(∃(zs:List (List UInt8)),AV.sl true 0 1 (List UInt8) Ag [x_2]=AV.sl true 0 1 (List UInt8) Ag zs∧(Bg Ag∧(AY (List.length (xW x).ls+List.length zs) (16:Nat)∧(true=true∧(∃(i:Unit),True∧((nds x.1.ns=nds x.1.ns∧x.1.w=x.1.w∧x.1.bud=x.1.bud∧AV.sl true 0 1 (List UInt8) Ag ((xW x).ls++zs)=AV.sl true 0 1 (List UInt8) Ag (x.2.1++[blk x.2.2.2.1++x.2.2.2.2])∧(xW x).st=x.2.2.1∧True)∧True))))))
theorem a5J:Ah G Tryz.prog 99 DU:=
 vcFun_okP [(126,0,GD)] [(42,⟨List UInt8,Ag⟩)] false (fun x=>[(100000,b7e x)]) Tryz.func99 rfl (by decide) ⟨a1P,trivial⟩ (fun(x:WC×List (List UInt8)×Int×Int×List UInt8)=>True∧true=true∧((cA GD [.int .i64 x.2.2.2.1] fun x_1 y=>(↑(List.length (blk x_1)+List.length x.2.2.2.2):Int)≤IntKind.max IntKind.i64∧(Su x x_1))∧cA GD [.int .i64 x.2.2.2.1] fun x_1 y=>(↑(List.length (blk x_1)+List.length x.2.2.2.2):Int)≤IntKind.max IntKind.i64∧(Su x x_1)∧(Su x x_1))∧∀(i:Unit),True→rA DU x [.tup [],.box 0 [nds x.1.ns,.int .i64 x.1.w,.int .i64 x.1.bud,AV.sl true 0 1 (List UInt8) Ag (x.2.1++[blk x.2.2.2.1++x.2.2.2.2]),.int .i64 x.2.2.1],.top,.top]) (fun x=>by kernel_rfl) fun(x:WC×List (List UInt8)×Int×Int×List UInt8) (hx:(0≤x.2.2.2.1∧x.2.2.2.1≤100000)∧x.2.2.2.2.length≤2^62∧x.2.1.length≤2^41)=>(by
 dsimp only[Su,cA,Bi,nds,rA,GD,DU,wrA,Aq,Aw,mvL,lnL,mvE,lnE,mvG,mvH,lnG,lnH]
 obtain⟨c,ls,st,i,t⟩:=x;dsimp only[xW] at hx ⊢
 obtain⟨⟨h1,h2⟩,h3,h4⟩:=hx
 (repeat' first|(with_reducible first|rfl|exact True.intro|apply AG|apply And.intro|((first|apply Au|apply AE|apply Av|apply AF)<;>intro _))|(apply As<;>intro _)|apply AD|refine Af () ?_ ?_|((first|apply AK|apply AJ|apply AI|apply AH|apply AC|apply AB|apply AA|apply Az|apply Ax)<;>try dsimp only)|apply Af|(refine Prod.forall.2 ?_;intro _;try dsimp only)|(intro _;try dsimp only))
 all_goals first
  |with_reducible rfl
  |exact(show AR _ _ from rfl)
  |rfl
  |((try simp only[Aj,AY,List.length_cons,List.length_nil]);omega)
  |(have hb:=a5I (i:=i) h1 h2;(try simp only[Aj]);omega)
  |skip)
structure wvP (c:WC) (n:Nat) (s:Ws) (pre:List UInt8) (k:Int) (post:List UInt8) (i:Int):Prop where
 vw:vwP c n pre k post i
 rm:s.ls.length+81≤2^41
theorem a5K{c:WC}{n:Nat}{s:Ws}{pre:List UInt8}{k:Int}{post:List UInt8}{i:Int}(h:wvP c n s pre k post i):Bq c.ns k pre post i=true∧pfR c.ns n k pre post i=bdP c.ns n k pre post i:=by
 have hb:=h.vw.bd
 have h1:De pre=true:=by simp only[De,Bool.and_eq_true,decide_eq_true_eq];exact hb.pr
 have h2:De post=true:=by simp only[De,Bool.and_eq_true,decide_eq_true_eq];exact hb.po
 have:= @XK c.ns n k i pre post h.vw.va (BA.2 hb.ind) h1 h2
 exact⟨this.2,this.1⟩
theorem a5L{c:WC}{n:Nat}{s:Ws}{pre:List UInt8}{k:Int}{post:List UInt8}{i:Int}(h:wvP c n s pre k post i):pfP c.ns n k pre post:=
 ⟨h.vw.tr.ok,h.vw.tr.l30,h.vw.tr.ln,fun _=>h.vw.bd.tw,by have:=h.vw.bd.pr;omega,by have:=h.vw.bd.po;omega⟩
theorem a5M{c:WC}{n:Nat}{s:Ws}{pre:List UInt8}{k:Int}{post:List UInt8}{i:Int}(h:wvP c n s pre k post i):wpL (bdP c.ns n k pre post i) c.w c.bud=Eh (bdP c.ns n k pre post i) c.w c.bud∧wpS (bdP c.ns n k pre post i) c.w c.bud=Et (bdP c.ns n k pre post i) c.w c.bud∧(Eh (bdP c.ns n k pre post i) c.w c.bud).length≤81:=by
 have hb:=MQ h.vw.bd
 exact⟨by rw[wpL,if_pos hb],by rw[wpS,if_pos hb],a5n (EQ hb)⟩
theorem XN{c:WC}{n:Nat}{s:Ws}{pre:List UInt8}{k:Int}{post:List UInt8}{i:Int}(h:Et (bdP c.ns n k pre post i) c.w c.bud=2):AR (BZ c n pre k post i s) ⟨s.ls++Eh (bdP c.ns n k pre post i) c.w c.bud,2⟩:=by rw[AR,BZ,if_pos h]
theorem a5N{c:WC}{n:Nat}{s:Ws}{pre:List UInt8}{k:Int}{post:List UInt8}{i:Int}(h:¬Et (bdP c.ns n k pre post i) c.w c.bud=2):AR (BZ c n pre k post i s) ⟨s.ls++Eh (bdP c.ns n k pre post i) c.w c.bud,s.st⟩:=by rw[AR,BZ,if_neg h]
def Eu(n:Nat):Sig:= {X:=WC×List (List UInt8)×Int×List UInt8×Int×List UInt8×Int,args:=fun x=>[wrA x.1 (xW x),.str x.2.2.2.1,.int .i64 x.2.2.2.2.1,.str x.2.2.2.2.2.1,.int .i64 x.2.2.2.2.2.2],pre:=fun x=>wvP x.1 n (xW x) x.2.2.2.1 x.2.2.2.2.1 x.2.2.2.2.2.1 x.2.2.2.2.2.2,Y:=List (List UInt8)×Int,post:=fun x y=>AR (BZ x.1 n x.2.2.2.1 x.2.2.2.2.1 x.2.2.2.2.2.1 x.2.2.2.2.2.2 (xW x)) (yW y),res:=fun x y=> .tup [],outs:=fun x y=>[wrA x.1 (yW y),.top,.top,.top,.top],keep:=true}
def b7f(n:Nat)(x:WC×List (List UInt8)×Int×List UInt8×Int×List UInt8×Int):LS:= {ι:=Unit,inv:=fun _=>True,regs:=fun _=>[(0,wrA x.1 (xW x)),(12,.box 0 [Cu (Eh (bdP x.1.ns n x.2.2.2.2.1 x.2.2.2.1 x.2.2.2.2.2.1 x.2.2.2.2.2.2) x.1.w x.1.bud),.int .i64 (Et (bdP x.1.ns n x.2.2.2.2.1 x.2.2.2.1 x.2.2.2.2.2.1 x.2.2.2.2.2.2) x.1.w x.1.bud)])],als:=[],meas:=fun _=>0}
def b7g(n:Nat)(x:WC×List (List UInt8)×Int×List UInt8×Int×List UInt8×Int):LS:= {ι:=Unit,inv:=fun _=>True,regs:=fun _=>[(0,wrA x.1 ⟨x.2.1++Eh (bdP x.1.ns n x.2.2.2.2.1 x.2.2.2.1 x.2.2.2.2.2.1 x.2.2.2.2.2.2) x.1.w x.1.bud,x.2.2.1⟩),(12,.box 0 [.top,.int .i64 (Et (bdP x.1.ns n x.2.2.2.2.1 x.2.2.2.1 x.2.2.2.2.2.1 x.2.2.2.2.2.2) x.1.w x.1.bud)])],als:=[],meas:=fun _=>0}
def CD(n:Nat)(x:WC×List (List UInt8)×Int×List UInt8×Int×List UInt8×Int)(x_1:(OX n).X):Prop:=cA Ss [.agg [.int .i64 (pfR x_1.1 n x_1.2.1 x_1.2.2.1 x_1.2.2.2.1 x_1.2.2.2.2).ind,AV.sl true 0 2 Ru ruA (pfR x_1.1 n x_1.2.1 x_1.2.2.1 x_1.2.2.2.1 x_1.2.2.2.2).rules,AV.sl true 0 5 Ch chA (pfR x_1.1 n x_1.2.1 x_1.2.2.1 x_1.2.2.2.1 x_1.2.2.2.2).chunks,AV.sl true 0 3 Sn snA (pfR x_1.1 n x_1.2.1 x_1.2.2.1 x_1.2.2.2.1 x_1.2.2.2.2).spans,AV.sl true 0 2 Ti tiA (pfR x_1.1 n x_1.2.1 x_1.2.2.1 x_1.2.2.2.1 x_1.2.2.2.2).ties],.int .i64 x.1.w,.int .i64 x.1.bud] fun x_2 y=>true=true∧(∃(i:Unit),True∧((nds x.1.ns=nds x.1.ns∧x.1.w=x.1.w∧x.1.bud=x.1.bud∧AV.sl true 0 1 (List UInt8) Ag (xW x).ls=AV.sl true 0 1 (List UInt8) Ag (xW x).ls∧((xW x).st=(xW x).st∧AV.sl true 0 1 (List UInt8) Ag (wpL x_2.1 x_2.2.1 x_2.2.2)=AV.sl true 0 1 (List UInt8) Ag (Eh (bdP x.1.ns n x.2.2.2.2.1 x.2.2.2.1 x.2.2.2.2.2.1 x.2.2.2.2.2.2) x.1.w x.1.bud)∧wpS x_2.1 x_2.2.1 x_2.2.2=Et (bdP x.1.ns n x.2.2.2.2.1 x.2.2.2.1 x.2.2.2.2.2.1 x.2.2.2.2.2.2) x.1.w x.1.bud∧True))∧True))
def XO(n:Nat)(x:WC×List (List UInt8)×Int×List UInt8×Int×List UInt8×Int):Prop:=∃(zs:List (List UInt8)),AV.sl true 0 1 (List UInt8) Ag (Eh (bdP x.1.ns n x.2.2.2.2.1 x.2.2.2.1 x.2.2.2.2.2.1 x.2.2.2.2.2.2) x.1.w x.1.bud)=AV.sl true 0 1 (List UInt8) Ag zs∧(Bg Ag∧(AY (List.length (xW x).ls+List.length zs) (16:Nat)∧(true=true∧(∃(i:Unit),True∧((nds x.1.ns=nds x.1.ns∧x.1.w=x.1.w∧x.1.bud=x.1.bud∧AV.sl true 0 1 (List UInt8) Ag ((xW x).ls++zs)=AV.sl true 0 1 (List UInt8) Ag (x.2.1++Eh (bdP x.1.ns n x.2.2.2.2.1 x.2.2.2.1 x.2.2.2.2.2.1 x.2.2.2.2.2.2) x.1.w x.1.bud)∧((xW x).st=x.2.2.1∧Et (bdP x.1.ns n x.2.2.2.2.1 x.2.2.2.1 x.2.2.2.2.2.1 x.2.2.2.2.2.2) x.1.w x.1.bud=Et (bdP x.1.ns n x.2.2.2.2.1 x.2.2.2.1 x.2.2.2.2.2.1 x.2.2.2.2.2.2) x.1.w x.1.bud∧True))∧True)))))
theorem b7h(n:Nat):Ah G Tryz.prog 100 (Eu n):=
 vcFun_okP [(8,0,(OX n)),(78,0,Iv),(39,0,(Li n)),(99,0,DU),(127,0,Ss)] [(42,⟨List UInt8,Ag⟩)] false (fun x=>[(100005,b7f n x),(100006,b7g n x)]) Tryz.func100 rfl (by decide) ⟨(b6w n),a5s,(b6x n),a5J,b7d,trivial⟩ (fun(x:WC×List (List UInt8)×Int×List UInt8×Int×List UInt8×Int)=>True∧cA (OX n) [nds x.1.ns,.int .i64 x.2.2.2.2.1,.str x.2.2.2.1,.str x.2.2.2.2.2.1,.int .i64 x.2.2.2.2.2.2] fun x_1 y=>Ab (!Bq x_1.1 x_1.2.1 x_1.2.2.1 x_1.2.2.2.1 x_1.2.2.2.2) (cA Iv [.str x.2.2.2.1,.str #[(61:UInt8)].toList] fun x_2 y=>Ab (Dd x_2.1) ((↑(List.length x.2.2.2.1+(1:Nat)):Int)≤IntKind.max IntKind.i64∧cA (Li n) [nds x.1.ns,.int .i64 x.2.2.2.2.1] fun x_3 y=>(↑(List.length (x.2.2.2.1++ #[(32:UInt8)].toList)+List.length (Hf x_3.1 n x_3.2)):Int)≤IntKind.max IntKind.i64∧(↑(List.length (x.2.2.2.1++ #[(32:UInt8)].toList++Hf x_3.1 n x_3.2)+List.length x.2.2.2.2.2.1):Int)≤IntKind.max IntKind.i64∧cA DU [.box 0 [nds x.1.ns,.int .i64 x.1.w,.int .i64 x.1.bud,AV.sl true 0 1 (List UInt8) Ag (xW x).ls,.int .i64 (xW x).st],.int .i64 x.2.2.2.2.2.2,.str (x.2.2.2.1++ #[(32:UInt8)].toList++Hf x_3.1 n x_3.2++x.2.2.2.2.2.1)] fun x_4 y=>rA (Eu n) x [.tup [],.box 0 [nds x_4.1.ns,.int .i64 x_4.1.w,.int .i64 x_4.1.bud,AV.sl true 0 1 (List UInt8) Ag (yW y).ls,.int .i64 (yW y).st],.top,.top,.top,.top]) (cA (Li n) [nds x.1.ns,.int .i64 x.2.2.2.2.1] fun x_3 y=>(↑(List.length x.2.2.2.1+List.length (Hf x_3.1 n x_3.2)):Int)≤IntKind.max IntKind.i64∧(↑(List.length (x.2.2.2.1++Hf x_3.1 n x_3.2)+List.length x.2.2.2.2.2.1):Int)≤IntKind.max IntKind.i64∧cA DU [.box 0 [nds x.1.ns,.int .i64 x.1.w,.int .i64 x.1.bud,AV.sl true 0 1 (List UInt8) Ag (xW x).ls,.int .i64 (xW x).st],.int .i64 x.2.2.2.2.2.2,.str (x.2.2.2.1++Hf x_3.1 n x_3.2++x.2.2.2.2.2.1)] fun x_4 y=>rA (Eu n) x [.tup [],.box 0 [nds x_4.1.ns,.int .i64 x_4.1.w,.int .i64 x_4.1.bud,AV.sl true 0 1 (List UInt8) Ag (yW y).ls,.int .i64 (yW y).st],.top,.top,.top,.top])) (true=true∧(((((CD n x x_1)∧(CD n x x_1))∧(CD n x x_1))∧((((CD n x x_1)∧(CD n x x_1))∧(CD n x x_1))∧((CD n x x_1)∧(CD n x x_1))))∧((((CD n x x_1)∧(CD n x x_1))∧(CD n x x_1))∧((((CD n x x_1)∧(CD n x x_1))∧(CD n x x_1))∧((CD n x x_1)∧(CD n x x_1))))∧((((CD n x x_1)∧(CD n x x_1))∧(CD n x x_1))∧((((CD n x x_1)∧(CD n x x_1))∧(CD n x x_1))∧((CD n x x_1)∧(CD n x x_1))))∧((CD n x x_1)∧(CD n x x_1))∧((CD n x x_1)∧(CD n x x_1))∧((CD n x x_1)∧(CD n x x_1)))∧∀(i:Unit),True→true=true∧((XO n x)∧(XO n x))∧∀(i:Unit),True→Ab (Et (bdP x.1.ns n x.2.2.2.2.1 x.2.2.2.1 x.2.2.2.2.2.1 x.2.2.2.2.2.2) x.1.w x.1.bud==(2:Int)) (rA (Eu n) x [.tup [],.box 0 [nds x.1.ns,.int .i64 x.1.w,.int .i64 x.1.bud,AV.sl true 0 1 (List UInt8) Ag (x.2.1++Eh (bdP x.1.ns n x.2.2.2.2.1 x.2.2.2.1 x.2.2.2.2.2.1 x.2.2.2.2.2.2) x.1.w x.1.bud),.int .i64 (2:Int)],.top,.top,.top,.top]) (rA (Eu n) x [.tup [],.box 0 [nds x.1.ns,.int .i64 x.1.w,.int .i64 x.1.bud,AV.sl true 0 1 (List UInt8) Ag (x.2.1++Eh (bdP x.1.ns n x.2.2.2.2.1 x.2.2.2.1 x.2.2.2.2.2.1 x.2.2.2.2.2.2) x.1.w x.1.bud),.int .i64 x.2.2.1],.top,.top,.top,.top]))) (fun x=>by kernel_rfl) fun(x:WC×List (List UInt8)×Int×List UInt8×Int×List UInt8×Int) (hx:wvP x.1 n (xW x) x.2.2.2.1 x.2.2.2.2.1 x.2.2.2.2.2.1 x.2.2.2.2.2.2)=>(by
 dsimp only[XO,CD,cA,Bl,Bi,nds,Cu,pcA,rA,Bj,OX,Li,Ss,Iv,DU,Eu,Bm,Bn,wrA,Aq,Aw,mvL,lnL,mvE,lnE,mvG,mvH,lnG,lnH]
 obtain⟨c,ls,st,pre,k,post,i⟩:=x;dsimp only[xW] at hx ⊢
 have hx:wvP c n ⟨ls,st⟩ pre k post i:=hx
 have ho:=a5K hx;have hl:=a5M hx
 have hr:=hx.rm;dsimp only at hr
 (repeat' first|refine Dp (bdP c.ns n k pre post i) ?_|(with_reducible first|rfl|exact True.intro|apply AG|apply And.intro|((first|apply Au|apply AE|apply Av|apply AF)<;>intro _))|(apply As<;>intro _)|apply AD|refine Af () ?_ ?_|((first|apply AK|apply AJ|apply AI|apply AH|apply AC|apply AB|apply AA|apply Az|apply Ax)<;>try dsimp only)|apply Af|(refine Prod.forall.2 ?_;intro _;try dsimp only)|(intro _;try dsimp only))
 all_goals first
  |with_reducible rfl
  |(exfalso;rename Bq _ _ _ _ _=false=>hq;rw[ho.1] at hq;cases hq)
  |exact a5L hx
  |(rw[ho.2];done)
  |(rw[hl.1];done)
  |(rw[hl.2.1];done)
  |exact XN ‹_›
  |exact a5N ‹_›
  |exact OP hx.vw.bd
  |((try simp only[Aj,AY]);omega)
  |rfl
  |skip)
end Go.My
end
