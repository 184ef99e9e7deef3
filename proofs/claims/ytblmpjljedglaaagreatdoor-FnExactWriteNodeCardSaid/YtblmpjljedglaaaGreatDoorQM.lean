/- joined -/
import Derived.Test.YtblmpjljedglaaaGreatDoorQL
set_option linter.unusedSimpArgs false
set_option linter.unusedVariables false
section
namespace Go.My
open Go.Eng Go.Proofs
variable {G:GInv}
structure ndP (c:WC) (n m:Nat) (s:Ws) (k i:Int):Prop where
 v:ndV c n m k i
 rm:s.ls.length+wW c.ns m k≤2^41
def FV(n m:Nat):Sig:= {X:=WC×List (List UInt8)×Int×Int×Int,args:=fun x=>[wrA x.1 (xW x),.int .i64 x.2.2.2.1,.int .i64 x.2.2.2.2],pre:=fun x=>ndP x.1 n m (xW x) x.2.2.2.1 x.2.2.2.2,Y:=List (List UInt8)×Int,post:=fun x y=>AR (wN x.1 n m x.2.2.2.1 x.2.2.2.2 (xW x)) (yW y),res:=fun x y=> .tup [],outs:=fun x y=>[wrA x.1 (yW y),.top,.top],keep:=true}
structure alP (c:WC) (n m:Nat) (s:Ws) (ks:List Int) (i:Int):Prop where
 v:alV c n m ks i
 rm:s.ls.length+(wL (wW c.ns m) ks+ks.length)≤2^41
 kl:ks.length≤2^40
 i0:0≤i∧i≤61
theorem Iw{c:WC}{n m:Nat}(ih:∀ {k i:Int} {s:Ws},ndV c n m k i→(wN c n m k i s).ls.length≤s.ls.length+wW c.ns m k){b i:Int}{s:Ws}(h:alV c n m (Aa c.ns b).kids (i+2)):(CC c.ns (wN c n m) b i s).ls.length≤s.ls.length+bkW c.ns m b:=Sr ih h
theorem XP{c:WC}{n m:Nat}{k i:Int}(h:ndV c n m k i):(Al c.ns k=12∨Al c.ns k=13∨Al c.ns k=14∨Al c.ns k=15∨Al c.ns k=16∨Al c.ns k=17∨Al c.ns k=19∨Al c.ns k=20∨Al c.ns k=21):=(XM h.tk).2
theorem MT{c:WC}{n m:Nat}{k i:Int}(h:ndV c n (m+1) k i)(h21:¬Al c.ns k=21):wW c.ns (m+1) k=85+wL (wW c.ns m) (Aa c.ns k).kids:=b6B (by have:=XP h;omega) (XM h.tk).1
theorem Sv{c:WC}{n m:Nat}{k i:Int}(h:ndV c n (m+1) k i)(h21:Al c.ns k=21):wW c.ns (m+1) k=2+(wL (wW c.ns m) (Aa c.ns k).kids+(Aa c.ns k).kids.length):=by
 rw[wW,if_neg (by rw[h21];decide),if_pos (.inr (.inl h21))]
theorem OY{c:WC}{n m:Nat}{k i:Int}(h:ndV c n m k i)(hk:Al c.ns k=12∨Al c.ns k=13∨Al c.ns k=20∨Al c.ns k=21):(Aa c.ns k).text.length≤30∧Be (Aa c.ns k).text=true:=by
 have ht:=(Dj (Eo h.up)).2.2.1
 have:CX (Aa c.ns k).text=true:=by
  have h2:(Aa c.ns k).kind=12∨(Aa c.ns k).kind=13∨(Aa c.ns k).kind=20∨(Aa c.ns k).kind=21:=hk
  rw[Dv,if_pos (by omega)] at ht;exact ht
 exact⟨Qy this,a5c this⟩
theorem a5O{c:WC}{n m:Nat}{k i:Int}(h:ndV c n m k i):(Aa c.ns k).text.length≤1048576:=by
 have:=a1f (Bc.1 h.up.1);have:=h.tr.tx;omega
theorem a5P{c:WC}{n m:Nat}{k i:Int}(h:ndV c n m k i):c.ns[k.toNat]? =some (Aa c.ns k):=by
 have hr:=Bc.1 h.up.1
 have e:c.ns[k.toNat]? =some c.ns[k.toNat]:=List.getElem?_eq_getElem (by omega)
 rw[Br e];exact e
theorem a5Q{x:Nd}(h:2≤x.kids.length∧x.kids.length≤3):(x.kids.length=2∧x.kids=[kd x 0,kd x 1])∨(x.kids.length=3∧x.kids=[kd x 0,kd x 1,kd x 2]):=by
 obtain⟨k,t,ks,b⟩:=x
 match ks,h with
 |[a,b],_=>exact .inl ⟨rfl,rfl⟩
 |[a,b,c],_=>exact .inr ⟨rfl,rfl⟩
 |[],h=>simp at h
 |[a],h=>simp at h
 |a::b::c::d::l,h=>simp at h
structure brW (c:WC) (n m:Nat) (b i:Int):Prop where
 up:BB c.ns b
 al:alV c n m (Aa c.ns b).kids (i+2)
 kl:(Aa c.ns b).kids.length≤12
theorem OZ{c:WC}{n m:Nat}{k i b:Int}(h:ndV c n (m+1) k i)(hk:¬Al c.ns k=21)(hb:b∈(Aa c.ns k).kids)(h18:Al c.ns b=18):brW c n m b i∧2+bkW c.ns m b=wW c.ns m b:=
 ⟨⟨(CG h.up hb).1,b6z h hk hb h18,(Dj (Eo (CG h.up hb).1)).2.1⟩,b6A h.up h.lt hb h18⟩
theorem a5R{c:WC}{n m:Nat}{k i:Int}(h:ndV c n (m+1) k i)(hk:Al c.ns k=16)(hl:¬(Aa c.ns k).kids.length=3):brW c n m (kd (Aa c.ns k) 1) i∧87+bkW c.ns m (kd (Aa c.ns k) 1)≤wW c.ns (m+1) k:=by
 have hi:=JA h.up hk
 rcases a5Q hi.1 with⟨e,hks⟩|⟨e,_⟩
 ·have h1:=OZ (b:=kd (Aa c.ns k) 1) h (by omega) (DR (by omega)) (hi.2.2 _ (by rw[hks];simp))
  rw[MT h (by omega),hks,Db,Db]
  exact⟨h1.1,by omega⟩
 ·exact absurd e hl
theorem XQ{c:WC}{n m:Nat}{k i:Int}(h:ndV c n (m+1) k i)(hk:Al c.ns k=16)(hl:(Aa c.ns k).kids.length=3):brW c n m (kd (Aa c.ns k) 1) i∧brW c n m (kd (Aa c.ns k) 2) i∧89+(bkW c.ns m (kd (Aa c.ns k) 1)+bkW c.ns m (kd (Aa c.ns k) 2))≤wW c.ns (m+1) k:=by
 have hi:=JA h.up hk
 rcases a5Q hi.1 with⟨e,_⟩|⟨e,hks⟩
 ·omega
 ·have h1:=OZ (b:=kd (Aa c.ns k) 1) h (by omega) (DR (by omega)) (hi.2.2 _ (by rw[hks];simp))
  have h2:=OZ (b:=kd (Aa c.ns k) 2) h (by omega) (DR (by omega)) (hi.2.2 _ (by rw[hks];simp))
  rw[MT h (by omega),hks,Db,Db,Db]
  exact⟨h1.1,h2.1,by omega⟩
theorem XR{c:WC}{n m:Nat}{k i:Int}(h:ndV c n (m+1) k i)(hk:Al c.ns k=17):brW c n m (kd (Aa c.ns k) 1) i∧87+bkW c.ns m (kd (Aa c.ns k) 1)≤wW c.ns (m+1) k:=by
 have hi:=OQ h.up hk
 have hm:=DR (x:=Aa c.ns k) (i:=1) (by omega)
 have h1:=OZ h (by omega) hm hi.2.2
 have h2:=NY (w:=wW c.ns m) hm
 rw[MT h (by omega)]
 exact⟨h1.1,by omega⟩
theorem XS{c:WC}{n m:Nat}{k i:Int}(h:ndV c n (m+1) k i)(hk:Al c.ns k=20):brW c n m (kd (Aa c.ns k) ((Aa c.ns k).kids.length-1)) i∧87+bkW c.ns m (kd (Aa c.ns k) ((Aa c.ns k).kids.length-1))≤wW c.ns (m+1) k:=by
 have hi:=JB h.up hk
 have hm:=DR (x:=Aa c.ns k) (i:=(Aa c.ns k).kids.length-1) (by omega)
 have h1:=OZ h (by omega) hm hi.2.1
 have h2:=NY (w:=wW c.ns m) hm
 rw[MT h (by omega)]
 exact⟨h1.1,by omega⟩
theorem JF{c:WC}{n:Nat}:∀ {m:Nat} {k i:Int} {s:Ws},ndV c n m k i→(wN c n m k i s).ls.length≤s.ls.length+wW c.ns m k
 |0,k,i,s,h=>by have:=Bc.1 h.up.1;have:=h.lt;omega
 |m+1,k,i,s,h=>by
  have ih:∀ {k i:Int} {s:Ws},ndV c n m k i→(wN c n m k i s).ls.length≤s.ls.length+wW c.ns m k:=JF
  have hkid:∀j:Nat,j<(Aa c.ns k).kids.length→kd (Aa c.ns k) j∈(Aa c.ns k).kids:=fun j hj=>DR hj
  have hk:=XP h
  unfold Al at hk
  have hvl:∀ {pre post:List UInt8} {s:Ws},0<(Aa c.ns k).kids.length→AX (Al c.ns (kd (Aa c.ns k) 0))=true→(pre.length≤40∧Be pre=true)→(post.length≤40∧Be post=true)→(BZ c n pre (kd (Aa c.ns k) 0) post i s).ls.length≤s.ls.length+81:=
   fun hl hv hp hq=>Sq (a5D h (hkid 0 hl) hv hp hq)
  rw[wN]
  unfold wV1
  by_cases e21:(Aa c.ns k).kind=21
  ·simp only[e21]
   have hw:=Sv h e21
   have h1:=Sr ih (i:=i+2) (s:=Bv i ([99,108,97,115,115,32]++(Aa c.ns k).text++[32,123]) s) (XL h e21)
   simp only[show¬(21:Int)=19 by decide,show¬(21:Int)=12 by decide,show¬(21:Int)=13 by decide,show¬(21:Int)=14 by decide,show¬(21:Int)=15 by decide,show¬(21:Int)=16 by decide,show¬(21:Int)=17 by decide,show¬(21:Int)=20 by decide,if_false,if_true]
   rw[FU] at h1 ⊢;omega
  have hw:=MT h e21
  split
  ·rw[FU];omega
  split
  ·rename_i e
   have hn:=OY h (.inl e)
   split
   ·rw[FU];omega
   ·have hm:=hkid 0 (by omega)
    have:=hvl (pre:=[118,97,114,32]++(Aa c.ns k).text++[32,61]) (post:=[59]) (s:=s) (by omega) (HG h.up (.inl e) _ hm) ⟨by simp;omega,by rw[Fi,Fi,hn.2];rfl⟩ ⟨by simp,rfl⟩
    omega
  split
  ·rename_i e
   have hn:=OY h (.inr (.inl e))
   have hl:=(HY h.up).2.1
   rw[e] at hl
   have:(CN 13).1=1:=rfl
   have hm:=hkid 0 (by omega)
   have:=hvl (pre:=(Aa c.ns k).text++[32,61]) (post:=[59]) (s:=s) (by omega) (HG h.up (.inr (.inl e)) _ hm) ⟨by simp;omega,by rw[Fi,hn.2];rfl⟩ ⟨by simp,rfl⟩
   omega
  split
  ·rename_i e
   have hl:=(HY h.up).2.1
   rw[e] at hl
   have:(CN 14).1=1:=rfl
   have hm:=hkid 0 (by omega)
   have:=hvl (pre:=[]) (post:=[59]) (s:=s) (by omega) (HG h.up (.inr (.inr (.inl e))) _ hm) ⟨by simp,rfl⟩ ⟨by simp,rfl⟩
   omega
  split
  ·rename_i e
   split
   ·rw[FU];omega
   ·have hm:=hkid 0 (by omega)
    have:=hvl (pre:=[114,101,116,117,114,110,32]) (post:=[59]) (s:=s) (by omega) (HG h.up (.inr (.inr (.inr (.inl e)))) _ hm) ⟨by simp,rfl⟩ ⟨by simp,rfl⟩
    omega
  split
  ·rename_i e
   have hi:=JA h.up e
   have h1:=hvl (pre:=[105,102,32,40]) (post:=[41,32,123]) (s:=s) (by omega) hi.2.1 ⟨by simp,rfl⟩ ⟨by simp,rfl⟩
   rw[FU]
   split
   ·rename_i e3
    have h2:=XQ h e e3
    have h3:=Iw ih (s:=BZ c n [105,102,32,40] (kd (Aa c.ns k) 0) [41,32,123] i s) h2.1.al
    have h4:=Iw ih (s:=Bv i [125,32,101,108,115,101,32,123] (CC c.ns (wN c n m) (kd (Aa c.ns k) 1) i (BZ c n [105,102,32,40] (kd (Aa c.ns k) 0) [41,32,123] i s))) h2.2.1.al
    rw[FU] at h4;omega
   ·rename_i e3
    have h2:=a5R h e e3
    have h3:=Iw ih (s:=BZ c n [105,102,32,40] (kd (Aa c.ns k) 0) [41,32,123] i s) h2.1.al
    omega
  split
  ·rename_i e
   have hi:=OQ h.up e
   have h1:=hvl (pre:=[119,104,105,108,101,32,40]) (post:=[41,32,123]) (s:=s) (by omega) hi.2.1 ⟨by simp,rfl⟩ ⟨by simp,rfl⟩
   have h2:=XR h e
   have h3:=Iw ih (s:=BZ c n [119,104,105,108,101,32,40] (kd (Aa c.ns k) 0) [41,32,123] i s) h2.1.al
   rw[FU];omega
  split
  ·rename_i e
   have h2:=XS h e
   have h3:=Iw ih (s:=Bv i (hdT c.ns (Aa c.ns k)) s) h2.1.al
   rw[FU] at h3 ⊢;omega
  ·omega
def wlI(ns:List Nd)(f:Int→Int→Ws→Ws)(w:Int→Nat)(ks:List Int)(i:Int)(s0:Ws)(j:Int)(s:Ws):Prop:=
 (0≤j∧j≤ks.length)∧EH ns f i (ks.drop j.toNat) s=EH ns f i ks s0∧s.ls.length+(wL w (ks.drop j.toNat)+(ks.drop j.toNat).length)≤2^41
theorem a5S{c:WC}{n m:Nat}{s:Ws}{ks:List Int}{i:Int}(h:alP c n m s ks i):wlI c.ns (wN c n m) (wW c.ns m) ks i s 0 s:=⟨by omega,rfl,h.rm⟩
theorem a5T{c:WC}{n m:Nat}{s0 s:Ws}{ks:List Int}{i j:Int}(h:wlI c.ns (wN c n m) (wW c.ns m) ks i s0 j s):0≤j∧j≤ks.length:=h.1
theorem Sw{c:WC}{n m:Nat}{s0 s:Ws}{ks:List Int}{i j k:Int}(h:wlI c.ns (wN c n m) (wW c.ns m) ks i s0 j s)(hk:ks[j.toNat]? =some k):s.ls.length+(1+wW c.ns m k)≤2^41:=by
 have h3:=h.2.2
 rw[Dm hk,Db,List.length_cons] at h3;omega
theorem a5U{c:WC}{n m:Nat}{s:Ws}{ks:List Int}{i j k:Int}(hx:alP c n m s ks i)(hk:ks[j.toNat]? =some k):0≤k∧k<c.ns.length:=Bc.1 (hx.v k (AZ hk)).up.1
theorem a5V{c:WC}{n m:Nat}{s0 s:Ws}{ks:List Int}{i j k:Int}(h:wlI c.ns (wN c n m) (wW c.ns m) ks i s0 j s)(hx:alP c n m s0 ks i)(hk:ks[j.toNat]? =some k):ndP c n m s k i:=⟨hx.v k (AZ hk),by have:=Sw h hk;omega⟩
theorem a5W{c:WC}{n m:Nat}{s0:Ws}{ls:List (List UInt8)}{st:Int}{ks:List Int}{i j k:Int}(h:wlI c.ns (wN c n m) (wW c.ns m) ks i s0 j ⟨ls,st⟩)(hx:alP c n m s0 ks i)(hk:ks[j.toNat]? =some k):ndP c n m ⟨ls++[[]],st⟩ k i:=⟨hx.v k (AZ hk),by have:=Sw h hk;simp at this ⊢;omega⟩
theorem a5X{c:WC}{n m:Nat}{s0 s t:Ws}{ks:List Int}{i j k:Int}(h:wlI c.ns (wN c n m) (wW c.ns m) ks i s0 j s)(hx:alP c n m s0 ks i)(hk:ks[j.toNat]? =some k)(ht:t=wN c n m k i (Iu c.ns k s)):wlI c.ns (wN c n m) (wW c.ns m) ks i s0 (j+1) t:=by
 have hl:=(Cx hk).1
 have h2:=h.2.1;have h3:=h.2.2
 have h4:=JF (s:=Iu c.ns k s) (hx.v k (AZ hk))
 have h5:= @a5E c.ns k s
 rw[Dm hk] at h2 h3
 rw[EH] at h2
 rw[Db,List.length_cons] at h3
 refine⟨by have:=h.1;omega,?_,?_⟩
 ·rw[BG h.1.1,ht];exact h2
 ·rw[BG h.1.1,ht];omega
theorem a5Y{c:WC}{n m:Nat}{s0 t:Ws}{ls:List (List UInt8)}{st:Int}{ks:List Int}{i j k:Int}{e:Nd}(h:wlI c.ns (wN c n m) (wW c.ns m) ks i s0 j ⟨ls,st⟩)(hx:alP c n m s0 ks i)(hk:ks[j.toNat]? =some k)(he:c.ns[k.toNat]? =some e)(hb:e.blank=true)(ht:AR (wN c n m k i ⟨ls++[[]],st⟩) t):wlI c.ns (wN c n m) (wW c.ns m) ks i s0 (j+1) t:=
 a5X h hx hk (by rw[Iu,Br he,if_pos hb];exact ht)
theorem a5Z{c:WC}{n m:Nat}{s0 s t:Ws}{ks:List Int}{i j k:Int}{e:Nd}(h:wlI c.ns (wN c n m) (wW c.ns m) ks i s0 j s)(hx:alP c n m s0 ks i)(hk:ks[j.toNat]? =some k)(he:c.ns[k.toNat]? =some e)(hb:e.blank=false)(ht:AR (wN c n m k i s) t):wlI c.ns (wN c n m) (wW c.ns m) ks i s0 (j+1) t:=
 a5X h hx hk (by rw[Iu,Br he,if_neg (by rw[hb];simp)];exact ht)
theorem a6a{c:WC}{n m:Nat}{s0 s:Ws}{ks:List Int}{i j:Int}(h:wlI c.ns (wN c n m) (wW c.ns m) ks i s0 j s)(hj:¬j<ks.length):AR (EH c.ns (wN c n m) i ks s0) s:=by
 have h2:=h.2.1
 rw[List.drop_of_length_le (by have:=h.1;omega),EH] at h2
 exact h2
abbrev vWs (x:List (List UInt8)×Int×Int):Ws:=⟨x.1,x.2.1⟩
attribute [local irreducible] wlI
def Ix(n m:Nat):Sig:= {X:=WC×List (List UInt8)×Int×List Int×Int,args:=fun x=>[wrA x.1 (xW x),Ad x.2.2.2.1,.int .i64 x.2.2.2.2],pre:=fun x=>alP x.1 n m (xW x) x.2.2.2.1 x.2.2.2.2,Y:=List (List UInt8)×Int,post:=fun x y=>AR (EH x.1.ns (wN x.1 n m) x.2.2.2.2 x.2.2.2.1 (xW x)) (yW y),res:=fun x y=> .tup [],outs:=fun x y=>[wrA x.1 (yW y),.top,.top],keep:=true}
def Pa(n m:Nat)(x:WC×List (List UInt8)×Int×List Int×Int):LS:= {ι:=List (List UInt8)×Int×Int,inv:=fun j=>wlI x.1.ns (wN x.1 n m) (wW x.1.ns m) x.2.2.2.1 x.2.2.2.2 (xW x) j.2.2 (vWs j),regs:=fun j=>[(0,wrA x.1 (vWs j)),(2,.int .i64 x.2.2.2.2),(8,Ad x.2.2.2.1),(9,.int .i64 x.2.2.2.1.length),(10,.int .i64 j.2.2)],als:=[],meas:=fun j=>x.2.2.2.1.length-j.2.2.toNat}
theorem a6b(n m:Nat)(hc:Ah G Go.Proofs.Tryz.prog 61 (FV n m)):Ah G Tryz.prog 71 (Ix n m):=
 vcFun_okP [(61,0,(FV n m))] [(42,⟨List UInt8,Ag⟩)] false (fun x=>[(1,Pa n m x)]) Tryz.func71 rfl (by decide) ⟨hc,trivial⟩ (fun(x:WC×List (List UInt8)×Int×List Int×Int)=>True∧eA (Pa n m x) [.box 0 [nds x.1.ns,.int .i64 x.1.w,.int .i64 x.1.bud,AV.sl true 0 1 (List UInt8) Ag (xW x).ls,.int .i64 (xW x).st],.int .i64 x.2.2.2.2,Ad x.2.2.2.1,.int .i64 (↑(List.length x.2.2.2.1):Int),.int .i64 (0:Int)]∧∀(i:List (List UInt8)×Int×Int),wlI x.1.ns (wN x.1 n m) (wW x.1.ns m) x.2.2.2.1 x.2.2.2.2 (xW x) i.2.2 (vWs i)→Ab (decide (i.2.2<(↑(List.length x.2.2.2.1):Int))) (((0:Int)≤i.2.2∧i.2.2<(↑(List.length x.2.2.2.1):Int))∧∀(e:Int),x.2.2.2.1[Int.toNat i.2.2]? =some e→((0:Int)≤e∧e<(↑(List.length x.1.ns):Int))∧∀(e_1:Nd),x.1.ns[Int.toNat e]? =some e_1→Ab e_1.blank (∃(x_1:List UInt8),#[].toList=x_1∧∃(zs:List (List UInt8)),AV.sl true 0 1 (List UInt8) Ag [x_1]=AV.sl true 0 1 (List UInt8) Ag zs∧Bg Ag∧AY (List.length (vWs i).ls+List.length zs) (16:Nat)∧∃(x_2:WC×List (List UInt8)×Int×Int×Int),ndP x_2.1 n m (xW x_2) x_2.2.2.2.1 x_2.2.2.2.2∧nds x.1.ns=nds x_2.1.ns∧x.1.w=x_2.1.w∧x.1.bud=x_2.1.bud∧AV.sl true 0 1 (List UInt8) Ag ((vWs i).ls++zs)=AV.sl true 0 1 (List UInt8) Ag (xW x_2).ls∧(vWs i).st=(xW x_2).st∧e=x_2.2.2.2.1∧x.2.2.2.2=x_2.2.2.2.2∧∀(y:List (List UInt8)×Int),AR (wN x_2.1 n m x_2.2.2.2.1 x_2.2.2.2.2 (xW x_2)) (yW y)→inR IntKind.i64 (i.2.2+(1:Int))∧eN (Pa n m x) i [.box 0 [nds x_2.1.ns,.int .i64 x_2.1.w,.int .i64 x_2.1.bud,AV.sl true 0 1 (List UInt8) Ag (yW y).ls,.int .i64 (yW y).st],.int .i64 x.2.2.2.2,Ad x.2.2.2.1,.int .i64 (↑(List.length x.2.2.2.1):Int),.int .i64 (i.2.2+(1:Int))]) (cA (FV n m) [.box 0 [nds x.1.ns,.int .i64 x.1.w,.int .i64 x.1.bud,AV.sl true 0 1 (List UInt8) Ag (vWs i).ls,.int .i64 (vWs i).st],.int .i64 e,.int .i64 x.2.2.2.2] fun x_1 y=>inR IntKind.i64 (i.2.2+(1:Int))∧eN (Pa n m x) i [.box 0 [nds x_1.1.ns,.int .i64 x_1.1.w,.int .i64 x_1.1.bud,AV.sl true 0 1 (List UInt8) Ag (yW y).ls,.int .i64 (yW y).st],.int .i64 x.2.2.2.2,Ad x.2.2.2.1,.int .i64 (↑(List.length x.2.2.2.1):Int),.int .i64 (i.2.2+(1:Int))])) (rA (Ix n m) x [.tup [],.box 0 [nds x.1.ns,.int .i64 x.1.w,.int .i64 x.1.bud,AV.sl true 0 1 (List UInt8) Ag (vWs i).ls,.int .i64 (vWs i).st],.top,.top])) (fun x=>by kernel_rfl) fun(x:WC×List (List UInt8)×Int×List Int×Int) (hx:alP x.1 n m (xW x) x.2.2.2.1 x.2.2.2.2)=>(by
 dsimp only[cA,eA,eN,Pa,Ad,Bi,nds,rA,Ix,FV,wrA,Aq,Aw,mvL,lnL,mvE,lnE,mvG,mvH,lnG,lnH,Ba]
 obtain⟨c,ls,st,ks,i⟩:=x;dsimp only[xW] at hx ⊢
 have hx:alP c n m ⟨ls,st⟩ ks i:=hx
 have h1:=hx.kl;have h2:=hx.rm;dsimp only at h2
 (repeat' first|(with_reducible first|rfl|exact True.intro|apply AG|apply And.intro|((first|apply Au|apply AE|apply Av|apply AF)<;>intro _))|(apply As<;>intro _)|apply AD|refine Af () ?_ ?_|((first|apply AK|apply AJ|apply AI|apply AH|apply AC|apply AB|apply AA|apply Az|apply Ax)<;>try dsimp only)|apply Af|(refine Prod.forall.2 ?_;intro _;try dsimp only)|(intro _;try dsimp only))
 all_goals(try dsimp only[yW,xW,vWs] at*)
 all_goals first
  |with_reducible rfl
  |exact a5S hx
  |exact a5V ‹_› hx ‹_›
  |exact a5W ‹_› hx ‹_›
  |exact a5Y ‹_› hx ‹_› ‹_› ‹_› ‹_›
  |exact a5Z ‹_› hx ‹_› ‹_› ‹_› ‹_›
  |exact a6a ‹_› ‹_›
  |(have hq:=a5T (show wlI _ _ _ _ _ _ _ _ by assumption);(try simp only[Aj]);omega)
  |(have hq:=a5U hx ‹_›;omega)
  |(have hq:=Sw (show wlI _ _ _ _ _ _ _ _ by assumption) ‹_›;dsimp only at hq;(try simp only[AY,List.length_cons,List.length_nil]);omega)
  |exact()
  |rfl
  |skip)
structure bkP (c:WC) (n m:Nat) (s:Ws) (b i:Int):Prop where
 br:brW c n m b i
 rm:s.ls.length+bkW c.ns m b≤2^41
 i0:0≤i∧i≤59
theorem a6c{c:WC}{n m:Nat}{s:Ws}{b i:Int}{e:Nd}(h:bkP c n m s b i)(he:c.ns[b.toNat]? =some e):alP c n m s e.kids (i+2):=by
 rw[←Br he]
 exact⟨h.br.al,h.rm,by have:=h.br.kl;omega,by have:=h.i0;omega⟩
theorem a6d{c:WC}{n m:Nat}{s t:Ws}{b i:Int}{e:Nd}(he:c.ns[b.toNat]? =some e)(h:AR (EH c.ns (wN c n m) (i+2) e.kids s) t):AR (CC c.ns (wN c n m) b i s) t:=by
 rw[CC,Br he];exact h
def Iy(n m:Nat):Sig:= {X:=WC×List (List UInt8)×Int×Int×Int,args:=fun x=>[wrA x.1 (xW x),.int .i64 x.2.2.2.1,.int .i64 x.2.2.2.2],pre:=fun x=>bkP x.1 n m (xW x) x.2.2.2.1 x.2.2.2.2,Y:=List (List UInt8)×Int,post:=fun x y=>AR (CC x.1.ns (wN x.1 n m) x.2.2.2.1 x.2.2.2.2 (xW x)) (yW y),res:=fun x y=> .tup [],outs:=fun x y=>[wrA x.1 (yW y),.top,.top],keep:=true}
theorem b7i(n m:Nat)(hc:Ah G Go.Proofs.Tryz.prog 61 (FV n m)):Ah G Tryz.prog 101 (Iy n m):=
 vcFun_okP [(71,0,(Ix n m))] [] false (fun x=>[]) Tryz.func101 rfl (by decide) ⟨(a6b n m hc),trivial⟩ (fun(x:WC×List (List UInt8)×Int×Int×Int)=>True∧((0:Int)≤x.2.2.2.1∧x.2.2.2.1<(↑(List.length x.1.ns):Int))∧∀(e:Nd),x.1.ns[Int.toNat x.2.2.2.1]? =some e→inR IntKind.i64 (x.2.2.2.2+(2:Int))∧cA (Ix n m) [.box 0 [nds x.1.ns,.int .i64 x.1.w,.int .i64 x.1.bud,AV.sl true 0 1 (List UInt8) Ag (xW x).ls,.int .i64 (xW x).st],Ad e.kids,.int .i64 (x.2.2.2.2+(2:Int))] fun x_1 y=>rA (Iy n m) x [.tup [],.box 0 [nds x_1.1.ns,.int .i64 x_1.1.w,.int .i64 x_1.1.bud,AV.sl true 0 1 (List UInt8) Ag (yW y).ls,.int .i64 (yW y).st],.top,.top]) (fun x=>by kernel_rfl) fun(x:WC×List (List UInt8)×Int×Int×Int) (hx:bkP x.1 n m (xW x) x.2.2.2.1 x.2.2.2.2)=>(by
 dsimp only[cA,Ad,Bi,nds,rA,Ix,Iy,wrA,Aq,Aw,mvL,lnL,mvE,lnE,mvG,mvH,lnG,lnH]
 obtain⟨c,ls,st,b,i⟩:=x;dsimp only[xW] at hx ⊢
 have hx:bkP c n m ⟨ls,st⟩ b i:=hx
 have h1:=Bc.1 hx.br.up.1;have h2:=hx.i0
 (repeat' first|(with_reducible first|rfl|exact True.intro|apply AG|apply And.intro|((first|apply Au|apply AE|apply Av|apply AF)<;>intro _))|(apply As<;>intro _)|apply AD|refine Af () ?_ ?_|((first|apply AK|apply AJ|apply AI|apply AH|apply AC|apply AB|apply AA|apply Az|apply Ax)<;>try dsimp only)|apply Af|(refine Prod.forall.2 ?_;intro _;try dsimp only)|(intro _;try dsimp only))
 all_goals first
  |with_reducible rfl
  |exact a6c hx ‹_›
  |exact a6d ‹_› ‹_›
  |((try simp only[Aj]);omega)
  |skip)
structure hdP (ns:List Nd) (x:Nd):Prop where
 kl:1≤x.kids.length∧x.kids.length≤12
 nm:∀k∈x.kids.take (x.kids.length-1),(Aa ns k).text.length≤30
 nd:∀k∈x.kids,0≤k∧k<ns.length
 tx:x.text.length≤30
def hdM(ns:List Nd)(x:Nd)(i:Int):List (List UInt8):=fnM ⟨0,ns,false⟩ x i
theorem XT{ns:List Nd}{x:Nd}{i:Int}(h:¬i<(fnT x).length):DC (hdM ns x i) [44,32]=Dz ns (fnT x) true:=Xd (c:=⟨0,ns,false⟩) h
theorem a6e{ns:List Nd}{x:Nd}{i:Int}(hx:hdP ns x)(h:¬i<(fnT x).length):(DC (hdM ns x i) [44,32]).length≤400:=by
 rw[XT h]
 have h1:=KA (ns:=ns) (w:=fun _=>30) (l:=fnT x) (first:=true) fun k hk=>hx.nm k hk
 have h2:=Jf (w:=fun _=>30) (b:=30) (l:=fnT x) fun _ _=>by omega
 have h3:= @FR x;have h4:=hx.kl
 omega
theorem b7j{ns:List Nd}{x:Nd}:hdM ns x 0=[]:=rfl
theorem a6f{ns:List Nd}{x:Nd}{i k:Int}{e:Nd}(h0:0≤i)(h:(fnT x)[i.toNat]? =some k)(he:ns[k.toNat]? =some e):hdM ns x i++[e.text]=hdM ns x (i+1):=Xc (c:=⟨0,ns,false⟩) h0 h he
theorem b7k{ns:List Nd}{x:Nd}{i:Int}:(hdM ns x i).length≤x.kids.length:=RR
theorem b7l{ns:List Nd}{x:Nd}{i:Int}{t:List UInt8}(h:x.kids.length≤12):AY ((hdM ns x i).length+[t].length) 16:=a4e h
theorem b7m{ns:List Nd}{x:Nd}{i:Nat}{k:Int}(hx:hdP ns x)(h:(fnT x)[i]? =some k):0≤k∧k<ns.length:=hx.nd k (Xb h)
theorem b7n{ns:List Nd}{x:Nd}{i:Int}(h:¬i<(fnT x).length):x.text++[40]++DC (hdM ns x i) [44,32]++[41,32,123]=hdT ns x:=by rw[XT h,hdT,fnT]
def MU:Sig:= {X:=List Nd×Nd,args:=fun x=>[nds x.1,.agg (ndA false x.2)],pre:=fun x=>hdP x.1 x.2,Y:=Unit,post:=fun x y=>True,res:=fun x y=> .str (hdT x.1 x.2),outs:=fun x y=>[.top,.top],keep:=false}
def Sx(x:List Nd×Nd):LS:= {ι:=Int,inv:=fun i=>0≤i∧i≤(fnT x.2).length,regs:=fun i=>[(0,nds x.1),(3,.box 0 (ndA false x.2)),(5,Cu (hdM x.1 x.2 i)),(14,Ad (fnT x.2)),(15,.int .i64 (fnT x.2).length),(16,.int .i64 i)],als:=[],meas:=fun i=>(fnT x.2).length-i.toNat}
def Sy(x:List Nd×Nd):LS:= {ι:=Unit,inv:=fun _=>True,regs:=fun _=>[(4,.str (hdT x.1 x.2))],als:=[],meas:=fun _=>0}
theorem b7o:Ah G Tryz.prog 102 MU:=
 vcFun_okP [(128,0,GC)] [(42,⟨List UInt8,Ag⟩)] false (fun x=>[(3,Sx x),(100007,Sy x)]) Tryz.func102 rfl (by decide) ⟨a1N,trivial⟩ (fun(x:List Nd×Nd)=>(∀(y:Unit),True→True∧True∧True∧True)∧inR IntKind.i64 ((↑(List.length x.2.kids):Int)-(1:Int))∧((0:Int)≤(0:Int)∧(0:Int)≤(↑(List.length x.2.kids):Int)-(1:Int)∧(↑(List.length x.2.kids):Int)-(1:Int)≤(↑(List.length x.2.kids):Int))∧eA (Sx x) [nds x.1,.box 0 [.int .i64 x.2.kind,.str x.2.text,Ad x.2.kids,.bool x.2.blank],.nil,Ad (List.take (Int.toNat ((↑(List.length x.2.kids):Int)-(1:Int))) x.2.kids),.int .i64 (↑(List.length (List.take (Int.toNat ((↑(List.length x.2.kids):Int)-(1:Int))) x.2.kids)):Int),.int .i64 (0:Int)]∧∀(i:Int),(0:Int)≤i∧i≤(↑(List.length (fnT x.2)):Int)→Ab (decide (i<(↑(List.length (fnT x.2)):Int))) (((0:Int)≤i∧i<(↑(List.length (fnT x.2)):Int))∧∀(e:Int),(fnT x.2)[Int.toNat i]? =some e→((0:Int)≤e∧e<(↑(List.length x.1):Int))∧∀(e_1:Nd),x.1[Int.toNat e]? =some e_1→∃(x_1:List UInt8),e_1.text=x_1∧∃(zs:List (List UInt8)),AV.sl true 0 1 (List UInt8) Ag [x_1]=AV.sl true 0 1 (List UInt8) Ag zs∧Bg Ag∧AY (List.length (hdM x.1 x.2 i)+List.length zs) (16:Nat)∧inR IntKind.i64 (i+(1:Int))∧eN (Sx x) i [nds x.1,.box 0 [.int .i64 x.2.kind,.str x.2.text,Ad x.2.kids,.bool x.2.blank],AV.sl true 0 1 (List UInt8) Ag (hdM x.1 x.2 i++zs),Ad (fnT x.2),.int .i64 (↑(List.length (fnT x.2)):Int),.int .i64 (i+(1:Int))]) (true=true∧(((↑(List.length x.2.text+(1:Nat)):Int)≤IntKind.max IntKind.i64∧cA GC [AV.sl true 0 1 (List UInt8) Ag (hdM x.1 x.2 i),.str #[(44:UInt8),(32:UInt8)].toList] fun x_1 y=>(↑(List.length (x.2.text++ #[(40:UInt8)].toList)+List.length (DC x_1.1 x_1.2)):Int)≤IntKind.max IntKind.i64∧((↑(List.length (x.2.text++ #[(40:UInt8)].toList++DC x_1.1 x_1.2)+(3:Nat)):Int)≤IntKind.max IntKind.i64∧(true=true∧(eA (Sy x) [.str (x.2.text++ #[(40:UInt8)].toList++DC x_1.1 x_1.2++ #[(41:UInt8),(32:UInt8),(123:UInt8)].toList)]))))∧cA GC [AV.sl true 0 1 (List UInt8) Ag (hdM x.1 x.2 i),.str #[(44:UInt8),(32:UInt8)].toList] fun x_1 y=>(↑(List.length x.2.text+(1:Nat)):Int)≤IntKind.max IntKind.i64∧(↑(List.length (x.2.text++ #[(40:UInt8)].toList)+List.length (DC x_1.1 x_1.2)):Int)≤IntKind.max IntKind.i64∧((↑(List.length (x.2.text++ #[(40:UInt8)].toList++DC x_1.1 x_1.2)+(3:Nat)):Int)≤IntKind.max IntKind.i64∧(true=true∧(eA (Sy x) [.str (x.2.text++ #[(40:UInt8)].toList++DC x_1.1 x_1.2++ #[(41:UInt8),(32:UInt8),(123:UInt8)].toList)]))))∧∀(i:Unit),True→rA MU x [.str (hdT x.1 x.2),.top,.top])) (fun x=>by kernel_rfl) fun(x:List Nd×Nd) (hx:hdP x.1 x.2)=>(by
 dsimp only[cA,eA,eN,Sy,Sx,Ad,Bi,nds,Cu,rA,GC,MU,Es,Aq,Aw,mvL,lnL,mvE,lnE,mvG,mvH,lnG,lnH,Ba]
 obtain⟨ns,x⟩:=x;dsimp only at hx ⊢
 have hx:hdP ns x:=hx
 have h2:=hx.kl;have h3:=hx.tx
 (repeat' first|(with_reducible first|rfl|exact True.intro|apply AG|apply And.intro|((first|apply Au|apply AE|apply Av|apply AF)<;>intro _))|(apply As<;>intro _)|apply AD|refine Af () ?_ ?_|((first|apply AK|apply AJ|apply AI|apply AH|apply AC|apply AB|apply AA|apply Az|apply Ax)<;>try dsimp only)|apply Af|(refine Prod.forall.2 ?_;intro _;try dsimp only)|(intro _;try dsimp only))
 all_goals first
  |with_reducible rfl
  |exact RQ hx.kl.1
  |(rw[RQ hx.kl.1];done)
  |exact b7j
  |exact a6f (by omega) ‹_› ‹_›
  |exact(a6f (by omega) ‹_› ‹_›).symm
  |exact b7n ‹_›
  |exact b7l hx.kl.2
  |(have hl:= @FR x;(try simp only[Aj]);omega)
  |(have hq:=b7m hx ‹_›;(try simp only[Aj]);omega)
  |(have hq:=a6e hx ‹_›;(try simp only[Aj,List.length_append,List.length_cons,List.length_nil]);omega)
  |(have hm:= @b7k ns x ‹Int›;omega)
  |exact()
  |rfl
  |skip)
end Go.My
end
section
namespace Go.My
open Go.Eng Go.Proofs
variable {G:GInv}
def tIf:List UInt8:=[105,102,32,40]
def tWh:List UInt8:=[119,104,105,108,101,32,40]
def tPE:List UInt8:=[41,32,123]
theorem nq{c:WC}{n m:Nat}{s t:Ws}{k i:Int}(h:t=wV1 c n (wN c n m) (Aa c.ns k) i s):AR (wN c n (m+1) k i s) t:=h
theorem Pb{c:WC}{n m:Nat}{s:Ws}{k i:Int}(h:ndP c n (m+1) s k i):s.ls.length+2≤2^41∧(¬(Aa c.ns k).kind=21→s.ls.length+85≤2^41):=by
 have h1:=h.rm
 by_cases e:(Aa c.ns k).kind=21
 ·have:=Sv h.v e;omega
 ·have:=MT h.v e;omega
theorem HH{c:WC}{n m:Nat}{s:Ws}{k i:Int}(h:ndP c n m s k i):(0≤k∧k<c.ns.length)∧(0≤i∧i≤59)∧(Aa c.ns k).kids.length≤12:=⟨Bc.1 h.v.up.1,a5B h.v,(Dj (Eo h.v.up)).2.1⟩
theorem a6g{c:WC}{n m:Nat}{s t:Ws}{k i:Int}(hk:(Aa c.ns k).kind=19)(h:AR (Bv i (Aa c.ns k).text s) t):AR (wN c n (m+1) k i s) t:=nq (by rw[wV1,if_pos hk];exact h)
theorem MV{c:WC}{n m:Nat}{s:Ws}{k i d:Int}{pre post:List UInt8}(h:ndP c n (m+1) s k i)(hk:¬(Aa c.ns k).kind=21)(hd:(Aa c.ns k).kids[(0:Nat)]? =some d)(hv:AX (Al c.ns d)=true)(hp:pre.length≤40∧Be pre=true)(hq:post.length≤40∧Be post=true):wvP c n s pre d post i:=
 ⟨a5D h.v (AZ hd) hv hp hq,by have:=(Pb h).2 hk;omega⟩
theorem a6h{c:WC}{n m:Nat}{s:Ws}{k i d:Int}(h:ndP c n (m+1) s k i)(hk:(Aa c.ns k).kind=12)(hd:(Aa c.ns k).kids[(0:Nat)]? =some d):wvP c n s ([118,97,114,32]++(Aa c.ns k).text++[32,61]) d [59] i:=by
 have hn:=OY h.v (.inl hk)
 exact MV h (by omega) hd (HG h.v.up (.inl hk) d (AZ hd)) ⟨by simp;omega,by rw[Fi,Fi,hn.2];rfl⟩ ⟨by simp,rfl⟩
theorem Sz{c:WC}{n m:Nat}{s:Ws}{k i:Int}(h:ndP c n m s k i)(hk:(Aa c.ns k).kind=12∨(Aa c.ns k).kind=13∨(Aa c.ns k).kind=20∨(Aa c.ns k).kind=21):(Aa c.ns k).text.length≤30:=(OY h.v hk).1
theorem b7p{c:WC}{n m:Nat}{s t:Ws}{k i d:Int}(hk:(Aa c.ns k).kind=12)(hl:¬((Aa c.ns k).kids.length:Int)=0)(hd:(Aa c.ns k).kids[(0:Nat)]? =some d)(h:AR (BZ c n ([118,97,114,32]++(Aa c.ns k).text++[32,61]) d [59] i s) t):AR (wN c n (m+1) k i s) t:=
 nq (by rw[wV1,if_neg (by omega),if_pos hk,if_neg (by omega),Cr hd];exact h)
theorem b7q{c:WC}{n m:Nat}{s t:Ws}{k i:Int}(hk:(Aa c.ns k).kind=12)(hl:((Aa c.ns k).kids.length:Int)=0)(h:AR (Bv i ([118,97,114,32]++(Aa c.ns k).text++[59]) s) t):AR (wN c n (m+1) k i s) t:=
 nq (by rw[wV1,if_neg (by omega),if_pos hk,if_pos (by omega)];exact h)
theorem a6i{c:WC}{n m:Nat}{s:Ws}{k i d:Int}(h:ndP c n (m+1) s k i)(hk:(Aa c.ns k).kind=13)(hd:(Aa c.ns k).kids[(0:Nat)]? =some d):wvP c n s ((Aa c.ns k).text++[32,61]) d [59] i:=by
 have hn:=OY h.v (.inr (.inl hk))
 exact MV h (by omega) hd (HG h.v.up (.inr (.inl hk)) d (AZ hd)) ⟨by simp;omega,by rw[Fi,hn.2];rfl⟩ ⟨by simp,rfl⟩
theorem b7r{c:WC}{n m:Nat}{s t:Ws}{k i d:Int}(hk:(Aa c.ns k).kind=13)(hd:(Aa c.ns k).kids[(0:Nat)]? =some d)(h:AR (BZ c n ((Aa c.ns k).text++[32,61]) d [59] i s) t):AR (wN c n (m+1) k i s) t:=
 nq (by rw[wV1,if_neg (by omega),if_neg (by omega),if_pos hk,Cr hd];exact h)
theorem a6j{c:WC}{n m:Nat}{s:Ws}{k i d:Int}(h:ndP c n (m+1) s k i)(hk:(Aa c.ns k).kind=14)(hd:(Aa c.ns k).kids[(0:Nat)]? =some d):wvP c n s [] d [59] i:=
 MV h (by omega) hd (HG h.v.up (.inr (.inr (.inl hk))) d (AZ hd)) ⟨by simp,rfl⟩ ⟨by simp,rfl⟩
theorem b7s{c:WC}{n m:Nat}{s t:Ws}{k i d:Int}(hk:(Aa c.ns k).kind=14)(hd:(Aa c.ns k).kids[(0:Nat)]? =some d)(h:AR (BZ c n [] d [59] i s) t):AR (wN c n (m+1) k i s) t:=
 nq (by rw[wV1,if_neg (by omega),if_neg (by omega),if_neg (by omega),if_pos hk,Cr hd];exact h)
theorem a6k{c:WC}{n m:Nat}{s:Ws}{k i d:Int}(h:ndP c n (m+1) s k i)(hk:(Aa c.ns k).kind=15)(hd:(Aa c.ns k).kids[(0:Nat)]? =some d):wvP c n s [114,101,116,117,114,110,32] d [59] i:=
 MV h (by omega) hd (HG h.v.up (.inr (.inr (.inr (.inl hk)))) d (AZ hd)) ⟨by simp,rfl⟩ ⟨by simp,rfl⟩
theorem b7t{c:WC}{n m:Nat}{s t:Ws}{k i d:Int}(hk:(Aa c.ns k).kind=15)(hl:¬((Aa c.ns k).kids.length:Int)=0)(hd:(Aa c.ns k).kids[(0:Nat)]? =some d)(h:AR (BZ c n [114,101,116,117,114,110,32] d [59] i s) t):AR (wN c n (m+1) k i s) t:=
 nq (by rw[wV1,if_neg (by omega),if_neg (by omega),if_neg (by omega),if_neg (by omega),if_pos hk,if_neg (by omega),Cr hd];exact h)
theorem b7u{c:WC}{n m:Nat}{s t:Ws}{k i:Int}(hk:(Aa c.ns k).kind=15)(hl:((Aa c.ns k).kids.length:Int)=0)(h:AR (Bv i [114,101,116,117,114,110,59] s) t):AR (wN c n (m+1) k i s) t:=
 nq (by rw[wV1,if_neg (by omega),if_neg (by omega),if_neg (by omega),if_neg (by omega),if_pos hk,if_pos (by omega)];exact h)
theorem XU{c:WC}{n m:Nat}{s:Ws}{k i d:Int}(h:ndP c n (m+1) s k i)(hk:(Aa c.ns k).kind=16)(hd:(Aa c.ns k).kids[(0:Nat)]? =some d):wvP c n s tIf d tPE i:=
 MV h (by omega) hd (by have:=(JA h.v.up hk).2.1;rwa [Cr hd] at this) ⟨by decide,rfl⟩ ⟨by decide,rfl⟩
def MW(c:WC)(n:Nat)(k i:Int)(s:Ws):Ws:=BZ c n tIf (kd (Aa c.ns k) 0) tPE i s
def MX(c:WC)(n m:Nat)(k i:Int)(s:Ws):Ws:=CC c.ns (wN c n m) (kd (Aa c.ns k) 1) i (MW c n k i s)
def MY(c:WC)(n m:Nat)(k i:Int)(s:Ws):Ws:=Bv i [125,32,101,108,115,101,32,123] (MX c n m k i s)
def SA(c:WC)(n m:Nat)(k i:Int)(s:Ws):Ws:=CC c.ns (wN c n m) (kd (Aa c.ns k) 2) i (MY c n m k i s)
theorem b7v{c:WC}{n m:Nat}{s:Ws}{k i:Int}(h:ndP c n (m+1) s k i)(hk:(Aa c.ns k).kind=16):(Aa c.ns k).kids[(0:Nat)]? =some (kd (Aa c.ns k) 0):=by
 have hi:=JA h.v.up hk
 have hg:(Aa c.ns k).kids[0]? =some (Aa c.ns k).kids[0]:=List.getElem?_eq_getElem (by omega)
 rw[Cr hg];exact hg
theorem a6l{c:WC}{n m:Nat}{s:Ws}{k i:Int}(h:ndP c n (m+1) s k i)(hk:(Aa c.ns k).kind=16):(MW c n k i s).ls.length≤s.ls.length+81:=Sq (XU h hk (b7v h hk)).vw
theorem XV{c:WC}{n m:Nat}{s:Ws}{k i:Int}(h:ndP c n (m+1) s k i)(hk:(Aa c.ns k).kind=16):brW c n m (kd (Aa c.ns k) 1) i∧s.ls.length+(87+bkW c.ns m (kd (Aa c.ns k) 1))≤2^41:=by
 have h1:=h.rm
 by_cases e:(Aa c.ns k).kids.length=3
 ·have:=XQ h.v hk e;exact⟨this.1,by omega⟩
 ·have:=a5R h.v hk e;exact⟨this.1,by omega⟩
theorem b7w{c:WC}{n m:Nat}{s:Ws}{k i:Int}(h:ndP c n (m+1) s k i)(hk:(Aa c.ns k).kind=16):bkP c n m (MW c n k i s) (kd (Aa c.ns k) 1) i:=by
 have h1:=XV h hk;have h2:=a6l h hk
 exact⟨h1.1,by omega,(HH h).2.1⟩
theorem a6m{c:WC}{n m:Nat}{s:Ws}{k i:Int}(h:ndP c n (m+1) s k i)(hk:(Aa c.ns k).kind=16):(MX c n m k i s).ls.length≤s.ls.length+(81+bkW c.ns m (kd (Aa c.ns k) 1)):=by
 have h1:=XV h hk;have h2:=a6l h hk
 have h3:=Iw (s:=MW c n k i s) JF h1.1.al
 unfold MX;omega
theorem a6n{c:WC}{n m:Nat}{s:Ws}{k i:Int}(h:ndP c n (m+1) s k i)(hk:(Aa c.ns k).kind=16)(e:(Aa c.ns k).kids.length=3):bkP c n m (MY c n m k i s) (kd (Aa c.ns k) 2) i∧(SA c n m k i s).ls.length+2≤2^41:=by
 have h1:=XQ h.v hk e;have h2:=a6m h hk;have h3:=h.rm
 have h4:(MY c n m k i s).ls.length=(MX c n m k i s).ls.length+1:=FU
 have h5:=Iw (s:=MY c n m k i s) JF h1.2.1.al
 exact⟨⟨h1.2.1,by omega,(HH h).2.1⟩,by unfold SA;omega⟩
theorem a6o{c:WC}{n m:Nat}{s t:Ws}{k i d b:Int}(h1:AR (BZ c n tIf d tPE i s) t)(hd:(Aa c.ns k).kids[(0:Nat)]? =some d)(hb:(Aa c.ns k).kids[(1:Nat)]? =some b)(h:ndP c n (m+1) s k i)(hk:(Aa c.ns k).kind=16):bkP c n m t b i:=by
 have:=b7w h hk
 rw[MW,Cr hd,Cr hb,←h1] at this;exact this
theorem XW{c:WC}{n m:Nat}{s t u:Ws}{k i d b:Int}(h2:AR (CC c.ns (wN c n m) b i t) u)(h1:AR (BZ c n tIf d tPE i s) t)(hd:(Aa c.ns k).kids[(0:Nat)]? =some d)(hb:(Aa c.ns k).kids[(1:Nat)]? =some b):u=MX c n m k i s:=by
 rw[MX,MW,Cr hd,Cr hb,←h1];exact h2
theorem a6p{c:WC}{n m:Nat}{s t u:Ws}{k i d b:Int}(h2:AR (CC c.ns (wN c n m) b i t) u)(h1:AR (BZ c n tIf d tPE i s) t)(hd:(Aa c.ns k).kids[(0:Nat)]? =some d)(hb:(Aa c.ns k).kids[(1:Nat)]? =some b)(h:ndP c n (m+1) s k i)(hk:(Aa c.ns k).kind=16):u.ls.length+6≤2^41:=by
 have h3:=a6m h hk;have h4:=XV h hk
 rw[XW h2 h1 hd hb];omega
theorem a6q{c:WC}{n m:Nat}{s t u v:Ws}{k i d b:Int}(h3:AR (Bv i [125,32,101,108,115,101,32,123] u) v)(h2:AR (CC c.ns (wN c n m) b i t) u)(h1:AR (BZ c n tIf d tPE i s) t)(hd:(Aa c.ns k).kids[(0:Nat)]? =some d)(hb:(Aa c.ns k).kids[(1:Nat)]? =some b):v=MY c n m k i s:=by
 rw[MY,←XW h2 h1 hd hb];exact h3
theorem a6r{c:WC}{n m:Nat}{s t u v:Ws}{k i d b e:Int}(h3:AR (Bv i [125,32,101,108,115,101,32,123] u) v)(h2:AR (CC c.ns (wN c n m) b i t) u)(h1:AR (BZ c n tIf d tPE i s) t)(hd:(Aa c.ns k).kids[(0:Nat)]? =some d)(hb:(Aa c.ns k).kids[(1:Nat)]? =some b)(he:(Aa c.ns k).kids[(2:Nat)]? =some e)(h:ndP c n (m+1) s k i)(hk:(Aa c.ns k).kind=16)(hl:((Aa c.ns k).kids.length:Int)=3):bkP c n m v e i:=by
 have:=(a6n h hk (by omega)).1
 rw[Cr he,←a6q h3 h2 h1 hd hb] at this;exact this
theorem a6s{c:WC}{n m:Nat}{s t u v x:Ws}{k i d b e:Int}(h4:AR (CC c.ns (wN c n m) e i v) x)(h3:AR (Bv i [125,32,101,108,115,101,32,123] u) v)(h2:AR (CC c.ns (wN c n m) b i t) u)(h1:AR (BZ c n tIf d tPE i s) t)(hd:(Aa c.ns k).kids[(0:Nat)]? =some d)(hb:(Aa c.ns k).kids[(1:Nat)]? =some b)(he:(Aa c.ns k).kids[(2:Nat)]? =some e):x=SA c n m k i s:=by
 rw[SA,Cr he,←a6q h3 h2 h1 hd hb];exact h4
theorem a6t{c:WC}{n m:Nat}{s t u v x:Ws}{k i d b e:Int}(h4:AR (CC c.ns (wN c n m) e i v) x)(h3:AR (Bv i [125,32,101,108,115,101,32,123] u) v)(h2:AR (CC c.ns (wN c n m) b i t) u)(h1:AR (BZ c n tIf d tPE i s) t)(hd:(Aa c.ns k).kids[(0:Nat)]? =some d)(hb:(Aa c.ns k).kids[(1:Nat)]? =some b)(he:(Aa c.ns k).kids[(2:Nat)]? =some e)(h:ndP c n (m+1) s k i)(hk:(Aa c.ns k).kind=16)(hl:((Aa c.ns k).kids.length:Int)=3):x.ls.length+2≤2^41:=by
 rw[a6s h4 h3 h2 h1 hd hb he];exact(a6n h hk (by omega)).2
theorem a6u{c:WC}{n m:Nat}{s t u v x y:Ws}{k i d b e:Int}(h5:AR (Bv i [125] x) y)(h4:AR (CC c.ns (wN c n m) e i v) x)(h3:AR (Bv i [125,32,101,108,115,101,32,123] u) v)(h2:AR (CC c.ns (wN c n m) b i t) u)(h1:AR (BZ c n tIf d tPE i s) t)(hd:(Aa c.ns k).kids[(0:Nat)]? =some d)(hb:(Aa c.ns k).kids[(1:Nat)]? =some b)(he:(Aa c.ns k).kids[(2:Nat)]? =some e)(hk:(Aa c.ns k).kind=16)(hl:((Aa c.ns k).kids.length:Int)=3):AR (wN c n (m+1) k i s) y:=by
 have h6:=a6s h4 h3 h2 h1 hd hb he
 refine nq ?_
 rw[wV1,if_neg (by omega),if_neg (by omega),if_neg (by omega),if_neg (by omega),if_neg (by omega),if_pos hk,if_pos (by omega)]
 rw[h6] at h5;exact h5
theorem a6v{c:WC}{n m:Nat}{s t u y:Ws}{k i d b:Int}(h5:AR (Bv i [125] u) y)(h2:AR (CC c.ns (wN c n m) b i t) u)(h1:AR (BZ c n tIf d tPE i s) t)(hd:(Aa c.ns k).kids[(0:Nat)]? =some d)(hb:(Aa c.ns k).kids[(1:Nat)]? =some b)(hk:(Aa c.ns k).kind=16)(hl:¬((Aa c.ns k).kids.length:Int)=3):AR (wN c n (m+1) k i s) y:=by
 have h6:=XW h2 h1 hd hb
 refine nq ?_
 rw[wV1,if_neg (by omega),if_neg (by omega),if_neg (by omega),if_neg (by omega),if_neg (by omega),if_pos hk,if_neg (by omega)]
 rw[h6] at h5;exact h5
theorem SB{c:WC}{n m:Nat}{s:Ws}{k i d:Int}(h:ndP c n (m+1) s k i)(hk:(Aa c.ns k).kind=17)(hd:(Aa c.ns k).kids[(0:Nat)]? =some d):wvP c n s tWh d tPE i:=
 MV h (by omega) hd (by have:=(OQ h.v.up hk).2.1;rwa [Cr hd] at this) ⟨by decide,rfl⟩ ⟨by decide,rfl⟩
theorem a6w{c:WC}{n m:Nat}{s t:Ws}{k i d b:Int}(h1:AR (BZ c n tWh d tPE i s) t)(hd:(Aa c.ns k).kids[(0:Nat)]? =some d)(hb:(Aa c.ns k).kids[(1:Nat)]? =some b)(h:ndP c n (m+1) s k i)(hk:(Aa c.ns k).kind=17):bkP c n m t b i:=by
 have h2:=XR h.v hk;have h3:=h.rm
 have h4:=Sq (s:=s) (SB h hk hd).vw
 rw[Cr hb] at h2
 rw[←h1] at h4
 exact⟨h2.1,by omega,(HH h).2.1⟩
theorem a6x{c:WC}{n m:Nat}{s t u:Ws}{k i d b:Int}(h2:AR (CC c.ns (wN c n m) b i t) u)(h1:AR (BZ c n tWh d tPE i s) t)(hd:(Aa c.ns k).kids[(0:Nat)]? =some d)(hb:(Aa c.ns k).kids[(1:Nat)]? =some b)(h:ndP c n (m+1) s k i)(hk:(Aa c.ns k).kind=17):u.ls.length+2≤2^41:=by
 have h3:=XR h.v hk;have h4:=h.rm
 have h5:=Sq (s:=s) (SB h hk hd).vw
 rw[Cr hb] at h3
 rw[←h1] at h5
 have h6:=Iw (s:=t) JF h3.1.al
 rw[h2];omega
theorem a6y{c:WC}{n m:Nat}{s t u y:Ws}{k i d b:Int}(h5:AR (Bv i [125] u) y)(h2:AR (CC c.ns (wN c n m) b i t) u)(h1:AR (BZ c n tWh d tPE i s) t)(hd:(Aa c.ns k).kids[(0:Nat)]? =some d)(hb:(Aa c.ns k).kids[(1:Nat)]? =some b)(hk:(Aa c.ns k).kind=17):AR (wN c n (m+1) k i s) y:=by
 refine nq ?_
 rw[wV1,if_neg (by omega),if_neg (by omega),if_neg (by omega),if_neg (by omega),if_neg (by omega),if_neg (by omega),if_pos hk,Cr hd,Cr hb]
 rw[h2,h1] at h5;exact h5
theorem XX{c:WC}{n m:Nat}{s:Ws}{k i:Int}(h:ndP c n (m+1) s k i)(hk:(Aa c.ns k).kind=20):hdP c.ns (Aa c.ns k):=by
 have hi:=JB h.v.up hk
 refine⟨⟨hi.1,(HH h).2.2⟩,fun e he=> ?_,fun e he=>Bc.1 (CG h.v.up he).1.1,Sz h (by omega)⟩
 have ht:=(Dj (Eo (CG h.v.up (List.mem_of_mem_take he)).1)).2.2.1
 have h4:(Aa c.ns e).kind=1:=hi.2.2 e he
 rw[h4] at ht
 exact Qy (by simpa [Dv] using ht)
theorem b7x{ns:List Nd}{x:Nd}(h:hdP ns x):(hdT ns x).length≤440:=by
 have h1:=a6e (i:=(fnT x).length) h (by omega)
 rw[XT (by omega)] at h1
 have h2:=h.tx
 simp only[fnT] at h1
 rw[hdT]
 simp only[List.length_append,List.length_cons,List.length_nil];omega
theorem XY{c:WC}{n m:Nat}{s t:Ws}{k i b:Int}(h1:AR (Bv i (hdT c.ns (Aa c.ns k)) s) t)(hb:(Aa c.ns k).kids[(((Aa c.ns k).kids.length:Int)-1).toNat]? =some b)(h:ndP c n (m+1) s k i)(hk:(Aa c.ns k).kind=20):bkP c n m t b i:=by
 have h2:=XS h.v hk;have h3:=h.rm
 have hl:=(JB h.v.up hk).1
 rw[show(((Aa c.ns k).kids.length:Int)-1).toNat=(Aa c.ns k).kids.length-1 by omega] at hb
 rw[Cr hb] at h2
 refine⟨h2.1,?_,(HH h).2.1⟩
 rw[h1,FU];omega
theorem a6z{c:WC}{n m:Nat}{s t u:Ws}{k i b:Int}(h2:AR (CC c.ns (wN c n m) b i t) u)(h1:AR (Bv i (hdT c.ns (Aa c.ns k)) s) t)(hb:(Aa c.ns k).kids[(((Aa c.ns k).kids.length:Int)-1).toNat]? =some b)(h:ndP c n (m+1) s k i)(hk:(Aa c.ns k).kind=20):u.ls.length+2≤2^41:=by
 have h3:=XS h.v hk;have h4:=h.rm
 have hl:=(JB h.v.up hk).1
 rw[show(((Aa c.ns k).kids.length:Int)-1).toNat=(Aa c.ns k).kids.length-1 by omega] at hb
 rw[Cr hb] at h3
 have h6:=Iw (s:=t) JF h3.1.al
 rw[←h2] at h6
 rw[h1,FU] at h6;omega
theorem b7y{c:WC}{n m:Nat}{s t u y:Ws}{k i b:Int}(h5:AR (Bv i [125] u) y)(h2:AR (CC c.ns (wN c n m) b i t) u)(h1:AR (Bv i (hdT c.ns (Aa c.ns k)) s) t)(hb:(Aa c.ns k).kids[(((Aa c.ns k).kids.length:Int)-1).toNat]? =some b)(h:ndP c n (m+1) s k i)(hk:(Aa c.ns k).kind=20):AR (wN c n (m+1) k i s) y:=by
 have hl:=(JB h.v.up hk).1
 rw[show(((Aa c.ns k).kids.length:Int)-1).toNat=(Aa c.ns k).kids.length-1 by omega] at hb
 refine nq ?_
 rw[wV1,if_neg (by omega),if_neg (by omega),if_neg (by omega),if_neg (by omega),if_neg (by omega),if_neg (by omega),if_neg (by omega),if_pos hk,Cr hb]
 rw[h2,h1] at h5;exact h5
theorem a6A{c:WC}{n m:Nat}{s t:Ws}{k i:Int}(h1:AR (Bv i ([99,108,97,115,115,32]++(Aa c.ns k).text++[32,123]) s) t)(h:ndP c n (m+1) s k i)(hk:(Aa c.ns k).kind=21):alP c n m t (Aa c.ns k).kids (i+2):=by
 have h2:=Sv h.v hk;have h3:=h.rm;have h4:=(HH h).2
 refine⟨XL h.v hk,?_,by omega,by omega⟩
 rw[h1,FU];omega
theorem a6B{c:WC}{n m:Nat}{s t u:Ws}{k i:Int}(h2:AR (EH c.ns (wN c n m) (i+2) (Aa c.ns k).kids t) u)(h1:AR (Bv i ([99,108,97,115,115,32]++(Aa c.ns k).text++[32,123]) s) t)(h:ndP c n (m+1) s k i)(hk:(Aa c.ns k).kind=21):u.ls.length≤2^41:=by
 have h3:=Sv h.v hk;have h4:=h.rm
 have h5:=Sr (s:=t) JF (XL h.v hk)
 rw[←h2] at h5
 rw[h1,FU] at h5;omega
theorem a6C{c:WC}{n m:Nat}{s t u y:Ws}{k i:Int}(h5:AR (Bv i [125] u) y)(h2:AR (EH c.ns (wN c n m) (i+2) (Aa c.ns k).kids t) u)(h1:AR (Bv i ([99,108,97,115,115,32]++(Aa c.ns k).text++[32,123]) s) t)(hk:(Aa c.ns k).kind=21):AR (wN c n (m+1) k i s) y:=by
 refine nq ?_
 rw[wV1,if_neg (by omega),if_neg (by omega),if_neg (by omega),if_neg (by omega),if_neg (by omega),if_neg (by omega),if_neg (by omega),if_neg (by omega),if_pos hk]
 rw[h2,h1] at h5;exact h5
theorem a6D{c:WC}{n m:Nat}{s:Ws}{k i:Int}(h:ndP c n m s k i)(hk:((((((((¬(Aa c.ns k).kind=19∧¬(Aa c.ns k).kind=12)∧¬(Aa c.ns k).kind=13)∧¬(Aa c.ns k).kind=14)∧¬(Aa c.ns k).kind=15)∧¬(Aa c.ns k).kind=16)∧¬(Aa c.ns k).kind=17)∧¬(Aa c.ns k).kind=20)∧¬(Aa c.ns k).kind=21)):False:=by
 have:=XP h.v
 unfold Al at this
 omega
theorem SC{c:WC}{n m:Nat}{s:Ws}{k i:Int}(h:ndP c n (m+1) s k i):((Aa c.ns k).kind=13∨(Aa c.ns k).kind=14→1≤(Aa c.ns k).kids.length)∧((Aa c.ns k).kind=16∨(Aa c.ns k).kind=17→2≤(Aa c.ns k).kids.length)∧((Aa c.ns k).kind=20→1≤(Aa c.ns k).kids.length):=by
 have hl:=(HY h.v.up).2.1
 refine⟨fun e=> ?_,fun e=> ?_,fun e=>(JB h.v.up e).1⟩
 ·rcases e with e|e<;>rw[e] at hl<;>exact(by have:(CN 13).1=1:=rfl;have:(CN 14).1=1:=rfl;omega)
 ·rcases e with e|e
  ·exact(JA h.v.up e).1.1
  ·exact Nat.le_of_eq (OQ h.v.up e).1.symm
def DE:Sig:= {X:=WC×List (List UInt8)×Int×Int×List UInt8,args:=fun x=>[wrA x.1 (xW x),.int .i64 x.2.2.2.1,.str x.2.2.2.2],pre:=fun x=>(0≤x.2.2.2.1∧x.2.2.2.1≤100000)∧x.2.2.2.2.length≤2^62∧x.2.1.length≤2^41,Y:=List (List UInt8)×Int,post:=fun x y=>AR (Bv x.2.2.2.1 x.2.2.2.2 (xW x)) (yW y),res:=fun x y=> .tup [],outs:=fun x y=>[wrA x.1 (yW y),.top,.top],keep:=true}
def b7z(x:WC×List (List UInt8)×Int×Int×List UInt8):LS:= {ι:=Unit,inv:=fun _=>True,regs:=fun _=>[(0,wrA x.1 ⟨x.2.1++[blk x.2.2.2.1++x.2.2.2.2],x.2.2.1⟩)],als:=[],meas:=fun _=>0}
def SD(x:WC×List (List UInt8)×Int×Int×List UInt8)(x_1:GY.X):Prop:=∃(x_2:List UInt8),blk x_1.1++x.2.2.2.2=x_2∧(∃(zs:List (List UInt8)),AV.sl true 0 1 (List UInt8) Ag [x_2]=AV.sl true 0 1 (List UInt8) Ag zs∧(Bg Ag∧(AY (List.length (xW x).ls+List.length zs) (16:Nat)∧(true=true∧(∃(i:Unit),True∧((nds x.1.ns=nds x.1.ns∧x.1.w=x.1.w∧x.1.bud=x.1.bud∧AV.sl true 0 1 (List UInt8) Ag ((xW x).ls++zs)=AV.sl true 0 1 (List UInt8) Ag (x.2.1++[blk x.2.2.2.1++x.2.2.2.2])∧(xW x).st=x.2.2.1∧True)∧True))))))
theorem SE:Ah G Tryz.prog 92 DE:=
 vcFun_okP [(89,0,GY)] [(42,⟨List UInt8,Ag⟩)] false (fun x=>[(100000,b7z x)]) Tryz.func92 rfl (by decide) ⟨a2W,trivial⟩ (fun(x:WC×List (List UInt8)×Int×Int×List UInt8)=>True∧true=true∧((cA GY [.int .i64 x.2.2.2.1] fun x_1 y=>(↑(List.length (blk x_1.1)+List.length x.2.2.2.2):Int)≤IntKind.max IntKind.i64∧(SD x x_1))∧cA GY [.int .i64 x.2.2.2.1] fun x_1 y=>(↑(List.length (blk x_1.1)+List.length x.2.2.2.2):Int)≤IntKind.max IntKind.i64∧(SD x x_1)∧(SD x x_1))∧∀(i:Unit),True→rA DE x [.tup [],.box 0 [nds x.1.ns,.int .i64 x.1.w,.int .i64 x.1.bud,AV.sl true 0 1 (List UInt8) Ag (x.2.1++[blk x.2.2.2.1++x.2.2.2.2]),.int .i64 x.2.2.1],.top,.top]) (fun x=>by kernel_rfl) fun(x:WC×List (List UInt8)×Int×Int×List UInt8) (hx:(0≤x.2.2.2.1∧x.2.2.2.1≤100000)∧x.2.2.2.2.length≤2^62∧x.2.1.length≤2^41)=>(by
 dsimp only[SD,cA,Bi,nds,rA,GY,DE,wrA,Aq,Aw,mvL,lnL,mvE,lnE,mvG,mvH,lnG,lnH]
 obtain⟨c,ls,st,i,t⟩:=x;dsimp only[xW] at hx ⊢
 obtain⟨⟨h1,h2⟩,h3,h4⟩:=hx
 (repeat' first|(with_reducible first|rfl|exact True.intro|apply AG|apply And.intro|((first|apply Au|apply AE|apply Av|apply AF)<;>intro _))|(apply As<;>intro _)|apply AD|refine Af () ?_ ?_|((first|apply AK|apply AJ|apply AI|apply AH|apply AC|apply AB|apply AA|apply Az|apply Ax)<;>try dsimp only)|apply Af|(refine Prod.forall.2 ?_;intro _;try dsimp only)|(intro _;try dsimp only))
 all_goals first
  |with_reducible rfl
  |exact(show AR _ _ from rfl)
  |rfl
  |((try simp only[Aj,AY,List.length_cons,List.length_nil]);omega)
  |(have hb:=a5I (i:=i) h1 h2;(try simp only[Aj]);omega)
  |exact()
  |skip)
def GG(n:Nat):Sig:= {X:=WC×List (List UInt8)×Int×Int×List UInt8×List UInt8×Int,args:=fun x=>[wrA x.1 (xW x),.int .i64 x.2.2.2.1,.str x.2.2.2.2.1,.str x.2.2.2.2.2.1,.int .i64 x.2.2.2.2.2.2],pre:=fun x=>wvP x.1 n (xW x) x.2.2.2.2.1 x.2.2.2.1 x.2.2.2.2.2.1 x.2.2.2.2.2.2,Y:=List (List UInt8)×Int,post:=fun x y=>AR (BZ x.1 n x.2.2.2.2.1 x.2.2.2.1 x.2.2.2.2.2.1 x.2.2.2.2.2.2 (xW x)) (yW y),res:=fun x y=> .tup [],outs:=fun x y=>[wrA x.1 (yW y),.top,.top,.top,.top],keep:=true}
def XZ(n:Nat)(x:WC×List (List UInt8)×Int×Int×List UInt8×List UInt8×Int):LS:= {ι:=Unit,inv:=fun _=>True,regs:=fun _=>[(0,wrA x.1 (xW x)),(10,.box 0 (pcA false (bdP x.1.ns n x.2.2.2.1 x.2.2.2.2.1 x.2.2.2.2.2.1 x.2.2.2.2.2.2))),(12,Ad (srF (bdP x.1.ns n x.2.2.2.1 x.2.2.2.2.1 x.2.2.2.2.2.1 x.2.2.2.2.2.2) x.1.w x.1.bud).1.best),(13,.int .i64 (Et (bdP x.1.ns n x.2.2.2.1 x.2.2.2.2.1 x.2.2.2.2.2.1 x.2.2.2.2.2.2) x.1.w x.1.bud))],als:=[],meas:=fun _=>0}
def b7A(n:Nat)(x:WC×List (List UInt8)×Int×Int×List UInt8×List UInt8×Int):LS:= {ι:=Unit,inv:=fun _=>True,regs:=fun _=>[(0,wrA x.1 ⟨x.2.1++Eh (bdP x.1.ns n x.2.2.2.1 x.2.2.2.2.1 x.2.2.2.2.2.1 x.2.2.2.2.2.2) x.1.w x.1.bud,x.2.2.1⟩),(13,.int .i64 (Et (bdP x.1.ns n x.2.2.2.1 x.2.2.2.2.1 x.2.2.2.2.2.1 x.2.2.2.2.2.2) x.1.w x.1.bud))],als:=[],meas:=fun _=>0}
def SF(n:Nat)(x:WC×List (List UInt8)×Int×Int×List UInt8×List UInt8×Int):Prop:=cA KS [.agg [.int .i64 (bdP x.1.ns n x.2.2.2.1 x.2.2.2.2.1 x.2.2.2.2.2.1 x.2.2.2.2.2.2).ind,AV.sl false 0 2 Ru ruA (bdP x.1.ns n x.2.2.2.1 x.2.2.2.2.1 x.2.2.2.2.2.1 x.2.2.2.2.2.2).rules,AV.sl false 0 5 Ch chA (bdP x.1.ns n x.2.2.2.1 x.2.2.2.2.1 x.2.2.2.2.2.1 x.2.2.2.2.2.2).chunks,AV.sl false 0 3 Sn snA (bdP x.1.ns n x.2.2.2.1 x.2.2.2.2.1 x.2.2.2.2.2.1 x.2.2.2.2.2.2).spans,AV.sl false 0 2 Ti tiA (bdP x.1.ns n x.2.2.2.1 x.2.2.2.2.1 x.2.2.2.2.2.1 x.2.2.2.2.2.2).ties],Ad (srF (bdP x.1.ns n x.2.2.2.1 x.2.2.2.2.1 x.2.2.2.2.2.1 x.2.2.2.2.2.2) x.1.w x.1.bud).1.best] fun x_2 y=>∃(zs:List (List UInt8)),AV.sl true 0 1 (List UInt8) Ag (BF x_2.1 x_2.2)=AV.sl true 0 1 (List UInt8) Ag zs∧(Bg Ag∧(AY (List.length (xW x).ls+List.length zs) (16:Nat)∧(true=true∧(∃(i:Unit),True∧((nds x.1.ns=nds x.1.ns∧x.1.w=x.1.w∧x.1.bud=x.1.bud∧AV.sl true 0 1 (List UInt8) Ag ((xW x).ls++zs)=AV.sl true 0 1 (List UInt8) Ag (x.2.1++Eh (bdP x.1.ns n x.2.2.2.1 x.2.2.2.2.1 x.2.2.2.2.2.1 x.2.2.2.2.2.2) x.1.w x.1.bud)∧((xW x).st=x.2.2.1∧Et (bdP x.1.ns n x.2.2.2.1 x.2.2.2.2.1 x.2.2.2.2.2.1 x.2.2.2.2.2.2) x.1.w x.1.bud=Et (bdP x.1.ns n x.2.2.2.1 x.2.2.2.2.1 x.2.2.2.2.2.1 x.2.2.2.2.2.2) x.1.w x.1.bud∧True))∧True)))))
def Ya(n:Nat)(x:WC×List (List UInt8)×Int×Int×List UInt8×List UInt8×Int)(x_1:(MS n).X)(x_2:Il.X):Prop:=true=true∧(eA (XZ n x) [.box 0 [nds x.1.ns,.int .i64 x.1.w,.int .i64 x.1.bud,AV.sl true 0 1 (List UInt8) Ag (xW x).ls,.int .i64 (xW x).st],.box 0 [.int .i64 (pfR x_1.1 n x_1.2.1 x_1.2.2.1 x_1.2.2.2.1 x_1.2.2.2.2).ind,AV.sl false 0 2 Ru (fun(x:Ru)=>fzL (ruA x)) (pfR x_1.1 n x_1.2.1 x_1.2.2.1 x_1.2.2.2.1 x_1.2.2.2.2).rules,AV.sl false 0 5 Ch (fun(x:Ch)=>fzL (chA x)) (pfR x_1.1 n x_1.2.1 x_1.2.2.1 x_1.2.2.2.1 x_1.2.2.2.2).chunks,AV.sl false 0 3 Sn (fun(x:Sn)=>fzL (snA x)) (pfR x_1.1 n x_1.2.1 x_1.2.2.1 x_1.2.2.2.1 x_1.2.2.2.2).spans,AV.sl false 0 2 Ti (fun(x:Ti)=>fzL (tiA x)) (pfR x_1.1 n x_1.2.1 x_1.2.2.1 x_1.2.2.2.1 x_1.2.2.2.2).ties],Ad (if Bo x_2.1=true then(srF x_2.1 x_2.2.1 x_2.2.2).1.best else []),.int .i64 (if Bo x_2.1=true then(srF x_2.1 x_2.2.1 x_2.2.2).2 else(0:Int))])
def Lk(n:Nat)(x:WC×List (List UInt8)×Int×Int×List UInt8×List UInt8×Int)(x_1:(MS n).X):Prop:=cA Il [.agg [.int .i64 (pfR x_1.1 n x_1.2.1 x_1.2.2.1 x_1.2.2.2.1 x_1.2.2.2.2).ind,AV.sl true 0 2 Ru ruA (pfR x_1.1 n x_1.2.1 x_1.2.2.1 x_1.2.2.2.1 x_1.2.2.2.2).rules,AV.sl true 0 5 Ch chA (pfR x_1.1 n x_1.2.1 x_1.2.2.1 x_1.2.2.2.1 x_1.2.2.2.2).chunks,AV.sl true 0 3 Sn snA (pfR x_1.1 n x_1.2.1 x_1.2.2.1 x_1.2.2.2.1 x_1.2.2.2.2).spans,AV.sl true 0 2 Ti tiA (pfR x_1.1 n x_1.2.1 x_1.2.2.1 x_1.2.2.2.1 x_1.2.2.2.2).ties],.int .i64 x.1.w,.int .i64 x.1.bud] fun x_2 y=>(Ya n x x_1 x_2)∧(Ya n x x_1 x_2)
theorem a6E(n:Nat)(hv:Ah G Go.Proofs.Tryz.prog 49 (BQ n)):Ah G Tryz.prog 94 (GG n):=
 vcFun_okP [(11,0,(MS n)),(15,0,(JE n)),(92,0,DE),(121,0,Il),(53,0,KS)] [(42,⟨List UInt8,Ag⟩)] false (fun x=>[(100003,XZ n x),(100004,b7A n x)]) Tryz.func94 rfl (by decide) ⟨(b6Y n hv),(b6Z n hv),SE,b3M,b2X,trivial⟩ (fun(x:WC×List (List UInt8)×Int×Int×List UInt8×List UInt8×Int)=>True∧cA (MS n) [nds x.1.ns,.int .i64 x.2.2.2.1,.str x.2.2.2.2.1,.str x.2.2.2.2.2.1,.int .i64 x.2.2.2.2.2.2] fun x_1 y=>Ab (!Bq x_1.1 x_1.2.1 x_1.2.2.1 x_1.2.2.2.1 x_1.2.2.2.2) (cA (JE n) [nds x.1.ns,.int .i64 x.2.2.2.1] fun x_2 y=>(↑(List.length x.2.2.2.2.1+List.length (if Cv x_2.1 x_2.2=true then Hf x_2.1 n x_2.2 else [])):Int)≤IntKind.max IntKind.i64∧(↑(List.length (x.2.2.2.2.1++if Cv x_2.1 x_2.2=true then Hf x_2.1 n x_2.2 else [])+List.length x.2.2.2.2.2.1):Int)≤IntKind.max IntKind.i64∧cA DE [.box 0 [nds x.1.ns,.int .i64 x.1.w,.int .i64 x.1.bud,AV.sl true 0 1 (List UInt8) Ag (xW x).ls,.int .i64 (xW x).st],.int .i64 x.2.2.2.2.2.2,.str ((x.2.2.2.2.1++if Cv x_2.1 x_2.2=true then Hf x_2.1 n x_2.2 else [])++x.2.2.2.2.2.1)] fun x_3 y=>rA (GG n) x [.tup [],.box 0 [nds x_3.1.ns,.int .i64 x_3.1.w,.int .i64 x_3.1.bud,AV.sl true 0 1 (List UInt8) Ag (yW y).ls,.int .i64 (yW y).st],.top,.top,.top,.top]) (true=true∧(((Lk n x x_1)∧(Lk n x x_1))∧((Lk n x x_1)∧(Lk n x x_1))∧((Lk n x x_1)∧(Lk n x x_1)))∧∀(i:Unit),True→true=true∧((SF n x)∧(SF n x)∧(SF n x))∧∀(i:Unit),True→Ab (Et (bdP x.1.ns n x.2.2.2.1 x.2.2.2.2.1 x.2.2.2.2.2.1 x.2.2.2.2.2.2) x.1.w x.1.bud==(2:Int)) (rA (GG n) x [.tup [],.box 0 [nds x.1.ns,.int .i64 x.1.w,.int .i64 x.1.bud,AV.sl true 0 1 (List UInt8) Ag (x.2.1++Eh (bdP x.1.ns n x.2.2.2.1 x.2.2.2.2.1 x.2.2.2.2.2.1 x.2.2.2.2.2.2) x.1.w x.1.bud),.int .i64 (Et (bdP x.1.ns n x.2.2.2.1 x.2.2.2.2.1 x.2.2.2.2.2.1 x.2.2.2.2.2.2) x.1.w x.1.bud)],.top,.top,.top,.top]) (rA (GG n) x [.tup [],.box 0 [nds x.1.ns,.int .i64 x.1.w,.int .i64 x.1.bud,AV.sl true 0 1 (List UInt8) Ag (x.2.1++Eh (bdP x.1.ns n x.2.2.2.1 x.2.2.2.2.1 x.2.2.2.2.2.1 x.2.2.2.2.2.2) x.1.w x.1.bud),.int .i64 x.2.2.1],.top,.top,.top,.top]))) (fun x=>by kernel_rfl) fun(x:WC×List (List UInt8)×Int×Int×List UInt8×List UInt8×Int) (hx:wvP x.1 n (xW x) x.2.2.2.2.1 x.2.2.2.1 x.2.2.2.2.2.1 x.2.2.2.2.2.2)=>(by
 dsimp only[Lk,Ya,SF,cA,Bl,eA,XZ,Ad,Bi,nds,Cu,pcA,rA,Bj,KS,Il,DE,GG,MS,JE,Bm,Ht,suA,Bn,wrA,Aq,Aw,mvL,lnL,mvE,lnE,mvG,mvH,lnG,lnH,Ba]
 obtain⟨c,ls,st,k,pre,post,i⟩:=x;dsimp only[xW] at hx ⊢
 have hx:wvP c n ⟨ls,st⟩ pre k post i:=hx
 have ho:=a5K hx;have hl:=a5M hx;have hok:=MQ hx.vw.bd
 have hr:=hx.rm;dsimp only at hr
 (repeat' first|refine Dp (bdP c.ns n k pre post i) ?_|(with_reducible first|rfl|exact True.intro|apply AG|apply And.intro|((first|apply Au|apply AE|apply Av|apply AF)<;>intro _))|(apply As<;>intro _)|apply AD|refine Af () ?_ ?_|((first|apply AK|apply AJ|apply AI|apply AH|apply AC|apply AB|apply AA|apply Az|apply Ax)<;>try dsimp only)|apply Af|(refine Prod.forall.2 ?_;intro _;try dsimp only)|(intro _;try dsimp only))
 all_goals first
  |with_reducible rfl
  |(exfalso;rename Bq _ _ _ _ _=false=>hq;rw[ho.1] at hq;cases hq)
  |exact a5L hx
  |(rw[ho.2];done)
  |(rw[hl.1];done)
  |(rw[hl.2.1];done)
  |(rw[if_pos hok];done)
  |(rw[if_pos hok];rfl)
  |(dsimp only;exact⟨EQ hok,(Wm (EQ hok)).1.bl,(OP hx.vw.bd).2.1.2⟩)
  |exact XN ‹_›
  |exact a5N ‹_›
  |(rename _=(2:Int)=>hq;rw[hq];exact XN ‹_›)
  |exact OP hx.vw.bd
  |((try simp only[Aj,AY]);omega)
  |exact()
  |rfl
  |skip)
structure alQ (c:WC) (n m:Nat) (s:Ws) (ks:List Int) (i:Int):Prop where
 al:alP c n m s ks i
def HI(n m:Nat):Sig:= {X:=WC×List (List UInt8)×Int×Int×Int,args:=fun x=>[wrA x.1 (xW x),.int .i64 x.2.2.2.1,.int .i64 x.2.2.2.2],pre:=fun x=>ndP x.1 n m (xW x) x.2.2.2.1 x.2.2.2.2,Y:=List (List UInt8)×Int,post:=fun x y=>AR (wN x.1 n m x.2.2.2.1 x.2.2.2.2 (xW x)) (yW y),res:=fun x y=> .tup [],outs:=fun x y=>[wrA x.1 (yW y),.top,.top],keep:=true}
attribute [local irreducible] wlI
def Iz(n m:Nat):Sig:= {X:=WC×List (List UInt8)×Int×List Int×Int,args:=fun x=>[wrA x.1 (xW x),Ad x.2.2.2.1,.int .i64 x.2.2.2.2],pre:=fun x=>alP x.1 n m (xW x) x.2.2.2.1 x.2.2.2.2,Y:=List (List UInt8)×Int,post:=fun x y=>AR (EH x.1.ns (wN x.1 n m) x.2.2.2.2 x.2.2.2.1 (xW x)) (yW y),res:=fun x y=> .tup [],outs:=fun x y=>[wrA x.1 (yW y),.top,.top],keep:=true}
def Pd(n m:Nat)(x:WC×List (List UInt8)×Int×List Int×Int):LS:= {ι:=List (List UInt8)×Int×Int,inv:=fun j=>wlI x.1.ns (wN x.1 n m) (wW x.1.ns m) x.2.2.2.1 x.2.2.2.2 (xW x) j.2.2 (vWs j),regs:=fun j=>[(0,wrA x.1 (vWs j)),(1,Ad x.2.2.2.1),(2,.int .i64 x.2.2.2.2),(6,.int .i64 j.2.2)],als:=[],meas:=fun j=>x.2.2.2.1.length-j.2.2.toNat}
theorem a6F(n m:Nat)(hc:Ah G Go.Proofs.Tryz.prog 55 (HI n m)):Ah G Tryz.prog 69 (Iz n m):=
 vcFun_okP [(55,0,(HI n m))] [(42,⟨List UInt8,Ag⟩)] false (fun x=>[(1,Pd n m x)]) Tryz.func69 rfl (by decide) ⟨hc,trivial⟩ (fun(x:WC×List (List UInt8)×Int×List Int×Int)=>True∧eA (Pd n m x) [.box 0 [nds x.1.ns,.int .i64 x.1.w,.int .i64 x.1.bud,AV.sl true 0 1 (List UInt8) Ag (xW x).ls,.int .i64 (xW x).st],Ad x.2.2.2.1,.int .i64 x.2.2.2.2,.int .i64 (0:Int)]∧∀(i:List (List UInt8)×Int×Int),wlI x.1.ns (wN x.1 n m) (wW x.1.ns m) x.2.2.2.1 x.2.2.2.2 (xW x) i.2.2 (vWs i)→Ab (decide (i.2.2<(↑(List.length x.2.2.2.1):Int))) (true=true∧true=true∧((0:Int)≤i.2.2∧i.2.2<(↑(List.length x.2.2.2.1):Int))∧∀(e:Int),x.2.2.2.1[Int.toNat i.2.2]? =some e→((0:Int)≤e∧e<(↑(List.length x.1.ns):Int))∧∀(e_1:Nd),x.1.ns[Int.toNat e]? =some e_1→Ab e_1.blank (∃(x_1:List UInt8),#[].toList=x_1∧∃(zs:List (List UInt8)),AV.sl true 0 1 (List UInt8) Ag [x_1]=AV.sl true 0 1 (List UInt8) Ag zs∧Bg Ag∧AY (List.length (vWs i).ls+List.length zs) (16:Nat)∧((0:Int)≤i.2.2∧i.2.2<(↑(List.length x.2.2.2.1):Int))∧∀(e:Int),x.2.2.2.1[Int.toNat i.2.2]? =some e→∃(x_2:WC×List (List UInt8)×Int×Int×Int),ndP x_2.1 n m (xW x_2) x_2.2.2.2.1 x_2.2.2.2.2∧nds x.1.ns=nds x_2.1.ns∧x.1.w=x_2.1.w∧x.1.bud=x_2.1.bud∧AV.sl true 0 1 (List UInt8) Ag ((vWs i).ls++zs)=AV.sl true 0 1 (List UInt8) Ag (xW x_2).ls∧(vWs i).st=(xW x_2).st∧e=x_2.2.2.2.1∧x.2.2.2.2=x_2.2.2.2.2∧∀(y:List (List UInt8)×Int),AR (wN x_2.1 n m x_2.2.2.2.1 x_2.2.2.2.2 (xW x_2)) (yW y)→inR IntKind.i64 (i.2.2+(1:Int))∧eN (Pd n m x) i [.box 0 [nds x_2.1.ns,.int .i64 x_2.1.w,.int .i64 x_2.1.bud,AV.sl true 0 1 (List UInt8) Ag (yW y).ls,.int .i64 (yW y).st],Ad x.2.2.2.1,.int .i64 x.2.2.2.2,.int .i64 (i.2.2+(1:Int))]) (((0:Int)≤i.2.2∧i.2.2<(↑(List.length x.2.2.2.1):Int))∧∀(e:Int),x.2.2.2.1[Int.toNat i.2.2]? =some e→cA (HI n m) [.box 0 [nds x.1.ns,.int .i64 x.1.w,.int .i64 x.1.bud,AV.sl true 0 1 (List UInt8) Ag (vWs i).ls,.int .i64 (vWs i).st],.int .i64 e,.int .i64 x.2.2.2.2] fun x_1 y=>inR IntKind.i64 (i.2.2+(1:Int))∧eN (Pd n m x) i [.box 0 [nds x_1.1.ns,.int .i64 x_1.1.w,.int .i64 x_1.1.bud,AV.sl true 0 1 (List UInt8) Ag (yW y).ls,.int .i64 (yW y).st],Ad x.2.2.2.1,.int .i64 x.2.2.2.2,.int .i64 (i.2.2+(1:Int))])) (rA (Iz n m) x [.tup [],.box 0 [nds x.1.ns,.int .i64 x.1.w,.int .i64 x.1.bud,AV.sl true 0 1 (List UInt8) Ag (vWs i).ls,.int .i64 (vWs i).st],.top,.top])) (fun x=>by kernel_rfl) fun(x:WC×List (List UInt8)×Int×List Int×Int) (hx:alP x.1 n m (xW x) x.2.2.2.1 x.2.2.2.2)=>(by
 dsimp only[cA,eA,eN,Pd,Ad,Bi,nds,rA,Iz,HI,wrA,Aq,Aw,mvL,lnL,mvE,lnE,mvG,mvH,lnG,lnH,Ba]
 obtain⟨c,ls,st,ks,i⟩:=x;dsimp only[xW] at hx ⊢
 have hx:alP c n m ⟨ls,st⟩ ks i:=hx
 have h1:=hx.kl;have h2:=hx.rm;dsimp only at h2
 (repeat' first|(with_reducible first|rfl|exact True.intro|apply AG|apply And.intro|((first|apply Au|apply AE|apply Av|apply AF)<;>intro _))|(apply As<;>intro _)|apply AD|refine Af () ?_ ?_|((first|apply AK|apply AJ|apply AI|apply AH|apply AC|apply AB|apply AA|apply Az|apply Ax)<;>try dsimp only)|apply Af|(refine Prod.forall.2 ?_;intro _;try dsimp only)|(intro _;try dsimp only))
 all_goals(try(repeat(rename ks[_]? =some _=>hq;revert hq;rename ks[_]? =some _=>hr;intro hq;rw[hr] at hq;cases hq)))
 all_goals(try dsimp only[yW,xW,vWs] at*)
 all_goals first
  |with_reducible rfl
  |exact a5S hx
  |exact a5V ‹_› hx ‹_›
  |exact a5W ‹_› hx ‹_›
  |exact a5Y ‹_› hx ‹_› ‹_› ‹_› ‹_›
  |exact a5Z ‹_› hx ‹_› ‹_› ‹_› ‹_›
  |exact a6a ‹_› ‹_›
  |(have hq:=a5T (show wlI _ _ _ _ _ _ _ _ by assumption);(try simp only[Aj]);omega)
  |(have hq:=a5U hx ‹_›;omega)
  |(have hq:=Sw (show wlI _ _ _ _ _ _ _ _ by assumption) ‹_›;dsimp only at hq;(try simp only[AY,List.length_cons,List.length_nil]);omega)
  |exact()
  |rfl
  |skip)
def Hg(n m:Nat):Sig:= {X:=WC×List (List UInt8)×Int×Int×Int,args:=fun x=>[wrA x.1 (xW x),.int .i64 x.2.2.2.1,.int .i64 x.2.2.2.2],pre:=fun x=>bkP x.1 n m (xW x) x.2.2.2.1 x.2.2.2.2,Y:=List (List UInt8)×Int,post:=fun x y=>AR (CC x.1.ns (wN x.1 n m) x.2.2.2.1 x.2.2.2.2 (xW x)) (yW y),res:=fun x y=> .tup [],outs:=fun x y=>[wrA x.1 (yW y),.top,.top],keep:=true}
theorem a6G(n m:Nat)(hc:Ah G Go.Proofs.Tryz.prog 55 (HI n m)):Ah G Tryz.prog 95 (Hg n m):=
 vcFun_okP [(69,0,(Iz n m))] [] false (fun x=>[]) Tryz.func95 rfl (by decide) ⟨(a6F n m hc),trivial⟩ (fun(x:WC×List (List UInt8)×Int×Int×Int)=>True∧((0:Int)≤x.2.2.2.1∧x.2.2.2.1<(↑(List.length x.1.ns):Int))∧∀(e:Nd),x.1.ns[Int.toNat x.2.2.2.1]? =some e→inR IntKind.i64 (x.2.2.2.2+(2:Int))∧cA (Iz n m) [.box 0 [nds x.1.ns,.int .i64 x.1.w,.int .i64 x.1.bud,AV.sl true 0 1 (List UInt8) Ag (xW x).ls,.int .i64 (xW x).st],Ad e.kids,.int .i64 (x.2.2.2.2+(2:Int))] fun x_1 y=>rA (Hg n m) x [.tup [],.box 0 [nds x_1.1.ns,.int .i64 x_1.1.w,.int .i64 x_1.1.bud,AV.sl true 0 1 (List UInt8) Ag (yW y).ls,.int .i64 (yW y).st],.top,.top]) (fun x=>by kernel_rfl) fun(x:WC×List (List UInt8)×Int×Int×Int) (hx:bkP x.1 n m (xW x) x.2.2.2.1 x.2.2.2.2)=>(by
 dsimp only[cA,Ad,Bi,nds,rA,Iz,Hg,wrA,Aq,Aw,mvL,lnL,mvE,lnE,mvG,mvH,lnG,lnH]
 obtain⟨c,ls,st,b,i⟩:=x;dsimp only[xW] at hx ⊢
 have hx:bkP c n m ⟨ls,st⟩ b i:=hx
 have h1:=Bc.1 hx.br.up.1;have h2:=hx.i0
 (repeat' first|(with_reducible first|rfl|exact True.intro|apply AG|apply And.intro|((first|apply Au|apply AE|apply Av|apply AF)<;>intro _))|(apply As<;>intro _)|apply AD|refine Af () ?_ ?_|((first|apply AK|apply AJ|apply AI|apply AH|apply AC|apply AB|apply AA|apply Az|apply Ax)<;>try dsimp only)|apply Af|(refine Prod.forall.2 ?_;intro _;try dsimp only)|(intro _;try dsimp only))
 all_goals first
  |with_reducible rfl
  |exact a6c hx ‹_›
  |exact a6d ‹_› ‹_›
  |((try simp only[Aj]);omega)
  |skip)
end Go.My
end
section
namespace Go.My
open Go.Eng Go.Proofs
variable {G:GInv}
def toF(c:WC)(n:Nat)(x:Nd)(bare pre:List UInt8)(i:Int)(s:Ws):Ws:=if x.kids.length=0 then Bv i bare s else BZ c n pre (kd x 0) [59] i s
structure toP (c:WC) (n:Nat) (s:Ws) (x:Nd) (bare pre:List UInt8) (i:Int):Prop where
 l:bare.length≤2^62∧s.ls.length≤2^41
 i0:0≤i∧i≤100000
 v:∀d,x.kids[(0:Nat)]? =some d→wvP c n s pre d [59] i
 kl:x.kids.length≤12
theorem b7B{c:WC}{n:Nat}{x:Nd}{bare pre:List UInt8}{i:Int}{s t:Ws}(h:AR (Bv i bare s) t)(hk:(x.kids.length:Int)=0):AR (toF c n x bare pre i s) t:=by rw[toF,if_pos (by omega)];exact h
theorem b7C{c:WC}{n:Nat}{x:Nd}{bare pre:List UInt8}{i d:Int}{s t:Ws}(h:AR (BZ c n pre d [59] i s) t)(hd:x.kids[(0:Nat)]? =some d)(hk:¬(x.kids.length:Int)=0):AR (toF c n x bare pre i s) t:=by rw[toF,if_neg (by omega),Cr hd];exact h
def HJ(n:Nat):Sig:= {X:=WC×List (List UInt8)×Int×Nd×List UInt8×List UInt8×Int,args:=fun x=>[wrA x.1 (xW x),.agg (ndA false x.2.2.2.1),.str x.2.2.2.2.1,.str x.2.2.2.2.2.1,.int .i64 x.2.2.2.2.2.2],pre:=fun x=>toP x.1 n (xW x) x.2.2.2.1 x.2.2.2.2.1 x.2.2.2.2.2.1 x.2.2.2.2.2.2,Y:=List (List UInt8)×Int,post:=fun x y=>AR (toF x.1 n x.2.2.2.1 x.2.2.2.2.1 x.2.2.2.2.2.1 x.2.2.2.2.2.2 (xW x)) (yW y),res:=fun x y=> .tup [],outs:=fun x y=>[wrA x.1 (yW y),.top,.top,.top,.top],keep:=true}
theorem b7D(n:Nat)(hv:Ah G Go.Proofs.Tryz.prog 49 (BQ n)):Ah G Tryz.prog 93 (HJ n):=
 vcFun_okP [(92,0,DE),(94,0,(GG n))] [] false (fun x=>[]) Tryz.func93 rfl (by decide) ⟨SE,(a6E n hv),trivial⟩ (fun(x:WC×List (List UInt8)×Int×Nd×List UInt8×List UInt8×Int)=>True∧Ab ((↑(List.length x.2.2.2.1.kids):Int)==(0:Int)) (cA DE [.box 0 [nds x.1.ns,.int .i64 x.1.w,.int .i64 x.1.bud,AV.sl true 0 1 (List UInt8) Ag (xW x).ls,.int .i64 (xW x).st],.int .i64 x.2.2.2.2.2.2,.str x.2.2.2.2.1] fun x_1 y=>rA (HJ n) x [.tup [],.box 0 [nds x_1.1.ns,.int .i64 x_1.1.w,.int .i64 x_1.1.bud,AV.sl true 0 1 (List UInt8) Ag (yW y).ls,.int .i64 (yW y).st],.top,.top,.top,.top]) (((0:Int)≤(0:Int)∧(0:Int)<(↑(List.length x.2.2.2.1.kids):Int))∧∀(e:Int),x.2.2.2.1.kids[(0:Nat)]? =some e→cA (GG n) [.box 0 [nds x.1.ns,.int .i64 x.1.w,.int .i64 x.1.bud,AV.sl true 0 1 (List UInt8) Ag (xW x).ls,.int .i64 (xW x).st],.int .i64 e,.str x.2.2.2.2.2.1,.str #[(59:UInt8)].toList,.int .i64 x.2.2.2.2.2.2] fun x_1 y=>rA (HJ n) x [.tup [],.box 0 [nds x_1.1.ns,.int .i64 x_1.1.w,.int .i64 x_1.1.bud,AV.sl true 0 1 (List UInt8) Ag (yW y).ls,.int .i64 (yW y).st],.top,.top,.top,.top])) (fun x=>by kernel_rfl) fun(x:WC×List (List UInt8)×Int×Nd×List UInt8×List UInt8×Int) (hx:toP x.1 n (xW x) x.2.2.2.1 x.2.2.2.2.1 x.2.2.2.2.2.1 x.2.2.2.2.2.2)=>(by
 dsimp only[cA,Bl,Ad,Bi,nds,pcA,rA,Bj,DE,GG,HJ,Bm,Bn,wrA,Aq,Aw,mvL,lnL,mvE,lnE,mvG,mvH,lnG,lnH]
 obtain⟨c,ls,st,x,bare,pre,i⟩:=x;dsimp only[xW] at hx ⊢
 have hx:toP c n ⟨ls,st⟩ x bare pre i:=hx
 have h1:=hx.l;have h2:=hx.i0;have h3:=hx.kl;dsimp only at h1
 (repeat' first|(with_reducible first|rfl|exact True.intro|apply AG|apply And.intro|((first|apply Au|apply AE|apply Av|apply AF)<;>intro _))|(apply As<;>intro _)|apply AD|refine Af () ?_ ?_|((first|apply AK|apply AJ|apply AI|apply AH|apply AC|apply AB|apply AA|apply Az|apply Ax)<;>try dsimp only)|apply Af|(refine Prod.forall.2 ?_;intro _;try dsimp only)|(intro _;try dsimp only))
 all_goals first
  |with_reducible rfl
  |omega
  |exact b7B ‹_› ‹_›
  |exact b7C ‹_› ‹_› ‹_›
  |exact hx.v _ ‹_›
  |skip)
structure mtP (c:WC) (n m:Nat) (s:Ws) (x:Nd) (i:Int):Prop where
 nd:∃k,ndP c n (m+1) s k i∧x=Aa c.ns k
 k20:x.kind=20
def mtS(c:WC)(x:Nd)(i:Int):List UInt8:=x.text++[40]++Dz c.ns ((fnT x).take i.toNat) true
def mtI(x:Nd)(i:Int):Prop:=0≤i∧i≤(fnT x).length
theorem b7E{c:WC}{n m:Nat}{s:Ws}{x:Nd}{i:Int}(h:mtP c n m s x i):hdP c.ns x:=by
 obtain⟨k,hk,e⟩:=h.nd
 have h20:=h.k20
 subst e;exact XX hk h20
theorem b7F{c:WC}{n m:Nat}{s:Ws}{x:Nd}{i:Int}(h:mtP c n m s x i):(0≤i∧i≤59)∧s.ls.length+85≤2^41:=by
 obtain⟨k,hk,e⟩:=h.nd
 have h20:=h.k20
 subst e
 exact⟨(HH hk).2.1,(Pb hk).2 (by omega)⟩
theorem b7G{c:WC}{x:Nd}{i:Int}(hx:hdP c.ns x):(mtS c x i).length≤460:=by
 have h1:=KA (ns:=c.ns) (w:=fun _=>30) (l:=(fnT x).take i.toNat) (first:=true) fun k hk=>hx.nm k (List.mem_of_mem_take hk)
 have h2:=Jf (w:=fun _=>30) (b:=30) (l:=(fnT x).take i.toNat) fun _ _=>by omega
 have h3:= @FR x;have h4:=hx.kl;have h6:=hx.tx
 have h5:((fnT x).take i.toNat).length≤(fnT x).length:=by rw[List.length_take];omega
 rw[mtS];simp only[List.length_append,List.length_cons,List.length_nil];omega
theorem b7H{c:WC}{x:Nd}{i:Int}(h:mtI x i)(hx:hdP c.ns x):(mtS c x i).length≤460:=b7G hx
theorem a6H{c:WC}{x:Nd}{i k:Int}{e:Nd}(h0:0≤i)(hl:i<(x.kids.length:Int)-1)(hk:x.kids[i.toNat]? =some k)(he:c.ns[k.toNat]? =some e):mtS c x (i+1)=(if i>0 then mtS c x i++[44,32] else mtS c x i)++e.text:=by
 have hk2:=Lg h0 hl hk
 have hlt:=(Cx hk2).1
 rw[mtS,BG h0,Df hk2,Xx,Br he]
 by_cases e0:i>0
 ·have:(fnT x).take i.toNat≠[]:=by
   intro h;have h3:((fnT x).take i.toNat).length=0:=by rw[h];rfl
   rw[List.length_take] at h3;omega
  rw[if_pos e0,if_neg (by simp [this])];simp [mtS]
 ·have:(fnT x).take i.toNat=[]:=by rw[show i.toNat=0 by omega];rfl
  rw[if_neg e0,if_pos ⟨this,rfl⟩];simp [mtS]
theorem a6I{c:WC}{x:Nd}{i k:Int}{e:Nd}(h0:mtI x i)(hl:i<(x.kids.length:Int)-1)(hk:x.kids[i.toNat]? =some k)(he:c.ns[k.toNat]? =some e)(hi:i>0):mtS c x i++[44,32]++e.text=mtS c x (i+1):=by rw[a6H h0.1 hl hk he,if_pos hi]
theorem a6J{c:WC}{x:Nd}{i k:Int}{e:Nd}(h0:mtI x i)(hl:i<(x.kids.length:Int)-1)(hk:x.kids[i.toNat]? =some k)(he:c.ns[k.toNat]? =some e)(hi:¬i>0):mtS c x i++e.text=mtS c x (i+1):=by rw[a6H h0.1 hl hk he,if_neg hi]
theorem Yb{c:WC}{x:Nd}{i:Int}(h0:mtI x i)(hi:¬i<(x.kids.length:Int)-1):mtS c x i++[41,32,123]=hdT c.ns x:=by
 rw[mtS,hdT,List.take_of_length_le (by have:=h0.1;rw[FR];omega),fnT]
theorem b7I{c:WC}{x:Nd}{i k:Int}{e:Nd}(hx:hdP c.ns x)(h0:mtI x i)(hl:i<(x.kids.length:Int)-1)(hk:x.kids[i.toNat]? =some k)(he:c.ns[k.toNat]? =some e):e.text.length≤30:=by
 have:=hx.nm k (AZ (Lg h0.1 hl hk))
 rwa [Br he] at this
theorem b7J{c:WC}{n m:Nat}{s t:Ws}{x:Nd}{i b:Int}(h1:AR (Bv i (hdT c.ns x) s) t)(hb:x.kids[((x.kids.length:Int)-1).toNat]? =some b)(h:mtP c n m s x i):bkP c n m t b i:=by
 obtain⟨k,hk,e⟩:=h.nd
 have h20:=h.k20
 subst e;exact XY h1 hb hk h20
theorem b7K{c:WC}{n m:Nat}{s t u:Ws}{x:Nd}{i b:Int}(h2:AR (CC c.ns (wN c n m) b i t) u)(h1:AR (Bv i (hdT c.ns x) s) t)(hb:x.kids[((x.kids.length:Int)-1).toNat]? =some b)(h:mtP c n m s x i):u.ls.length+2≤2^41:=by
 obtain⟨k,hk,e⟩:=h.nd
 have h20:=h.k20
 subst e;exact a6z h2 h1 hb hk h20
def mtQ(c:WC)(n m:Nat)(s:Ws)(x:Nd)(i:Int)(y:Ws):Prop:=y=Bv i [125] (CC c.ns (wN c n m) (kd x (x.kids.length-1)) i (Bv i (hdT c.ns x) s))
theorem b7L{c:WC}{n m:Nat}{s t u y:Ws}{x:Nd}{i b:Int}(h5:AR (Bv i [125] u) y)(h2:AR (CC c.ns (wN c n m) b i t) u)(h1:AR (Bv i (hdT c.ns x) s) t)(hb:x.kids[((x.kids.length:Int)-1).toNat]? =some b)(hl:1≤x.kids.length):mtQ c n m s x i y:=by
 rw[show((x.kids.length:Int)-1).toNat=x.kids.length-1 by omega] at hb
 rw[mtQ,Cr hb,←h1,←h2];exact h5
attribute [local irreducible] mtS mtI
def MZ(n m:Nat):Sig:= {X:=WC×List (List UInt8)×Int×Nd×Int,args:=fun x=>[wrA x.1 (xW x),.agg (ndA false x.2.2.2.1),.int .i64 x.2.2.2.2],pre:=fun x=>mtP x.1 n m (xW x) x.2.2.2.1 x.2.2.2.2,Y:=List (List UInt8)×Int,post:=fun x y=>mtQ x.1 n m (xW x) x.2.2.2.1 x.2.2.2.2 (yW y),res:=fun x y=> .tup [],outs:=fun x y=>[wrA x.1 (yW y),.top,.top],keep:=true}
def Pe(n m:Nat)(x:WC×List (List UInt8)×Int×Nd×Int):LS:= {ι:=Int,inv:=fun i=>mtI x.2.2.2.1 i,regs:=fun i=>[(0,wrA x.1 (xW x)),(2,.int .i64 x.2.2.2.2),(4,.box 0 (ndA false x.2.2.2.1)),(6,.str (mtS x.1 x.2.2.2.1 i)),(7,.int .i64 ((x.2.2.2.1.kids.length:Int)-1)),(8,.int .i64 i)],als:=[],meas:=fun i=>x.2.2.2.1.kids.length-i.toNat}
theorem b7M(n m:Nat)(hc:Ah G Go.Proofs.Tryz.prog 55 (HI n m)):Ah G Tryz.prog 96 (MZ n m):=
 vcFun_okP [(92,0,DE),(95,0,(Hg n m))] [] false (fun x=>[(4,Pe n m x)]) Tryz.func96 rfl (by decide) ⟨SE,(a6G n m hc),trivial⟩ (fun(x:WC×List (List UInt8)×Int×Nd×Int)=>True∧(↑(List.length x.2.2.2.1.text+(1:Nat)):Int)≤IntKind.max IntKind.i64∧inR IntKind.i64 ((↑(List.length x.2.2.2.1.kids):Int)-(1:Int))∧eA (Pe n m x) [.box 0 [nds x.1.ns,.int .i64 x.1.w,.int .i64 x.1.bud,AV.sl true 0 1 (List UInt8) Ag (xW x).ls,.int .i64 (xW x).st],.int .i64 x.2.2.2.2,.box 0 [.int .i64 x.2.2.2.1.kind,.str x.2.2.2.1.text,Ad x.2.2.2.1.kids,.bool x.2.2.2.1.blank],.str (x.2.2.2.1.text++ #[(40:UInt8)].toList),.int .i64 ((↑(List.length x.2.2.2.1.kids):Int)-(1:Int)),.int .i64 (0:Int)]∧∀(i:Int),mtI x.2.2.2.1 i→Ab (decide (i<(↑(List.length x.2.2.2.1.kids):Int)-(1:Int))) (Ab (decide (i>(0:Int))) ((↑(List.length (mtS x.1 x.2.2.2.1 i)+(2:Nat)):Int)≤IntKind.max IntKind.i64∧true=true∧true=true∧((0:Int)≤i∧i<(↑(List.length x.2.2.2.1.kids):Int))∧∀(e:Int),x.2.2.2.1.kids[Int.toNat i]? =some e→((0:Int)≤e∧e<(↑(List.length x.1.ns):Int))∧∀(e_1:Nd),x.1.ns[Int.toNat e]? =some e_1→(↑(List.length (mtS x.1 x.2.2.2.1 i++ #[(44:UInt8),(32:UInt8)].toList)+List.length e_1.text):Int)≤IntKind.max IntKind.i64∧inR IntKind.i64 (i+(1:Int))∧eN (Pe n m x) i [.box 0 [nds x.1.ns,.int .i64 x.1.w,.int .i64 x.1.bud,AV.sl true 0 1 (List UInt8) Ag (xW x).ls,.int .i64 (xW x).st],.int .i64 x.2.2.2.2,.box 0 [.int .i64 x.2.2.2.1.kind,.str x.2.2.2.1.text,Ad x.2.2.2.1.kids,.bool x.2.2.2.1.blank],.str (mtS x.1 x.2.2.2.1 i++ #[(44:UInt8),(32:UInt8)].toList++e_1.text),.int .i64 ((↑(List.length x.2.2.2.1.kids):Int)-(1:Int)),.int .i64 (i+(1:Int))]) (true=true∧true=true∧((0:Int)≤i∧i<(↑(List.length x.2.2.2.1.kids):Int))∧∀(e:Int),x.2.2.2.1.kids[Int.toNat i]? =some e→((0:Int)≤e∧e<(↑(List.length x.1.ns):Int))∧∀(e_1:Nd),x.1.ns[Int.toNat e]? =some e_1→(↑(List.length (mtS x.1 x.2.2.2.1 i)+List.length e_1.text):Int)≤IntKind.max IntKind.i64∧inR IntKind.i64 (i+(1:Int))∧eN (Pe n m x) i [.box 0 [nds x.1.ns,.int .i64 x.1.w,.int .i64 x.1.bud,AV.sl true 0 1 (List UInt8) Ag (xW x).ls,.int .i64 (xW x).st],.int .i64 x.2.2.2.2,.box 0 [.int .i64 x.2.2.2.1.kind,.str x.2.2.2.1.text,Ad x.2.2.2.1.kids,.bool x.2.2.2.1.blank],.str (mtS x.1 x.2.2.2.1 i++e_1.text),.int .i64 ((↑(List.length x.2.2.2.1.kids):Int)-(1:Int)),.int .i64 (i+(1:Int))])) ((↑(List.length (mtS x.1 x.2.2.2.1 i)+(3:Nat)):Int)≤IntKind.max IntKind.i64∧cA DE [.box 0 [nds x.1.ns,.int .i64 x.1.w,.int .i64 x.1.bud,AV.sl true 0 1 (List UInt8) Ag (xW x).ls,.int .i64 (xW x).st],.int .i64 x.2.2.2.2,.str (mtS x.1 x.2.2.2.1 i++ #[(41:UInt8),(32:UInt8),(123:UInt8)].toList)] fun x_1 y=>((0:Int)≤(↑(List.length x.2.2.2.1.kids):Int)-(1:Int)∧(↑(List.length x.2.2.2.1.kids):Int)-(1:Int)<(↑(List.length x.2.2.2.1.kids):Int))∧∀(e:Int),x.2.2.2.1.kids[Int.toNat ((↑(List.length x.2.2.2.1.kids):Int)-(1:Int))]? =some e→cA (Hg n m) [.box 0 [nds x_1.1.ns,.int .i64 x_1.1.w,.int .i64 x_1.1.bud,AV.sl true 0 1 (List UInt8) Ag (yW y).ls,.int .i64 (yW y).st],.int .i64 e,.int .i64 x.2.2.2.2] fun x_2 y=>cA DE [.box 0 [nds x_2.1.ns,.int .i64 x_2.1.w,.int .i64 x_2.1.bud,AV.sl true 0 1 (List UInt8) Ag (yW y).ls,.int .i64 (yW y).st],.int .i64 x.2.2.2.2,.str #[(125:UInt8)].toList] fun x_3 y=>rA (MZ n m) x [.tup [],.box 0 [nds x_3.1.ns,.int .i64 x_3.1.w,.int .i64 x_3.1.bud,AV.sl true 0 1 (List UInt8) Ag (yW y).ls,.int .i64 (yW y).st],.top,.top])) (fun x=>by kernel_rfl) fun(x:WC×List (List UInt8)×Int×Nd×Int) (hx:mtP x.1 n m (xW x) x.2.2.2.1 x.2.2.2.2)=>(by
 dsimp only[cA,eA,eN,Pe,Ad,Bi,nds,rA,Hg,DE,MZ,wrA,Aq,Aw,mvL,lnL,mvE,lnE,mvG,mvH,lnG,lnH,Ba]
 obtain⟨c,ls,st,x,i⟩:=x;dsimp only[xW] at hx ⊢
 have hx:mtP c n m ⟨ls,st⟩ x i:=hx
 have hh:=b7E hx;have hi:=b7F hx;have hkl:=hh.kl;have htx:=hh.tx;dsimp only at hi
 have hI:∀j,mtI x j→0≤j∧j≤(fnT x).length:=fun j h=>by unfold mtI at h;exact h
 have hI2:∀j,mtI x j→j<(x.kids.length:Int)-1→mtI x (j+1):=fun j h hl=>by unfold mtI at h ⊢;rw[FR] at h ⊢;omega
 have hI0:mtI x 0:=by unfold mtI;omega
 have hS0:x.text++[40]=mtS c x 0:=by unfold mtS;simp [Dz]
 (repeat' first|(with_reducible first|rfl|exact True.intro|apply AG|apply And.intro|((first|apply Au|apply AE|apply Av|apply AF)<;>intro _))|(apply As<;>intro _)|apply AD|refine Af () ?_ ?_|((first|apply AK|apply AJ|apply AI|apply AH|apply AC|apply AB|apply AA|apply Az|apply Ax)<;>try dsimp only)|apply Af|(refine Prod.forall.2 ?_;intro _;try dsimp only)|(intro _;try dsimp only))
 all_goals(try dsimp only[yW,xW] at*)
 all_goals first
  |with_reducible rfl
  |with_reducible assumption
  |omega
  |exact hI2 _ ‹_› ‹_›
  |exact hS0
  |exact hS0.symm
  |exact a6I ‹_› ‹_› ‹_› ‹_› ‹_›
  |exact a6J ‹_› ‹_› ‹_› ‹_› ‹_›
  |exact(a6I ‹_› ‹_› ‹_› ‹_› ‹_›).symm
  |exact(a6J ‹_› ‹_› ‹_› ‹_› ‹_›).symm
  |(rename AR (Bv i (mtS c x _++[41,32,123]) _) _=>hq;rw[Yb ‹_› ‹_›] at hq;exact b7J hq ‹_› hx)
  |(rename AR (Bv i (mtS c x _++[41,32,123]) _) _=>hq;rw[Yb ‹_› ‹_›] at hq;exact b7L ‹_› ‹_› hq ‹_› hkl.1)
  |(rename AR (Bv i (mtS c x _++[41,32,123]) _) _=>hq;rw[Yb ‹_› ‹_›] at hq;have hz:=b7K ‹_› hq ‹_› hx;dsimp only at hz;omega)
  |(have hq:=hI _ ‹_›;have hl:= @FR x;(try simp only[Aj]);omega)
  |(have hq:=hI _ ‹_›;have hl:=hh.nd _ (AZ (show x.kids[_]? =some _ by assumption));omega)
  |(have h9:=b7H (c:=c) (show mtI x _ by assumption) hh;have hq:=hI _ ‹_›;(try have ht:=b7I hh ‹_› ‹_› ‹_› ‹_›);(try simp only[Aj,List.length_append,List.length_cons,List.length_nil]);omega)
  |((try simp only[Aj,List.length_append,List.length_cons,List.length_nil]);omega)
  |exact()
  |rfl
  |skip)
end Go.My
end
section
namespace Go.My
open Go.Eng Go.Proofs
variable {G:GInv}
theorem SG{c:WC}{n m:Nat}{s:Ws}{k i:Int}(h:ndP c n (m+1) s k i)(hk:¬(Aa c.ns k).kind=21):s.ls.length≤2^41∧(0≤i∧i≤100000)∧(Aa c.ns k).kids.length≤12:=by
 have:=(Pb h).1;have:=HH h;omega
theorem b7N{c:WC}{n m:Nat}{s:Ws}{k i:Int}(h:ndP c n (m+1) s k i)(hk:(Aa c.ns k).kind=12):toP c n s (Aa c.ns k) ([118,97,114,32]++(Aa c.ns k).text++[59]) ([118,97,114,32]++(Aa c.ns k).text++[32,61]) i:=by
 have h1:=SG h (by omega);have h2:=Sz h (.inl hk)
 exact⟨⟨by simp;omega,h1.1⟩,h1.2.1,fun d hd=>a6h h hk hd,h1.2.2⟩
theorem b7O{c:WC}{n m:Nat}{s:Ws}{k i:Int}(h:ndP c n (m+1) s k i)(hk:(Aa c.ns k).kind=13):toP c n s (Aa c.ns k) [] ((Aa c.ns k).text++[32,61]) i:=by
 have h1:=SG h (by omega)
 exact⟨⟨by simp,h1.1⟩,h1.2.1,fun d hd=>a6i h hk hd,h1.2.2⟩
theorem b7P{c:WC}{n m:Nat}{s:Ws}{k i:Int}(h:ndP c n (m+1) s k i)(hk:(Aa c.ns k).kind=14):toP c n s (Aa c.ns k) [] [] i:=by
 have h1:=SG h (by omega)
 exact⟨⟨by simp,h1.1⟩,h1.2.1,fun d hd=>a6j h hk hd,h1.2.2⟩
theorem b7Q{c:WC}{n m:Nat}{s:Ws}{k i:Int}(h:ndP c n (m+1) s k i)(hk:(Aa c.ns k).kind=15):toP c n s (Aa c.ns k) [114,101,116,117,114,110,59] [114,101,116,117,114,110,32] i:=by
 have h1:=SG h (by omega)
 exact⟨⟨by simp,h1.1⟩,h1.2.1,fun d hd=>a6k h hk hd,h1.2.2⟩
theorem b7R{c:WC}{n m:Nat}{s t:Ws}{k i:Int}(ht:AR (toF c n (Aa c.ns k) ([118,97,114,32]++(Aa c.ns k).text++[59]) ([118,97,114,32]++(Aa c.ns k).text++[32,61]) i s) t)(hk:(Aa c.ns k).kind=12):AR (wN c n (m+1) k i s) t:=nq (by rw[wV1,if_neg (by omega),if_pos hk];exact ht)
theorem b7S{c:WC}{n m:Nat}{s t:Ws}{k i:Int}(ht:AR (toF c n (Aa c.ns k) [] ((Aa c.ns k).text++[32,61]) i s) t)(h:ndP c n (m+1) s k i)(hk:(Aa c.ns k).kind=13):AR (wN c n (m+1) k i s) t:=by
 have h1:=(SC h).1 (.inl hk)
 rw[toF,if_neg (by omega)] at ht
 exact nq (by rw[wV1,if_neg (by omega),if_neg (by omega),if_pos hk];exact ht)
theorem b7T{c:WC}{n m:Nat}{s t:Ws}{k i:Int}(ht:AR (toF c n (Aa c.ns k) [] [] i s) t)(h:ndP c n (m+1) s k i)(hk:(Aa c.ns k).kind=14):AR (wN c n (m+1) k i s) t:=by
 have h1:=(SC h).1 (.inr hk)
 rw[toF,if_neg (by omega)] at ht
 exact nq (by rw[wV1,if_neg (by omega),if_neg (by omega),if_neg (by omega),if_pos hk];exact ht)
theorem b7U{c:WC}{n m:Nat}{s t:Ws}{k i:Int}(ht:AR (toF c n (Aa c.ns k) [114,101,116,117,114,110,59] [114,101,116,117,114,110,32] i s) t)(hk:(Aa c.ns k).kind=15):AR (wN c n (m+1) k i s) t:=nq (by rw[wV1,if_neg (by omega),if_neg (by omega),if_neg (by omega),if_neg (by omega),if_pos hk];exact ht)
theorem b7V{c:WC}{n m:Nat}{s:Ws}{k i:Int}(h:ndP c n (m+1) s k i)(hk:(Aa c.ns k).kind=20):mtP c n m s (Aa c.ns k) i:=⟨⟨k,h,rfl⟩,hk⟩
theorem b7W{c:WC}{n m:Nat}{s t:Ws}{k i:Int}(ht:mtQ c n m s (Aa c.ns k) i t)(hk:(Aa c.ns k).kind=20):AR (wN c n (m+1) k i s) t:=
 nq (by rw[wV1,if_neg (by omega),if_neg (by omega),if_neg (by omega),if_neg (by omega),if_neg (by omega),if_neg (by omega),if_neg (by omega),if_pos hk];exact ht)
theorem b7X{c:WC}{n m:Nat}{s:Ws}{k i:Int}(h:ndP c n (m+1) s k i)(hk:(Aa c.ns k).kind=16)(hl:((Aa c.ns k).kids.length:Int)>2):((Aa c.ns k).kids.length:Int)=3:=by have:=(JA h.v.up hk).1;omega
def FW(n m:Nat):Sig:= {X:=WC×List (List UInt8)×Int×Int×Int,args:=fun x=>[wrA x.1 (xW x),.int .i64 x.2.2.2.1,.int .i64 x.2.2.2.2],pre:=fun x=>ndP x.1 n (m+1) (xW x) x.2.2.2.1 x.2.2.2.2,Y:=List (List UInt8)×Int,post:=fun x y=>AR (wN x.1 n (m+1) x.2.2.2.1 x.2.2.2.2 (xW x)) (yW y),res:=fun x y=> .tup [],outs:=fun x y=>[wrA x.1 (yW y),.top,.top],keep:=true}
set_option maxHeartbeats 8000000 in
theorem b7Y(n m:Nat)(hv:Ah G Go.Proofs.Tryz.prog 49 (BQ n))(hc:Ah G Go.Proofs.Tryz.prog 55 (HI n m)):Ah G Tryz.prog 55 (FW n m):=
 vcFun_okP [(92,0,DE),(94,0,(GG n)),(93,0,(HJ n)),(95,0,(Hg n m)),(69,0,(Iz n m)),(96,0,(MZ n m))] [] false (fun x=>[]) Tryz.func55 rfl (by decide) ⟨SE,(a6E n hv),(b7D n hv),(a6G n m hc),(a6F n m hc),(b7M n m hc),trivial⟩ (fun(x:WC×List (List UInt8)×Int×Int×Int)=>True∧((0:Int)≤x.2.2.2.1∧x.2.2.2.1<(↑(List.length x.1.ns):Int))∧∀(e:Nd),x.1.ns[Int.toNat x.2.2.2.1]? =some e→Ab (e.kind==(19:Int)) (cA DE [.box 0 [nds x.1.ns,.int .i64 x.1.w,.int .i64 x.1.bud,AV.sl true 0 1 (List UInt8) Ag (xW x).ls,.int .i64 (xW x).st],.int .i64 x.2.2.2.2,.str e.text] fun x_1 y=>rA (FW n m) x [.tup [],.box 0 [nds x_1.1.ns,.int .i64 x_1.1.w,.int .i64 x_1.1.bud,AV.sl true 0 1 (List UInt8) Ag (yW y).ls,.int .i64 (yW y).st],.top,.top]) (Ab (e.kind==(12:Int)) ((↑((4:Nat)+List.length e.text):Int)≤IntKind.max IntKind.i64∧(↑(List.length (#[(118:UInt8),(97:UInt8),(114:UInt8),(32:UInt8)].toList++e.text)+(1:Nat)):Int)≤IntKind.max IntKind.i64∧(↑((4:Nat)+List.length e.text):Int)≤IntKind.max IntKind.i64∧(↑(List.length (#[(118:UInt8),(97:UInt8),(114:UInt8),(32:UInt8)].toList++e.text)+(2:Nat)):Int)≤IntKind.max IntKind.i64∧cA (HJ n) [.box 0 [nds x.1.ns,.int .i64 x.1.w,.int .i64 x.1.bud,AV.sl true 0 1 (List UInt8) Ag (xW x).ls,.int .i64 (xW x).st],.agg [.int .i64 e.kind,.str e.text,Ad e.kids,.bool e.blank],.str (#[(118:UInt8),(97:UInt8),(114:UInt8),(32:UInt8)].toList++e.text++ #[(59:UInt8)].toList),.str (#[(118:UInt8),(97:UInt8),(114:UInt8),(32:UInt8)].toList++e.text++ #[(32:UInt8),(61:UInt8)].toList),.int .i64 x.2.2.2.2] fun x_1 y=>rA (FW n m) x [.tup [],.box 0 [nds x_1.1.ns,.int .i64 x_1.1.w,.int .i64 x_1.1.bud,AV.sl true 0 1 (List UInt8) Ag (yW y).ls,.int .i64 (yW y).st],.top,.top]) (Ab (e.kind==(13:Int)) ((↑(List.length e.text+(2:Nat)):Int)≤IntKind.max IntKind.i64∧cA (HJ n) [.box 0 [nds x.1.ns,.int .i64 x.1.w,.int .i64 x.1.bud,AV.sl true 0 1 (List UInt8) Ag (xW x).ls,.int .i64 (xW x).st],.agg [.int .i64 e.kind,.str e.text,Ad e.kids,.bool e.blank],.str #[].toList,.str (e.text++ #[(32:UInt8),(61:UInt8)].toList),.int .i64 x.2.2.2.2] fun x_1 y=>rA (FW n m) x [.tup [],.box 0 [nds x_1.1.ns,.int .i64 x_1.1.w,.int .i64 x_1.1.bud,AV.sl true 0 1 (List UInt8) Ag (yW y).ls,.int .i64 (yW y).st],.top,.top]) (Ab (e.kind==(14:Int)) (cA (HJ n) [.box 0 [nds x.1.ns,.int .i64 x.1.w,.int .i64 x.1.bud,AV.sl true 0 1 (List UInt8) Ag (xW x).ls,.int .i64 (xW x).st],.agg [.int .i64 e.kind,.str e.text,Ad e.kids,.bool e.blank],.str #[].toList,.str #[].toList,.int .i64 x.2.2.2.2] fun x_1 y=>rA (FW n m) x [.tup [],.box 0 [nds x_1.1.ns,.int .i64 x_1.1.w,.int .i64 x_1.1.bud,AV.sl true 0 1 (List UInt8) Ag (yW y).ls,.int .i64 (yW y).st],.top,.top]) (Ab (e.kind==(15:Int)) (cA (HJ n) [.box 0 [nds x.1.ns,.int .i64 x.1.w,.int .i64 x.1.bud,AV.sl true 0 1 (List UInt8) Ag (xW x).ls,.int .i64 (xW x).st],.agg [.int .i64 e.kind,.str e.text,Ad e.kids,.bool e.blank],.str #[(114:UInt8),(101:UInt8),(116:UInt8),(117:UInt8),(114:UInt8),(110:UInt8),(59:UInt8)].toList,.str #[(114:UInt8),(101:UInt8),(116:UInt8),(117:UInt8),(114:UInt8),(110:UInt8),(32:UInt8)].toList,.int .i64 x.2.2.2.2] fun x_1 y=>rA (FW n m) x [.tup [],.box 0 [nds x_1.1.ns,.int .i64 x_1.1.w,.int .i64 x_1.1.bud,AV.sl true 0 1 (List UInt8) Ag (yW y).ls,.int .i64 (yW y).st],.top,.top]) (Ab (e.kind==(16:Int)) (((0:Int)≤(0:Int)∧(0:Int)<(↑(List.length e.kids):Int))∧∀(e_1:Int),e.kids[(0:Nat)]? =some e_1→cA (GG n) [.box 0 [nds x.1.ns,.int .i64 x.1.w,.int .i64 x.1.bud,AV.sl true 0 1 (List UInt8) Ag (xW x).ls,.int .i64 (xW x).st],.int .i64 e_1,.str #[(105:UInt8),(102:UInt8),(32:UInt8),(40:UInt8)].toList,.str #[(41:UInt8),(32:UInt8),(123:UInt8)].toList,.int .i64 x.2.2.2.2] fun x_1 y=>((0:Int)≤(1:Int)∧(1:Int)<(↑(List.length e.kids):Int))∧∀(e_2:Int),e.kids[(1:Nat)]? =some e_2→cA (Hg n m) [.box 0 [nds x_1.1.ns,.int .i64 x_1.1.w,.int .i64 x_1.1.bud,AV.sl true 0 1 (List UInt8) Ag (yW y).ls,.int .i64 (yW y).st],.int .i64 e_2,.int .i64 x.2.2.2.2] fun x_2 y=>Ab (decide ((↑(List.length e.kids):Int)>(2:Int))) (cA DE [.box 0 [nds x_2.1.ns,.int .i64 x_2.1.w,.int .i64 x_2.1.bud,AV.sl true 0 1 (List UInt8) Ag (yW y).ls,.int .i64 (yW y).st],.int .i64 x.2.2.2.2,.str #[(125:UInt8),(32:UInt8),(101:UInt8),(108:UInt8),(115:UInt8),(101:UInt8),(32:UInt8),(123:UInt8)].toList] fun x_3 y=>((0:Int)≤(2:Int)∧(2:Int)<(↑(List.length e.kids):Int))∧∀(e_3:Int),e.kids[(2:Nat)]? =some e_3→cA (Hg n m) [.box 0 [nds x_3.1.ns,.int .i64 x_3.1.w,.int .i64 x_3.1.bud,AV.sl true 0 1 (List UInt8) Ag (yW y).ls,.int .i64 (yW y).st],.int .i64 e_3,.int .i64 x.2.2.2.2] fun x_4 y=>cA DE [.box 0 [nds x_4.1.ns,.int .i64 x_4.1.w,.int .i64 x_4.1.bud,AV.sl true 0 1 (List UInt8) Ag (yW y).ls,.int .i64 (yW y).st],.int .i64 x.2.2.2.2,.str #[(125:UInt8)].toList] fun x_5 y=>rA (FW n m) x [.tup [],.box 0 [nds x_5.1.ns,.int .i64 x_5.1.w,.int .i64 x_5.1.bud,AV.sl true 0 1 (List UInt8) Ag (yW y).ls,.int .i64 (yW y).st],.top,.top]) (cA DE [.box 0 [nds x_2.1.ns,.int .i64 x_2.1.w,.int .i64 x_2.1.bud,AV.sl true 0 1 (List UInt8) Ag (yW y).ls,.int .i64 (yW y).st],.int .i64 x.2.2.2.2,.str #[(125:UInt8)].toList] fun x_3 y=>rA (FW n m) x [.tup [],.box 0 [nds x_3.1.ns,.int .i64 x_3.1.w,.int .i64 x_3.1.bud,AV.sl true 0 1 (List UInt8) Ag (yW y).ls,.int .i64 (yW y).st],.top,.top])) (Ab (e.kind==(17:Int)) (((0:Int)≤(0:Int)∧(0:Int)<(↑(List.length e.kids):Int))∧∀(e_1:Int),e.kids[(0:Nat)]? =some e_1→cA (GG n) [.box 0 [nds x.1.ns,.int .i64 x.1.w,.int .i64 x.1.bud,AV.sl true 0 1 (List UInt8) Ag (xW x).ls,.int .i64 (xW x).st],.int .i64 e_1,.str #[(119:UInt8),(104:UInt8),(105:UInt8),(108:UInt8),(101:UInt8),(32:UInt8),(40:UInt8)].toList,.str #[(41:UInt8),(32:UInt8),(123:UInt8)].toList,.int .i64 x.2.2.2.2] fun x_1 y=>((0:Int)≤(1:Int)∧(1:Int)<(↑(List.length e.kids):Int))∧∀(e_2:Int),e.kids[(1:Nat)]? =some e_2→cA (Hg n m) [.box 0 [nds x_1.1.ns,.int .i64 x_1.1.w,.int .i64 x_1.1.bud,AV.sl true 0 1 (List UInt8) Ag (yW y).ls,.int .i64 (yW y).st],.int .i64 e_2,.int .i64 x.2.2.2.2] fun x_2 y=>cA DE [.box 0 [nds x_2.1.ns,.int .i64 x_2.1.w,.int .i64 x_2.1.bud,AV.sl true 0 1 (List UInt8) Ag (yW y).ls,.int .i64 (yW y).st],.int .i64 x.2.2.2.2,.str #[(125:UInt8)].toList] fun x_3 y=>rA (FW n m) x [.tup [],.box 0 [nds x_3.1.ns,.int .i64 x_3.1.w,.int .i64 x_3.1.bud,AV.sl true 0 1 (List UInt8) Ag (yW y).ls,.int .i64 (yW y).st],.top,.top]) (Ab (e.kind==(20:Int)) (cA (MZ n m) [.box 0 [nds x.1.ns,.int .i64 x.1.w,.int .i64 x.1.bud,AV.sl true 0 1 (List UInt8) Ag (xW x).ls,.int .i64 (xW x).st],.agg [.int .i64 e.kind,.str e.text,Ad e.kids,.bool e.blank],.int .i64 x.2.2.2.2] fun x_1 y=>rA (FW n m) x [.tup [],.box 0 [nds x_1.1.ns,.int .i64 x_1.1.w,.int .i64 x_1.1.bud,AV.sl true 0 1 (List UInt8) Ag (yW y).ls,.int .i64 (yW y).st],.top,.top]) (Ab (e.kind==(21:Int)) ((↑((6:Nat)+List.length e.text):Int)≤IntKind.max IntKind.i64∧(↑(List.length (#[(99:UInt8),(108:UInt8),(97:UInt8),(115:UInt8),(115:UInt8),(32:UInt8)].toList++e.text)+(2:Nat)):Int)≤IntKind.max IntKind.i64∧cA DE [.box 0 [nds x.1.ns,.int .i64 x.1.w,.int .i64 x.1.bud,AV.sl true 0 1 (List UInt8) Ag (xW x).ls,.int .i64 (xW x).st],.int .i64 x.2.2.2.2,.str (#[(99:UInt8),(108:UInt8),(97:UInt8),(115:UInt8),(115:UInt8),(32:UInt8)].toList++e.text++ #[(32:UInt8),(123:UInt8)].toList)] fun x_1 y=>inR IntKind.i64 (x.2.2.2.2+(2:Int))∧cA (Iz n m) [.box 0 [nds x_1.1.ns,.int .i64 x_1.1.w,.int .i64 x_1.1.bud,AV.sl true 0 1 (List UInt8) Ag (yW y).ls,.int .i64 (yW y).st],Ad e.kids,.int .i64 (x.2.2.2.2+(2:Int))] fun x_2 y=>cA DE [.box 0 [nds x_2.1.ns,.int .i64 x_2.1.w,.int .i64 x_2.1.bud,AV.sl true 0 1 (List UInt8) Ag (yW y).ls,.int .i64 (yW y).st],.int .i64 x.2.2.2.2,.str #[(125:UInt8)].toList] fun x_3 y=>rA (FW n m) x [.tup [],.box 0 [nds x_3.1.ns,.int .i64 x_3.1.w,.int .i64 x_3.1.bud,AV.sl true 0 1 (List UInt8) Ag (yW y).ls,.int .i64 (yW y).st],.top,.top]) (rA (FW n m) x [.tup [],.box 0 [nds x.1.ns,.int .i64 x.1.w,.int .i64 x.1.bud,AV.sl true 0 1 (List UInt8) Ag (xW x).ls,.int .i64 (xW x).st],.top,.top])))))))))) (fun x=>by kernel_rfl) fun(x:WC×List (List UInt8)×Int×Int×Int) (hx:ndP x.1 n (m+1) (xW x) x.2.2.2.1 x.2.2.2.2)=>(by
 dsimp only[cA,Bl,Ad,Bi,nds,pcA,rA,Bj,Iz,Hg,DE,MZ,FW,GG,HJ,Bm,Bn,wrA,Aq,Aw,mvL,lnL,mvE,lnE,mvG,mvH,lnG,lnH]
 obtain⟨c,ls,st,k,i⟩:=x;dsimp only[xW] at hx ⊢
 have hx:ndP c n (m+1) ⟨ls,st⟩ k i:=hx
 have hn:=HH hx;have hr:=Pb hx;dsimp only at hr
 have hz:=a5P hx.v;have hk1:=SC hx;have htx:=a5O hx.v
 simp only[hz,Option.some.injEq,forall_eq']
 (repeat' first|(with_reducible first|rfl|exact True.intro|apply AG|apply And.intro|((first|apply Au|apply AE|apply Av|apply AF)<;>intro _))|(apply As<;>intro _)|apply AD|refine Af () ?_ ?_|((first|apply AK|apply AJ|apply AI|apply AH|apply AC|apply AB|apply AA|apply Az|apply Ax)<;>try dsimp only)|apply Af|(refine Prod.forall.2 ?_;intro _;try dsimp only)|(intro _;try dsimp only))
 all_goals(try dsimp only[yW,xW] at*)
 all_goals(try(have hg3:=b7X hx ‹_› ‹_›))
 all_goals first
  |with_reducible rfl
  |with_reducible assumption
  |omega
  |((try simp only[Aj,List.length_append,List.length_cons,List.length_nil]);omega)
  |(have hq:=hr.2 (by omega);omega)
  |exact a6g ‹_› ‹_›
  |exact b7N hx ‹_›
  |exact b7R ‹_› ‹_›
  |exact b7O hx ‹_›
  |exact b7S ‹_› hx ‹_›
  |exact b7P hx ‹_›
  |exact b7T ‹_› hx ‹_›
  |exact b7Q hx ‹_›
  |exact b7U ‹_› ‹_›
  |exact b7V hx ‹_›
  |exact b7W ‹_› ‹_›
  |exact XU hx ‹_› ‹_›
  |exact a6o ‹_› ‹_› ‹_› hx ‹_›
  |exact a6r ‹_› ‹_› ‹_› ‹_› ‹_› ‹_› hx ‹_› hg3
  |exact a6u ‹_› ‹_› ‹_› ‹_› ‹_› ‹_› ‹_› ‹_› ‹_› hg3
  |exact a6v ‹_› ‹_› ‹_› ‹_› ‹_› ‹_› (by omega)
  |exact SB hx ‹_› ‹_›
  |exact a6w ‹_› ‹_› ‹_› hx ‹_›
  |exact a6y ‹_› ‹_› ‹_› ‹_› ‹_› ‹_›
  |exact a6A ‹_› hx ‹_›
  |exact a6C ‹_› ‹_› ‹_› ‹_›
  |(have hq:=a6t ‹_› ‹_› ‹_› ‹_› ‹_› ‹_› ‹_› hx ‹_› hg3;dsimp only at hq;omega)
  |(have hq:=a6p ‹_› ‹_› ‹_› ‹_› hx ‹_›;dsimp only at hq;omega)
  |(have hq:=a6x ‹_› ‹_› ‹_› ‹_› hx ‹_›;dsimp only at hq;omega)
  |(have hq:=a6B ‹_› ‹_› hx ‹_›;dsimp only at hq;omega)
  |(have hq:=Sz hx (by omega);(try simp only[Aj,List.length_append,List.length_cons,List.length_nil]);omega)
  |(exfalso;exact a6D hx (by omega))
  |exact()
  |rfl
  |skip)
def SH(n m:Nat)(x:WC×List (List UInt8)×Int×Int×Int):LS:= {ι:=List (List UInt8)×Int,inv:=fun j=>AR (wN x.1 n (m+1) x.2.2.2.1 x.2.2.2.2 (xW x)) (yW j),regs:=fun j=>[(0,wrA x.1 (yW j))],als:=[],meas:=fun _=>0}
def Yc(x:WC×List (List UInt8)×Int×Int×Int):LS:= {ι:=List (List UInt8)×Int,inv:=fun j=>AR (Bv x.2.2.2.2 (hdT x.1.ns (Aa x.1.ns x.2.2.2.1)) (xW x)) (yW j)∧(Aa x.1.ns x.2.2.2.1).kind=20,regs:=fun j=>[(0,wrA x.1 (yW j)),(2,.int .i64 x.2.2.2.2),(6,.box 0 (ndA false (Aa x.1.ns x.2.2.2.1)))],als:=[],meas:=fun _=>0}
def Fk(n m:Nat):Sig:= {X:=WC×List (List UInt8)×Int×Int×Int,args:=fun x=>[wrA x.1 (xW x),.int .i64 x.2.2.2.1,.int .i64 x.2.2.2.2],pre:=fun x=>ndP x.1 n (m+1) (xW x) x.2.2.2.1 x.2.2.2.2,Y:=List (List UInt8)×Int,post:=fun x y=>AR (wN x.1 n (m+1) x.2.2.2.1 x.2.2.2.2 (xW x)) (yW y),res:=fun x y=> .tup [],outs:=fun x y=>[wrA x.1 (yW y),.top,.top],keep:=true}
def Yd(x:WC×List (List UInt8)×Int×Int×Int)(e:Nd):Prop:=cA MU [nds x.1.ns,.agg [.int .i64 e.kind,.str e.text,Ad e.kids,.bool e.blank]] fun x_1 y=>cA DU [.box 0 [nds x.1.ns,.int .i64 x.1.w,.int .i64 x.1.bud,AV.sl true 0 1 (List UInt8) Ag (xW x).ls,.int .i64 (xW x).st],.int .i64 x.2.2.2.2,.str (hdT x_1.1 x_1.2)] fun x_2 y=>true=true∧(eA (Yc x) [.box 0 [nds x_2.1.ns,.int .i64 x_2.1.w,.int .i64 x_2.1.bud,AV.sl true 0 1 (List UInt8) Ag (yW y).ls,.int .i64 (yW y).st],.int .i64 x.2.2.2.2,.box 0 [.int .i64 e.kind,.str e.text,Ad e.kids,.bool e.blank]])
def Pf(n:Nat)(m:Nat)(x:WC×List (List UInt8)×Int×Int×Int)(x_1:(Eu n).X)(y:(Eu n).Y):Prop:=eA (SH n m x) [.box 0 [nds x_1.1.ns,.int .i64 x_1.1.w,.int .i64 x_1.1.bud,AV.sl true 0 1 (List UInt8) Ag (yW y).ls,.int .i64 (yW y).st]]
set_option maxHeartbeats 8000000 in
theorem b7Z(n m:Nat)(hc:Ah G Go.Proofs.Tryz.prog 61 (FV n m)):Ah G Tryz.prog 61 (Fk n m):=
 vcFun_okP [(99,0,DU),(100,0,(Eu n)),(101,0,(Iy n m)),(71,0,(Ix n m)),(102,0,MU)] [] false (fun x=>[(100007,SH n m x),(100009,SH n m x),(100028,Yc x)]) Tryz.func61 rfl (by decide) ⟨a5J,(b7h n),(b7i n m hc),(a6b n m hc),b7o,trivial⟩ (fun(x:WC×List (List UInt8)×Int×Int×Int)=>True∧((0:Int)≤x.2.2.2.1∧x.2.2.2.1<(↑(List.length x.1.ns):Int))∧∀(e:Nd),x.1.ns[Int.toNat x.2.2.2.1]? =some e→Ab (e.kind==(19:Int)) (cA DU [.box 0 [nds x.1.ns,.int .i64 x.1.w,.int .i64 x.1.bud,AV.sl true 0 1 (List UInt8) Ag (xW x).ls,.int .i64 (xW x).st],.int .i64 x.2.2.2.2,.str e.text] fun x_1 y=>rA (Fk n m) x [.tup [],.box 0 [nds x_1.1.ns,.int .i64 x_1.1.w,.int .i64 x_1.1.bud,AV.sl true 0 1 (List UInt8) Ag (yW y).ls,.int .i64 (yW y).st],.top,.top]) (Ab (e.kind==(12:Int)) (Ab ((↑(List.length e.kids):Int)==(0:Int)) ((↑((4:Nat)+List.length e.text):Int)≤IntKind.max IntKind.i64∧(↑(List.length (#[(118:UInt8),(97:UInt8),(114:UInt8),(32:UInt8)].toList++e.text)+(1:Nat)):Int)≤IntKind.max IntKind.i64∧cA DU [.box 0 [nds x.1.ns,.int .i64 x.1.w,.int .i64 x.1.bud,AV.sl true 0 1 (List UInt8) Ag (xW x).ls,.int .i64 (xW x).st],.int .i64 x.2.2.2.2,.str (#[(118:UInt8),(97:UInt8),(114:UInt8),(32:UInt8)].toList++e.text++ #[(59:UInt8)].toList)] fun x_1 y=>rA (Fk n m) x [.tup [],.box 0 [nds x_1.1.ns,.int .i64 x_1.1.w,.int .i64 x_1.1.bud,AV.sl true 0 1 (List UInt8) Ag (yW y).ls,.int .i64 (yW y).st],.top,.top]) (true=true∧(((↑((4:Nat)+List.length e.text):Int)≤IntKind.max IntKind.i64∧(↑(List.length (#[(118:UInt8),(97:UInt8),(114:UInt8),(32:UInt8)].toList++e.text)+(2:Nat)):Int)≤IntKind.max IntKind.i64∧((0:Int)≤(0:Int)∧(0:Int)<(↑(List.length e.kids):Int))∧∀(e_1:Int),e.kids[(0:Nat)]? =some e_1→cA (Eu n) [.box 0 [nds x.1.ns,.int .i64 x.1.w,.int .i64 x.1.bud,AV.sl true 0 1 (List UInt8) Ag (xW x).ls,.int .i64 (xW x).st],.str (#[(118:UInt8),(97:UInt8),(114:UInt8),(32:UInt8)].toList++e.text++ #[(32:UInt8),(61:UInt8)].toList),.int .i64 e_1,.str #[(59:UInt8)].toList,.int .i64 x.2.2.2.2] fun x_1 y=>true=true∧(Pf n m x x_1 y))∧((0:Int)≤(0:Int)∧(0:Int)<(↑(List.length e.kids):Int))∧∀(e_1:Int),e.kids[(0:Nat)]? =some e_1→(↑((4:Nat)+List.length e.text):Int)≤IntKind.max IntKind.i64∧(↑(List.length (#[(118:UInt8),(97:UInt8),(114:UInt8),(32:UInt8)].toList++e.text)+(2:Nat)):Int)≤IntKind.max IntKind.i64∧cA (Eu n) [.box 0 [nds x.1.ns,.int .i64 x.1.w,.int .i64 x.1.bud,AV.sl true 0 1 (List UInt8) Ag (xW x).ls,.int .i64 (xW x).st],.str (#[(118:UInt8),(97:UInt8),(114:UInt8),(32:UInt8)].toList++e.text++ #[(32:UInt8),(61:UInt8)].toList),.int .i64 e_1,.str #[(59:UInt8)].toList,.int .i64 x.2.2.2.2] fun x_1 y=>true=true∧(Pf n m x x_1 y))∧(∀(i:List (List UInt8)×Int),AR (wN x.1 n (m+(1:Nat)) x.2.2.2.1 x.2.2.2.2 (xW x)) (yW i)→rA (Fk n m) x [.tup [],.box 0 [nds x.1.ns,.int .i64 x.1.w,.int .i64 x.1.bud,AV.sl true 0 1 (List UInt8) Ag (yW i).ls,.int .i64 (yW i).st],.top,.top]))) (Ab (e.kind==(13:Int)) (true=true∧(((↑(List.length e.text+(2:Nat)):Int)≤IntKind.max IntKind.i64∧((0:Int)≤(0:Int)∧(0:Int)<(↑(List.length e.kids):Int))∧∀(e_1:Int),e.kids[(0:Nat)]? =some e_1→cA (Eu n) [.box 0 [nds x.1.ns,.int .i64 x.1.w,.int .i64 x.1.bud,AV.sl true 0 1 (List UInt8) Ag (xW x).ls,.int .i64 (xW x).st],.str (e.text++ #[(32:UInt8),(61:UInt8)].toList),.int .i64 e_1,.str #[(59:UInt8)].toList,.int .i64 x.2.2.2.2] fun x_1 y=>true=true∧(Pf n m x x_1 y))∧((0:Int)≤(0:Int)∧(0:Int)<(↑(List.length e.kids):Int))∧∀(e_1:Int),e.kids[(0:Nat)]? =some e_1→(↑(List.length e.text+(2:Nat)):Int)≤IntKind.max IntKind.i64∧cA (Eu n) [.box 0 [nds x.1.ns,.int .i64 x.1.w,.int .i64 x.1.bud,AV.sl true 0 1 (List UInt8) Ag (xW x).ls,.int .i64 (xW x).st],.str (e.text++ #[(32:UInt8),(61:UInt8)].toList),.int .i64 e_1,.str #[(59:UInt8)].toList,.int .i64 x.2.2.2.2] fun x_1 y=>true=true∧(Pf n m x x_1 y))∧(∀(i:List (List UInt8)×Int),AR (wN x.1 n (m+(1:Nat)) x.2.2.2.1 x.2.2.2.2 (xW x)) (yW i)→rA (Fk n m) x [.tup [],.box 0 [nds x.1.ns,.int .i64 x.1.w,.int .i64 x.1.bud,AV.sl true 0 1 (List UInt8) Ag (yW i).ls,.int .i64 (yW i).st],.top,.top])) (Ab (e.kind==(14:Int)) (((0:Int)≤(0:Int)∧(0:Int)<(↑(List.length e.kids):Int))∧∀(e_1:Int),e.kids[(0:Nat)]? =some e_1→cA (Eu n) [.box 0 [nds x.1.ns,.int .i64 x.1.w,.int .i64 x.1.bud,AV.sl true 0 1 (List UInt8) Ag (xW x).ls,.int .i64 (xW x).st],.str #[].toList,.int .i64 e_1,.str #[(59:UInt8)].toList,.int .i64 x.2.2.2.2] fun x_1 y=>rA (Fk n m) x [.tup [],.box 0 [nds x_1.1.ns,.int .i64 x_1.1.w,.int .i64 x_1.1.bud,AV.sl true 0 1 (List UInt8) Ag (yW y).ls,.int .i64 (yW y).st],.top,.top]) (Ab (e.kind==(15:Int)) (Ab ((↑(List.length e.kids):Int)==(0:Int)) (cA DU [.box 0 [nds x.1.ns,.int .i64 x.1.w,.int .i64 x.1.bud,AV.sl true 0 1 (List UInt8) Ag (xW x).ls,.int .i64 (xW x).st],.int .i64 x.2.2.2.2,.str #[(114:UInt8),(101:UInt8),(116:UInt8),(117:UInt8),(114:UInt8),(110:UInt8),(59:UInt8)].toList] fun x_1 y=>rA (Fk n m) x [.tup [],.box 0 [nds x_1.1.ns,.int .i64 x_1.1.w,.int .i64 x_1.1.bud,AV.sl true 0 1 (List UInt8) Ag (yW y).ls,.int .i64 (yW y).st],.top,.top]) (((0:Int)≤(0:Int)∧(0:Int)<(↑(List.length e.kids):Int))∧∀(e_1:Int),e.kids[(0:Nat)]? =some e_1→cA (Eu n) [.box 0 [nds x.1.ns,.int .i64 x.1.w,.int .i64 x.1.bud,AV.sl true 0 1 (List UInt8) Ag (xW x).ls,.int .i64 (xW x).st],.str #[(114:UInt8),(101:UInt8),(116:UInt8),(117:UInt8),(114:UInt8),(110:UInt8),(32:UInt8)].toList,.int .i64 e_1,.str #[(59:UInt8)].toList,.int .i64 x.2.2.2.2] fun x_1 y=>rA (Fk n m) x [.tup [],.box 0 [nds x_1.1.ns,.int .i64 x_1.1.w,.int .i64 x_1.1.bud,AV.sl true 0 1 (List UInt8) Ag (yW y).ls,.int .i64 (yW y).st],.top,.top])) (Ab (e.kind==(16:Int)) (((0:Int)≤(0:Int)∧(0:Int)<(↑(List.length e.kids):Int))∧∀(e_1:Int),e.kids[(0:Nat)]? =some e_1→cA (Eu n) [.box 0 [nds x.1.ns,.int .i64 x.1.w,.int .i64 x.1.bud,AV.sl true 0 1 (List UInt8) Ag (xW x).ls,.int .i64 (xW x).st],.str #[(105:UInt8),(102:UInt8),(32:UInt8),(40:UInt8)].toList,.int .i64 e_1,.str #[(41:UInt8),(32:UInt8),(123:UInt8)].toList,.int .i64 x.2.2.2.2] fun x_1 y=>((0:Int)≤(1:Int)∧(1:Int)<(↑(List.length e.kids):Int))∧∀(e_2:Int),e.kids[(1:Nat)]? =some e_2→cA (Iy n m) [.box 0 [nds x_1.1.ns,.int .i64 x_1.1.w,.int .i64 x_1.1.bud,AV.sl true 0 1 (List UInt8) Ag (yW y).ls,.int .i64 (yW y).st],.int .i64 e_2,.int .i64 x.2.2.2.2] fun x_2 y=>Ab ((↑(List.length e.kids):Int)==(3:Int)) (cA DU [.box 0 [nds x_2.1.ns,.int .i64 x_2.1.w,.int .i64 x_2.1.bud,AV.sl true 0 1 (List UInt8) Ag (yW y).ls,.int .i64 (yW y).st],.int .i64 x.2.2.2.2,.str #[(125:UInt8),(32:UInt8),(101:UInt8),(108:UInt8),(115:UInt8),(101:UInt8),(32:UInt8),(123:UInt8)].toList] fun x_3 y=>((0:Int)≤(2:Int)∧(2:Int)<(↑(List.length e.kids):Int))∧∀(e_3:Int),e.kids[(2:Nat)]? =some e_3→cA (Iy n m) [.box 0 [nds x_3.1.ns,.int .i64 x_3.1.w,.int .i64 x_3.1.bud,AV.sl true 0 1 (List UInt8) Ag (yW y).ls,.int .i64 (yW y).st],.int .i64 e_3,.int .i64 x.2.2.2.2] fun x_4 y=>cA DU [.box 0 [nds x_4.1.ns,.int .i64 x_4.1.w,.int .i64 x_4.1.bud,AV.sl true 0 1 (List UInt8) Ag (yW y).ls,.int .i64 (yW y).st],.int .i64 x.2.2.2.2,.str #[(125:UInt8)].toList] fun x_5 y=>rA (Fk n m) x [.tup [],.box 0 [nds x_5.1.ns,.int .i64 x_5.1.w,.int .i64 x_5.1.bud,AV.sl true 0 1 (List UInt8) Ag (yW y).ls,.int .i64 (yW y).st],.top,.top]) (cA DU [.box 0 [nds x_2.1.ns,.int .i64 x_2.1.w,.int .i64 x_2.1.bud,AV.sl true 0 1 (List UInt8) Ag (yW y).ls,.int .i64 (yW y).st],.int .i64 x.2.2.2.2,.str #[(125:UInt8)].toList] fun x_3 y=>rA (Fk n m) x [.tup [],.box 0 [nds x_3.1.ns,.int .i64 x_3.1.w,.int .i64 x_3.1.bud,AV.sl true 0 1 (List UInt8) Ag (yW y).ls,.int .i64 (yW y).st],.top,.top])) (Ab (e.kind==(17:Int)) (((0:Int)≤(0:Int)∧(0:Int)<(↑(List.length e.kids):Int))∧∀(e_1:Int),e.kids[(0:Nat)]? =some e_1→cA (Eu n) [.box 0 [nds x.1.ns,.int .i64 x.1.w,.int .i64 x.1.bud,AV.sl true 0 1 (List UInt8) Ag (xW x).ls,.int .i64 (xW x).st],.str #[(119:UInt8),(104:UInt8),(105:UInt8),(108:UInt8),(101:UInt8),(32:UInt8),(40:UInt8)].toList,.int .i64 e_1,.str #[(41:UInt8),(32:UInt8),(123:UInt8)].toList,.int .i64 x.2.2.2.2] fun x_1 y=>((0:Int)≤(1:Int)∧(1:Int)<(↑(List.length e.kids):Int))∧∀(e_2:Int),e.kids[(1:Nat)]? =some e_2→cA (Iy n m) [.box 0 [nds x_1.1.ns,.int .i64 x_1.1.w,.int .i64 x_1.1.bud,AV.sl true 0 1 (List UInt8) Ag (yW y).ls,.int .i64 (yW y).st],.int .i64 e_2,.int .i64 x.2.2.2.2] fun x_2 y=>cA DU [.box 0 [nds x_2.1.ns,.int .i64 x_2.1.w,.int .i64 x_2.1.bud,AV.sl true 0 1 (List UInt8) Ag (yW y).ls,.int .i64 (yW y).st],.int .i64 x.2.2.2.2,.str #[(125:UInt8)].toList] fun x_3 y=>rA (Fk n m) x [.tup [],.box 0 [nds x_3.1.ns,.int .i64 x_3.1.w,.int .i64 x_3.1.bud,AV.sl true 0 1 (List UInt8) Ag (yW y).ls,.int .i64 (yW y).st],.top,.top]) (Ab (e.kind==(20:Int)) (true=true∧((Yd x e)∧(Yd x e))∧∀(i:List (List UInt8)×Int),AR (Bv x.2.2.2.2 (hdT x.1.ns (Aa x.1.ns x.2.2.2.1)) (xW x)) (yW i)∧(Aa x.1.ns x.2.2.2.1).kind=(20:Int)→inR IntKind.i64 ((↑(List.length (Aa x.1.ns x.2.2.2.1).kids):Int)-(1:Int))∧((0:Int)≤(↑(List.length (Aa x.1.ns x.2.2.2.1).kids):Int)-(1:Int)∧(↑(List.length (Aa x.1.ns x.2.2.2.1).kids):Int)-(1:Int)<(↑(List.length (Aa x.1.ns x.2.2.2.1).kids):Int))∧∀(e:Int),(Aa x.1.ns x.2.2.2.1).kids[Int.toNat ((↑(List.length (Aa x.1.ns x.2.2.2.1).kids):Int)-(1:Int))]? =some e→cA (Iy n m) [.box 0 [nds x.1.ns,.int .i64 x.1.w,.int .i64 x.1.bud,AV.sl true 0 1 (List UInt8) Ag (yW i).ls,.int .i64 (yW i).st],.int .i64 e,.int .i64 x.2.2.2.2] fun x_1 y=>cA DU [.box 0 [nds x_1.1.ns,.int .i64 x_1.1.w,.int .i64 x_1.1.bud,AV.sl true 0 1 (List UInt8) Ag (yW y).ls,.int .i64 (yW y).st],.int .i64 x.2.2.2.2,.str #[(125:UInt8)].toList] fun x_2 y=>rA (Fk n m) x [.tup [],.box 0 [nds x_2.1.ns,.int .i64 x_2.1.w,.int .i64 x_2.1.bud,AV.sl true 0 1 (List UInt8) Ag (yW y).ls,.int .i64 (yW y).st],.top,.top]) (Ab (e.kind==(21:Int)) ((↑((6:Nat)+List.length e.text):Int)≤IntKind.max IntKind.i64∧(↑(List.length (#[(99:UInt8),(108:UInt8),(97:UInt8),(115:UInt8),(115:UInt8),(32:UInt8)].toList++e.text)+(2:Nat)):Int)≤IntKind.max IntKind.i64∧cA DU [.box 0 [nds x.1.ns,.int .i64 x.1.w,.int .i64 x.1.bud,AV.sl true 0 1 (List UInt8) Ag (xW x).ls,.int .i64 (xW x).st],.int .i64 x.2.2.2.2,.str (#[(99:UInt8),(108:UInt8),(97:UInt8),(115:UInt8),(115:UInt8),(32:UInt8)].toList++e.text++ #[(32:UInt8),(123:UInt8)].toList)] fun x_1 y=>inR IntKind.i64 (x.2.2.2.2+(2:Int))∧cA (Ix n m) [.box 0 [nds x_1.1.ns,.int .i64 x_1.1.w,.int .i64 x_1.1.bud,AV.sl true 0 1 (List UInt8) Ag (yW y).ls,.int .i64 (yW y).st],Ad e.kids,.int .i64 (x.2.2.2.2+(2:Int))] fun x_2 y=>cA DU [.box 0 [nds x_2.1.ns,.int .i64 x_2.1.w,.int .i64 x_2.1.bud,AV.sl true 0 1 (List UInt8) Ag (yW y).ls,.int .i64 (yW y).st],.int .i64 x.2.2.2.2,.str #[(125:UInt8)].toList] fun x_3 y=>rA (Fk n m) x [.tup [],.box 0 [nds x_3.1.ns,.int .i64 x_3.1.w,.int .i64 x_3.1.bud,AV.sl true 0 1 (List UInt8) Ag (yW y).ls,.int .i64 (yW y).st],.top,.top]) (rA (Fk n m) x [.tup [],.box 0 [nds x.1.ns,.int .i64 x.1.w,.int .i64 x.1.bud,AV.sl true 0 1 (List UInt8) Ag (xW x).ls,.int .i64 (xW x).st],.top,.top])))))))))) (fun x=>by kernel_rfl) fun(x:WC×List (List UInt8)×Int×Int×Int) (hx:ndP x.1 n (m+1) (xW x) x.2.2.2.1 x.2.2.2.2)=>(by
 dsimp only[Pf,Yd,cA,eA,Ad,Bi,Yc,SH,nds,Cu,rA,Ix,Iy,MU,DU,Fk,Eu,wrA,Aq,Aw,mvL,lnL,mvE,lnE,mvG,mvH,lnG,lnH,Ba]
 obtain⟨c,ls,st,k,i⟩:=x;dsimp only[xW] at hx ⊢
 have hx:ndP c n (m+1) ⟨ls,st⟩ k i:=hx
 have hn:=HH hx;have hr:=Pb hx;dsimp only at hr
 have hz:=a5P hx.v;have hk1:=SC hx;have htx:=a5O hx.v
 simp only[hz,Option.some.injEq,forall_eq']
 (repeat' first|(with_reducible first|rfl|exact True.intro|apply AG|apply And.intro|((first|apply Au|apply AE|apply Av|apply AF)<;>intro _))|(apply As<;>intro _)|apply AD|refine Af () ?_ ?_|((first|apply AK|apply AJ|apply AI|apply AH|apply AC|apply AB|apply AA|apply Az|apply Ax)<;>try dsimp only)|apply Af|(refine Prod.forall.2 ?_;intro _;try dsimp only)|(intro _;try dsimp only))
 all_goals(try dsimp only[yW,xW] at*)
 all_goals first
  |with_reducible rfl
  |with_reducible assumption
  |omega
  |((try simp only[Aj,List.length_append,List.length_cons,List.length_nil]);omega)
  |(have hq:=hr.2 (by omega);omega)
  |exact a6g ‹_› ‹_›
  |exact a6h hx ‹_› ‹_›
  |exact b7p ‹_› ‹_› ‹_› ‹_›
  |exact b7q ‹_› ‹_› ‹_›
  |exact a6i hx ‹_› ‹_›
  |exact b7r ‹_› ‹_› ‹_›
  |exact a6j hx ‹_› ‹_›
  |exact b7s ‹_› ‹_› ‹_›
  |exact a6k hx ‹_› ‹_›
  |exact b7t ‹_› ‹_› ‹_› ‹_›
  |exact b7u ‹_› ‹_› ‹_›
  |exact XU hx ‹_› ‹_›
  |exact a6o ‹_› ‹_› ‹_› hx ‹_›
  |exact a6r ‹_› ‹_› ‹_› ‹_› ‹_› ‹_› hx ‹_› ‹_›
  |exact a6u ‹_› ‹_› ‹_› ‹_› ‹_› ‹_› ‹_› ‹_› ‹_› ‹_›
  |exact a6v ‹_› ‹_› ‹_› ‹_› ‹_› ‹_› ‹_›
  |exact SB hx ‹_› ‹_›
  |exact a6w ‹_› ‹_› ‹_› hx ‹_›
  |exact a6y ‹_› ‹_› ‹_› ‹_› ‹_› ‹_›
  |exact XX hx ‹_›
  |exact XY (show AR _ _∧_ by assumption).1 ‹_› hx ‹_›
  |exact XY (show AR _ _∧_ by assumption).1 ‹_› hx (show AR _ _∧_ by assumption).2
  |exact b7y ‹_› ‹_› (show AR _ _∧_ by assumption).1 ‹_› hx (show AR _ _∧_ by assumption).2
  |exact a6A ‹_› hx ‹_›
  |exact a6C ‹_› ‹_› ‹_› ‹_›
  |(have hq:=a6t ‹_› ‹_› ‹_› ‹_› ‹_› ‹_› ‹_› hx ‹_› ‹_›;dsimp only at hq;omega)
  |(have hq:=a6p ‹_› ‹_› ‹_› ‹_› hx ‹_›;dsimp only at hq;omega)
  |(have hq:=a6x ‹_› ‹_› ‹_› ‹_› hx ‹_›;dsimp only at hq;omega)
  |(have hq:=a6z ‹_› (show AR _ _∧_ by assumption).1 ‹_› hx (show AR _ _∧_ by assumption).2;dsimp only at hq;omega)
  |(have hq:=a6B ‹_› ‹_› hx ‹_›;dsimp only at hq;omega)
  |(have hq:=b7x (XX hx ‹_›);omega)
  |(have hq:=Sz hx (by omega);(try simp only[Aj,List.length_append,List.length_cons,List.length_nil]);omega)
  |(exfalso;exact a6D hx (by omega))
  |exact⟨by assumption,by assumption⟩
  |exact()
  |rfl
  |skip)
theorem b8a{n:Nat}:Ah G Go.Proofs.Tryz.prog 61 (FV n 0):=
 ⟨⟨⟨_,Go.Proofs.Tryz.func61,by kernel_rfl,by kernel_rfl⟩,fun x y _ _=>trivial⟩,fun x hx=>by
   exfalso
   have hx:ndP x.1 n 0 (xW x) x.2.2.2.1 x.2.2.2.2:=hx
   have h1:=Bc.1 hx.v.up.1
   have h2:=hx.v.lt
   omega⟩
theorem a6K{n:Nat}:∀m,Ah G Go.Proofs.Tryz.prog 61 (FV n m)
 |0=>b8a
 |m+1=>b7Z n m (a6K m)
structure trN (ns:List Nd) (n:Nat):Prop where
 ok:CZ ns
 l30:ns.length≤2^30
 ln:ns.length≤n
 tx:txS ns≤1048576
def FX(ns:List Nd)(k i:Int):Bool:=(Bf ns k&&(inn i 0 40&& !decide (BM ns k=0)))&&Fy (Al ns k)
def wnR(ns:List Nd)(n:Nat)(k i w bud:Int):Ws:=if FX ns k i then wN ⟨ns,w,bud⟩ n n k i ⟨[],1⟩ else⟨[],0⟩
theorem SI{ns:List Nd}{n:Nat}{k i w bud:Int}(h:FX ns k i=false):wnR ns n k i w bud=⟨[],0⟩:=by rw[wnR,if_neg (by rw[h];simp)]
theorem a6L{ns:List Nd}{n:Nat}{k i w bud:Int}(h:(Bf ns k=false∨inn i 0 40=false)∨BM ns k=0):wnR ns n k i w bud=⟨[],0⟩:=SI (by
 rcases h with(h|h)|h<;>simp [FX,h])
theorem b8b{ns:List Nd}{n:Nat}{k i w bud:Int}{e:Nd}(he:ns[k.toNat]? =some e)(h1:Gm e.kind=false)(h2:CF e.kind=false)(h3:e.kind≠21):wnR ns n k i w bud=⟨[],0⟩:=SI (by
 rw[FX,Eg he,Fy,CM,h1,h2,decide_eq_false h3]
 have h19:¬e.kind=19:=fun e2=>by rw[CF,e2] at h2;simp at h2
 rw[decide_eq_false h19];simp)
theorem b8c{ns:List Nd}{n:Nat}{k i w bud:Int}{e:Nd}(h1:Bf ns k=true)(h2:inn i 0 40=true)(h3:¬BM ns k=0)(he:ns[k.toNat]? =some e)(h4:(Gm e.kind=true∨CF e.kind=true)∨e.kind=21):FX ns k i=true:=by
 have:Fy (Al ns k)=true:=by
  rw[Eg he,Fy,CM]
  rcases h4 with(h|h)|h
  ·rw[h];simp
  ·rw[h];simp
  ·rw[h];simp
 rw[FX,h1,h2,this,decide_eq_false h3];rfl
theorem Ye{ns:List Nd}{n:Nat}{k i w bud:Int}(hx:trN ns n)(h:FX ns k i=true):ndP ⟨ns,w,bud⟩ n n ⟨[],1⟩ k i:=by
 simp only[FX,Bool.and_eq_true,Bool.not_eq_true',decide_eq_false_iff_not] at h
 obtain⟨⟨h1,h2,h3⟩,h4⟩:=h
 have hr:=Bc.1 h1
 have hi:=BA.1 h2
 obtain⟨_,⟨ds,hd⟩,_⟩:=UT h3
 have hat:=(Je hd k.toNat (by omega)).1
 have hl:=hx.ln
 have hup:BB ns k:=HX h3
 refine⟨⟨⟨hx.ok,hx.l30,hx.ln,hx.tx⟩,hup,by omega,h4,⟨k.toNat+1,ds,hd,by omega,?_⟩,by omega⟩,?_⟩
 ·show i+ds.getD k.toNat 0+(if Al ns k=21 then 1 else 0)≤59
  split<;>omega
 ·have:=b6o hd (m:=n) hup (by omega) (by omega) h4
  show 0+wW ns n k≤_
  omega
theorem SJ{ns:List Nd}{n:Nat}{k i w bud:Int}{t:Ws}(h:FX ns k i=true)(ht:AR (wN ⟨ns,w,bud⟩ n n k i ⟨[],1⟩) t):t=wnR ns n k i w bud:=by rw[wnR,if_pos h];exact ht
theorem a6M{β:Type}{q:WC×β→Prop}(c:WC)(h:∃b,q (c,b)):∃x,q x:=let⟨b,hb⟩:=h;⟨(c,b),hb⟩
def Pg(n:Nat):Sig:= {X:=List Nd×Int×Int×Int×Int,args:=fun x=>[nds x.1,.int .i64 x.2.1,.int .i64 x.2.2.1,.int .i64 x.2.2.2.1,.int .i64 x.2.2.2.2],pre:=fun x=>trN x.1 n,Y:=Unit,post:=fun x y=>True,res:=fun x y=> .agg [Cu (wnR x.1 n x.2.1 x.2.2.1 x.2.2.2.1 x.2.2.2.2).ls,.int .i64 (wnR x.1 n x.2.1 x.2.2.1 x.2.2.2.1 x.2.2.2.2).st],outs:=fun x y=>[.top,.top,.top,.top,.top],keep:=false}
theorem b8d(n:Nat):Ah G Tryz.prog 23 (Pg n):=
 vcFun_okP [(57,0,DZ),(36,0,BN),(58,0,Gx),(59,0,Gu),(60,0,ED),(61,0,(FV n n))] [(42,⟨List UInt8,Ag⟩)] false (fun x=>[]) Tryz.func23 rfl (by decide) ⟨NS,GM,a0I,Vj,Qh,(a6K n),trivial⟩ (fun(x:List Nd×Int×Int×Int×Int)=>(∀(y:Unit),True→((∀(x:List UInt8),True∧True)∧True∧True)∧True∧True∧True∧True∧True∧True)∧cA DZ [nds x.1,.int .i64 x.2.1] fun x_1 y=>Ab (!Bf x_1.1 x_1.2) (∃(y:Unit),True∧((wnR x.1 n x.2.1 x.2.2.1 x.2.2.2.1 x.2.2.2.2).ls=[]∧(0:Int)=(wnR x.1 n x.2.1 x.2.2.1 x.2.2.2.1 x.2.2.2.2).st∧True)) (cA BN [.int .i64 x.2.2.1,.int .i64 (0:Int),.int .i64 (40:Int)] fun x_2 y=>Ab (!inn x_2.1 x_2.2.1 x_2.2.2) (∃(y:Unit),True∧((wnR x.1 n x.2.1 x.2.2.1 x.2.2.2.1 x.2.2.2.2).ls=[]∧(0:Int)=(wnR x.1 n x.2.1 x.2.2.1 x.2.2.2.1 x.2.2.2.2).st∧True)) (cA Gx [nds x.1,.int .i64 x.2.1] fun x_3 y=>Ab (BM x_3.1 x_3.2==(0:Int)) (∃(y:Unit),True∧((wnR x.1 n x.2.1 x.2.2.1 x.2.2.2.1 x.2.2.2.2).ls=[]∧(0:Int)=(wnR x.1 n x.2.1 x.2.2.1 x.2.2.2.1 x.2.2.2.2).st∧True)) (((0:Int)≤x.2.1∧x.2.1<(↑(List.length x.1):Int))∧∀(e:Nd),x.1[Int.toNat x.2.1]? =some e→cA Gu [.int .i64 e.kind] fun x_4 y=>Ab (!Gm x_4) (cA ED [.int .i64 e.kind] fun x_5 y=>Ab (!CF x_5) (Ab (e.kind != (21:Int)) (∃(y:Unit),True∧((wnR x.1 n x.2.1 x.2.2.1 x.2.2.2.1 x.2.2.2.2).ls=[]∧(0:Int)=(wnR x.1 n x.2.1 x.2.2.1 x.2.2.2.1 x.2.2.2.2).st∧True)) (cA (FV n n) [.box 0 [nds x.1,.int .i64 x.2.2.2.1,.int .i64 x.2.2.2.2,.nil,.int .i64 (1:Int)],.int .i64 x.2.1,.int .i64 x.2.2.1] fun x_6 y=>∃(y_1:Unit),True∧AV.sl true 0 1 (List UInt8) Ag (yW y).ls=AV.sl true 0 1 (List UInt8) Ag (wnR x.1 n x.2.1 x.2.2.1 x.2.2.2.1 x.2.2.2.2).ls∧(yW y).st=(wnR x.1 n x.2.1 x.2.2.1 x.2.2.2.1 x.2.2.2.2).st∧True)) (cA (FV n n) [.box 0 [nds x.1,.int .i64 x.2.2.2.1,.int .i64 x.2.2.2.2,.nil,.int .i64 (1:Int)],.int .i64 x.2.1,.int .i64 x.2.2.1] fun x_6 y=>∃(y_1:Unit),True∧AV.sl true 0 1 (List UInt8) Ag (yW y).ls=AV.sl true 0 1 (List UInt8) Ag (wnR x.1 n x.2.1 x.2.2.1 x.2.2.2.1 x.2.2.2.2).ls∧(yW y).st=(wnR x.1 n x.2.1 x.2.2.1 x.2.2.2.1 x.2.2.2.2).st∧True)) (cA (FV n n) [.box 0 [nds x.1,.int .i64 x.2.2.2.1,.int .i64 x.2.2.2.2,.nil,.int .i64 (1:Int)],.int .i64 x.2.1,.int .i64 x.2.2.1] fun x_5 y=>∃(y_1:Unit),True∧AV.sl true 0 1 (List UInt8) Ag (yW y).ls=AV.sl true 0 1 (List UInt8) Ag (wnR x.1 n x.2.1 x.2.2.1 x.2.2.2.1 x.2.2.2.2).ls∧(yW y).st=(wnR x.1 n x.2.1 x.2.2.1 x.2.2.2.1 x.2.2.2.2).st∧True))))) (fun x=>by kernel_rfl) fun(x:List Nd×Int×Int×Int×Int) (hx:trN x.1 n)=>(by
 dsimp only[cA,Bi,nds,Gx,BN,ED,DZ,Gu,FV,wrA,Aq,Aw,mvL,lnL,mvE,lnE,mvG,mvH,lnG,lnH]
 obtain⟨ns,k,i,w,bud⟩:=x;dsimp only at hx ⊢
 have hx:trN ns n:=hx
 (repeat' first|refine a6M ⟨ns,w,bud⟩ ?_|(with_reducible first|rfl|exact True.intro|apply AG|apply And.intro|((first|apply Au|apply AE|apply Av|apply AF)<;>intro _))|(apply As<;>intro _)|apply AD|refine Af () ?_ ?_|((first|apply AK|apply AJ|apply AI|apply AH|apply AC|apply AB|apply AA|apply Az|apply Ax)<;>try dsimp only)|apply Af|(refine Prod.forall.2 ?_;intro _;try dsimp only)|(intro _;try dsimp only))
 all_goals(try(have hi:=Bc.1 (show Bf ns k=true by assumption)))
 all_goals(try(have hF:= @a6L ns n k i w bud (by first|exact .inl (.inl ‹_›)|exact .inl (.inr ‹_›)|exact .inr ‹_›)))
 all_goals(try(have hF:= @b8b ns n k i w bud _ ‹_› ‹_› ‹_› ‹_›))
 all_goals(try(have hT:= @b8c ns n k i w bud _ ‹_› ‹_› ‹_› ‹_› (by first|exact .inl (.inl ‹_›)|exact .inl (.inr ‹_›)|exact .inr ‹_›)))
 all_goals first
  |with_reducible rfl
  |exact hx.ok
  |exact hx.l30
  |(rw[hF];done)
  |exact Ye hx hT
  |exact congrArg Ws.ls (SJ hT ‹_›)
  |exact congrArg Ws.st (SJ hT ‹_›)
  |exact hx.ok.1
  |omega
  |skip)
def wfR(ns:List Nd)(n:Nat)(w bud:Int):Ws:=if a8K ns then EH ns (wN ⟨ns,w,bud⟩ n n) 0 (Aa ns ((ns.length:Int)-1)).kids ⟨[],1⟩ else⟨[],0⟩
end Go.My
end
