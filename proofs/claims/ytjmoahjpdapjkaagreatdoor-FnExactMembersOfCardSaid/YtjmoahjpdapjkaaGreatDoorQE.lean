/- A part of the proof: the engine and the contracts, joined. -/
import Derived.Test.YtjmoahjpdapjkaaGreatDoorQD
section
set_option linter.unusedVariables false
set_option linter.unusedSimpArgs false
namespace Go.My
open Go.Eng
def Mp(x:List UInt8):SgR:=if CG (x.take 2) then⟨4,x.take 2,(x.take 2).length,true⟩ else if CG (x.take 1) then⟨4,x.take 1,1,true⟩ else⟨0,[],0,false⟩
def Hu(x:List UInt8)(i:Int):Prop:=(0≤i∧i≤2∧i≤x.length)∧Bc x=Mp x∧∀j:Nat,i<j→j≤2→j≤x.length→CG (x.take j)=false
theorem a5M{x:List UInt8}{i:Int}(h:Hu x i)(hx:1≤x.length)(h0:i>0)(hm:CG (x.take i.toNat)=true):Bc x=⟨4,x.take i.toNat,i,true⟩:=by
 obtain⟨⟨h1,h2,h3⟩,h4,h5⟩:=h
 rw[h4]
 have hi:i=1∨i=2:=by omega
 rcases hi with rfl|rfl
 ·by_cases hl:x.length=1
  ·have e:x.take 2=x.take 1:=by rw[List.take_of_length_le (by omega),List.take_of_length_le (by omega)]
   have hm':CG (x.take 1)=true:=hm
   simp only[Mp,e,hm',if_true]
   have:(x.take 1).length=1:=by simp;omega
   rw[this];rfl
  ·have:=h5 2 (by omega) (by omega) (by omega)
   have hm':CG (x.take 1)=true:=hm
   simp only[Mp,this,hm',Bool.false_eq_true,if_false,if_true];rfl
 ·have hm':CG (x.take 2)=true:=hm
  simp only[Mp,hm',if_true]
  have:(x.take 2).length=2:=by simp;omega
  rw[this];rfl
theorem a5N{x:List UInt8}{i:Int}(h:Hu x i)(hx:1≤x.length)(h0:¬i>0):Bc x=⟨0,[],0,false⟩:=by
 obtain⟨⟨h1,h2,h3⟩,h4,h5⟩:=h
 rw[h4]
 have a1:=h5 1 (by omega) (by omega) hx
 have a2:CG (x.take 2)=false:=by
  by_cases hl:x.length=1
  ·have e:x.take 2=x.take 1:=by rw[List.take_of_length_le (by omega),List.take_of_length_le (by omega)]
   rw[e];exact a1
  ·exact h5 2 (by omega) (by omega) (by omega)
 simp only[Mp,a1,a2,Bool.false_eq_true,if_false]
theorem a5O{x:List UInt8}{i:Int}(h:Hu x i)(h0:i>0)(hm:CG (x.take i.toNat)=false):Hu x (i-1):=by
 obtain⟨⟨h1,h2,h3⟩,h4,h5⟩:=h
 refine⟨⟨by omega,by omega,by omega⟩,h4,fun j a b c=> ?_⟩
 by_cases e:(j:Int)=i
 ·have:j=i.toNat:=by omega
  rw[this];exact hm
 ·exact h5 j (by omega) b c
theorem a5P{b:UInt8}{t:List UInt8}(h1:Cu b=false)(h2:Bt b=false)(h3:¬b.toNat=39)(h4:(b::t).take 2≠[47,47]):Hu (b::t) (min 2 ((b::t).length:Int)):=by
 refine⟨⟨by omega,by omega,by omega⟩,?_,fun j a b c=>by omega⟩
 simp only[Bc,h1,h2,h3,h4,Bool.false_eq_true,if_false,Mp]
theorem a5Q{b:UInt8}{t:List UInt8}(h:Cu b=true):Bc (b::t)=⟨1,(b::t).takeWhile BO,((b::t).takeWhile BO).length,decide ((((b::t).takeWhile BO).length:Int)≤30)⟩:=by
 have:decide ((((b::t).takeWhile BO).length:Int)≤30)=decide (((b::t).takeWhile BO).length≤30):=decide_eq_decide.2 (by omega)
 rw[this];simp [Bc,h]
theorem a5R{b:UInt8}{t:List UInt8}(h0:Cu b=false)(h:Bt b=true):Bc (b::t)=⟨2,(b::t).takeWhile Bt,((b::t).takeWhile Bt).length,decide ((((b::t).takeWhile Bt).length:Int)≤12)⟩:=by
 have:decide ((((b::t).takeWhile Bt).length:Int)≤12)=decide (((b::t).takeWhile Bt).length≤12):=decide_eq_decide.2 (by omega)
 rw[this];simp [Bc,h,h0]
theorem a5S{b:UInt8}{t:List UInt8}(h0:Cu b=false)(h1:Bt b=false)(h:(b.toNat:Int)=39):Bc (b::t)=⟨3,(Dw (b::t)).1,(Dw (b::t)).1.length,(Dw (b::t)).2⟩:=by
 have h:b.toNat=39:=by omega
 simp [Bc,h0,h1,h]
theorem a5T{b:UInt8}{t:List UInt8}(h0:Cu b=false)(h1:Bt b=false)(h2:(b.toNat:Int)≠39)(h:(b::t).take 2=[47,47]):
 Bc (b::t)=⟨5,CH ((b::t).takeWhile Cf),((b::t).takeWhile Cf).length,((b::t).takeWhile Cf).all Ck⟩:=by
 have h2:¬b.toNat=39:=by omega
 simp only[Bc,h0,h1,h2,h,Bool.false_eq_true,if_false,if_true]
theorem Yb(s:List UInt8)(c:UInt8):CH (s++[c])=if c.toNat=32 then CH s else s++[c]:=by
 unfold CH
 rw[List.reverse_append]
 simp only[List.reverse_cons,List.reverse_nil,List.nil_append,List.singleton_append,List.dropWhile_cons]
 by_cases h:c.toNat=32
 ·simp [h]
 ·simp [h]
theorem a5U{s:List UInt8}{c:UInt8}(h:s[s.length-1]? =some c):s=s.take (s.length-1)++[c]:=by
 have h1:=DC h
 have:s.length-1+1=s.length:=by
  have:=(List.getElem?_eq_some_iff.1 h).1;omega
 rw[this,List.take_length] at h1
 exact h1
theorem Yc{s:List UInt8}{c:UInt8}(h:s[s.length-1]? =some c):CH s=if c.toNat=32 then CH (s.take (s.length-1)) else s:=by
 have h1:=a5U h
 rw[h1,Yb]
 split
 ·rw[List.length_append];simp
 ·rfl
theorem Yd{s:List UInt8}{n:Nat}{c:UInt8}(h:s[n]? =some c):CH (s.take (n+1))=if c.toNat=32 then CH (s.take n) else s.take (n+1):=by
 rw[DC h,Yb]
def isQ(c:UInt8):Bool:=decide (c.toNat=39)
def CD(s:List UInt8):Nat:=match DN isQ (s.drop 1) with
 |none=>0
 |some i=>if((s.drop 1).take i).all Ck then i+2 else 0
def Cs(s:List UInt8):Nat:=if s.take 2=[47,47] then(if(s.takeWhile Cf).all Ck then(s.takeWhile Cf).length else 0) else 0
theorem Ye(s:List UInt8):Dw s=match DN isQ (s.drop 1) with
 |none=>([],false)
 |some i=>(s.take (i+2),(s.take (i+2)).all Ck):=rfl
theorem Yf{c:UInt8}(h:isQ c=true):Ck c=true:=by
 simp [isQ] at h;simp [Ck,h]
theorem TG{p:UInt8→Bool}{s:List UInt8}{i:Nat}(h:DN p s=some i):i<s.length:=by
 obtain⟨_,e,he,_⟩:=KD.1 h
 exact(List.getElem?_eq_some_iff.1 he).1
theorem PD{c:UInt8}{s:List UInt8}(hc:isQ c=true):(Dw (c::s)).2=true↔CD (c::s)≠0:=by
 rw[Ye];unfold CD
 simp only[List.drop_succ_cons,List.drop_zero]
 cases h:DN isQ s with
 |none=>simp
 |some i=>
  simp only[List.take_succ_cons,List.all_cons,Yf hc,Bool.true_and]
  obtain⟨h1,e,he,hq⟩:=KD.1 h
  rw[DC he,List.all_append]
  simp [Yf hq]
theorem Yg{c:UInt8}{s:List UInt8}(hc:isQ c=true)(h:CD (c::s)≠0):(Dw (c::s)).1=(c::s).take (CD (c::s))∧CD (c::s)≤(c::s).length:=by
 rw[Ye];unfold CD at h ⊢
 simp only[List.drop_succ_cons,List.drop_zero] at h ⊢
 cases hi:DN isQ s with
 |none=>rw[hi] at h;simp at h
 |some i=>
  rw[hi] at h
  simp only at h ⊢
  split at h
  ·rename_i hp
   have:=TG hi
   rw[if_pos hp]
   exact⟨rfl,by simp;omega⟩
  ·exact(h rfl).elim
theorem a5V{c:UInt8}(h:Cu c=true):Bt c=false:=by
 simp [Cu,Bt] at h ⊢;omega
theorem a5W(s:List UInt8):Cx s 1=match s with
 |[]=>false
 |c::_=>Cu c&&(s.all BO&&decide (s.length≤30)):=by
 cases s with
 |nil=>rfl
 |cons c t=>
  by_cases hc:Cu c=true
  ·simp only[Cx,Bc,hc,if_true,Bool.true_and]
   by_cases ha:(c::t).all BO=true
   ·have:=PA.2 ha
    rw[this,ha];simp
   ·have hn:¬(c::t).takeWhile BO=c::t:=fun e=>ha (PA.1 e)
    simp only[Bool.not_eq_true] at ha
    rw[ha]
    have:((c::t).takeWhile BO==c::t)=false:=by rw[beq_eq_false_iff_ne];exact hn
    rw[this];simp
  ·simp only[Bool.not_eq_true] at hc
   simp only[hc,Bool.false_and]
   rw[Bool.eq_false_iff]
   intro h
   simp only[Cx,Bc,hc,Bool.false_eq_true,if_false,Bool.and_eq_true,decide_eq_true_eq] at h
   have h1:=h.2.2.1
   repeat' split at h1
   all_goals simp at h1
theorem Yh(s:List UInt8):Cx s 2=(s.all Bt&&(decide (1≤s.length)&&decide (s.length≤12))):=by
 cases s with
 |nil=>rfl
 |cons c t=>
  by_cases hc:Cu c=true
  ·have hf:=a5V hc
   simp only[List.all_cons,hf,Bool.false_and]
   simp [Cx,Bc,hc]
  ·simp only[Bool.not_eq_true] at hc
   by_cases hf:Bt c=true
   ·simp only[Cx,Bc,hc,hf,Bool.false_eq_true,if_false,if_true]
    by_cases ha:(c::t).all Bt=true
    ·have:=PA.2 ha
     rw[this,ha];simp
    ·have hn:¬(c::t).takeWhile Bt=c::t:=fun e=>ha (PA.1 e)
     simp only[Bool.not_eq_true] at ha
     rw[ha]
     have:((c::t).takeWhile Bt==c::t)=false:=by rw[beq_eq_false_iff_ne];exact hn
     rw[this];simp
   ·simp only[Bool.not_eq_true] at hf
    simp only[List.all_cons,hf,Bool.false_and]
    rw[Bool.eq_false_iff]
    intro h
    simp only[Cx,Bc,hc,hf,Bool.false_eq_true,if_false,Bool.and_eq_true,decide_eq_true_eq] at h
    have h1:=h.2.2.1
    repeat' split at h1
    all_goals simp at h1
theorem TH(s:List UInt8):Cx s 3=match s with
 |[]=>false
 |c::_=>isQ c&&(decide (1<s.length)&&decide (CD s=s.length)):=by
 cases s with
 |nil=>rfl
 |cons c t=>
  by_cases hq:isQ c=true
  ·have h39:c.toNat=39:=by simpa [isQ] using hq
   have hc:Cu c=false:=by simp [Cu];omega
   have hf:Bt c=false:=by simp [Bt];omega
   simp only[hq,Bool.true_and]
   simp only[Cx,Bc,hc,hf,h39,Bool.false_eq_true,if_false,if_true]
   by_cases h0:CD (c::t)=0
   ·have h2:(Dw (c::t)).2=false:=by
     rw[Bool.eq_false_iff];intro h;exact(PD hq).1 h h0
    rw[h2,h0];simp
   ·have h2:=(PD hq).2 h0
    obtain⟨h3,h4⟩:=Yg hq h0
    have h5:1<CD (c::t):=by
     unfold CD at h0 ⊢
     split at h0
     ·exact(h0 rfl).elim
     ·split at h0
      ·rename_i hp;rw[if_pos hp];omega
      ·exact(h0 rfl).elim
    rw[h2,h3]
    rw[Bool.eq_iff_iff]
    simp only[Bool.and_eq_true,Bool.not_eq_true',decide_eq_true_eq,beq_iff_eq,List.length_take]
    constructor
    ·rintro⟨_,_,_,e,hl⟩
     have:=congrArg List.length e
     simp only[List.length_take] at this
     constructor<;>omega
    ·rintro⟨h6,h7⟩
     refine⟨by simp,trivial,trivial,?_,?_⟩
     ·rw[h7,List.take_length]
     ·omega
  ·simp only[Bool.not_eq_true] at hq
   have h39:¬c.toNat=39:=by simpa [isQ] using hq
   simp only[hq,Bool.false_and]
   rw[Bool.eq_false_iff]
   intro h
   simp only[Cx,Bc,h39,if_false,Bool.and_eq_true,decide_eq_true_eq] at h
   have h1:=h.2.2.1
   repeat' split at h1
   all_goals simp at h1
theorem TI(s:List UInt8):Cx s 5=(decide (1<s.length)&&(decide (Cs s=s.length)&&(CH s==s))):=by
 cases s with
 |nil=>rfl
 |cons c t=>
  by_cases hp:(c::t).take 2=[47,47]
  ·have h47:c=47:=by
    have:=congrArg (fun l:List UInt8=>l.head?) hp
    simpa using this
   subst h47
   have hl:1<(47::t).length:=by
    have:=congrArg List.length hp
    simp only[List.length_take,List.length_cons,List.length_nil] at this ⊢;omega
   have hc:Cu 47=false:=by decide
   have hf:Bt 47=false:=by decide
   have hq:¬(47:UInt8).toNat=39:=by decide
   simp only[Cx,Bc,hc,hf,hq,hp,Bool.false_eq_true,if_false,if_true,Cs]
   rw[Bool.eq_iff_iff]
   simp only[Bool.and_eq_true,Bool.not_eq_true',decide_eq_true_eq,beq_iff_eq,beq_eq_false_iff_ne]
   constructor
   ·rintro⟨_,h1,_,h2,h3⟩
    rw[if_pos h1]
    have h3:((47::t).takeWhile Cf).length=(47::t).length:=by omega
    refine⟨hl,h3,?_⟩
    have e:(47::t).takeWhile Cf=47::t:=by
     have:=List.takeWhile_prefix (p:=Cf) (l:=47::t)
     exact List.IsPrefix.eq_of_length this h3
    rw[e] at h2;exact h2
   ·rintro⟨_,h1,h2⟩
    split at h1
    ·rename_i h3
     have e:(47::t).takeWhile Cf=47::t:=by
      have:=List.takeWhile_prefix (p:=Cf) (l:=47::t)
      exact List.IsPrefix.eq_of_length this h1
     rw[e] at h3 ⊢
     exact⟨by simp,h3,trivial,h2,rfl⟩
    ·simp at h1
  ·have h0:Cs (c::t)=0:=by simp only[Cs,if_neg hp]
   rw[h0]
   have:decide (0=(c::t).length)=false:=by simp
   rw[this]
   simp only[Bool.false_and,Bool.and_false]
   rw[Bool.eq_false_iff]
   intro h
   simp only[Cx,Bc,hp,if_false,Bool.and_eq_true,decide_eq_true_eq] at h
   have h1:=h.2.2.1
   repeat' split at h1
   all_goals simp at h1
theorem a5X{s:List UInt8}{m:Nat}{e:UInt8}(h:∀e∈(s.drop 1).take m,isQ e=false∧Ck e=true)(he:(s.drop 1)[m]? =some e)(hq:isQ e=true):CD s=m+2:=by
 unfold CD
 rw[KD.2 ⟨fun e he=>(h e he).1,e,he,hq⟩]
 simp only
 rw[if_pos (List.all_eq_true.2 fun e he=>(h e he).2)]
theorem a5Y{s:List UInt8}{m:Nat}{e:UInt8}(h:∀e∈(s.drop 1).take m,isQ e=false∧Ck e=true)(he:(s.drop 1)[m]? =some e)(hq:isQ e=false)(hp:Ck e=false):CD s=0:=by
 unfold CD
 cases hi:DN isQ (s.drop 1) with
 |none=>rfl
 |some i=>
  simp only
  obtain⟨h1,d,hd,hdq⟩:=KD.1 hi
  rw[if_neg]
  intro hall
  have hmi:m<i:=by
   rcases Nat.lt_trichotomy m i with h'|h'|h'
   ·exact h'
   ·subst h';rw[he] at hd;cases hd;rw[hq] at hdq;cases hdq
   ·have:d∈(s.drop 1).take m:=by
     rw[List.mem_take_iff_getElem]
     obtain⟨a,b⟩:=List.getElem?_eq_some_iff.1 hd
     exact⟨i,by omega,b⟩
    rw[(h d this).1] at hdq;cases hdq
  have:e∈(s.drop 1).take i:=by
   rw[List.mem_take_iff_getElem]
   obtain⟨a,b⟩:=List.getElem?_eq_some_iff.1 he
   exact⟨m,by omega,b⟩
  rw[List.all_eq_true.1 hall e this] at hp;cases hp
theorem a5Z{s:List UInt8}{m:Nat}(h:∀e∈(s.drop 1).take m,isQ e=false∧Ck e=true)(hl:(s.drop 1).length≤m):CD s=0:=by
 unfold CD
 rw[List.take_of_length_le hl] at h
 rw[Tz.2 fun e he=>(h e he).1]
theorem Yi{s:List UInt8}{m:Nat}(hp:s.take 2=[47,47])(h:∀e∈s.take m,Cf e=true∧Ck e=true)(he:s.length≤m∨∃e,s[m]? =some e∧Cf e=false)(hm:m≤s.length):Cs s=m:=by
 have h1:=IR (fun e he=>(h e he).1) he
 unfold Cs
 rw[if_pos hp,←h1,if_pos (List.all_eq_true.2 fun e he=>(h e he).2),List.length_take];omega
theorem a6a{s:List UInt8}{m:Nat}{e:UInt8}(hp:s.take 2=[47,47])(h:∀e∈s.take m,Cf e=true∧Ck e=true)(he:s[m]? =some e)(hn:Cf e=true)(hq:Ck e=false):Cs s=0:=by
 unfold Cs
 rw[if_pos hp,if_neg]
 intro hall
 have:e∈s.takeWhile Cf:=by
  have h2:s=s.take m++e::s.drop (m+1):=by rw[←KC he,List.take_append_drop]
  rw[h2,List.takeWhile_append_of_pos (fun e he=>(h e he).1),List.takeWhile_cons,if_pos hn]
  simp
 rw[List.all_eq_true.1 hall e this] at hq;cases hq
theorem Yj{s:List UInt8}(hp:s.take 2≠[47,47]):Cs s=0:=by
 unfold Cs;rw[if_neg hp]
theorem TJ{s:List UInt8}{a n:Int}(h0:0≤a)(h:a+1≤n):((s.drop a.toNat).drop 1)[(n-a-1).toNat]? =s[n.toNat]? :=by
 rw[List.getElem?_drop,List.getElem?_drop];congr 1;omega
theorem NM{s:List UInt8}{a n:Int}(h0:0≤a)(h:a≤n):(s.drop a.toNat)[(n-a).toNat]? =s[n.toNat]? :=by
 rw[List.getElem?_drop];congr 1;omega
theorem PE{p:UInt8→Prop}{s:List UInt8}{m k:Nat}{e:UInt8}(h:∀e∈s.take m,p e)(he:s[m]? =some e)(hp:p e)(hk:k=m+1):∀e∈s.take k,p e:=by
 subst hk
 rw[DC he];intro x hx
 rcases List.mem_append.1 hx with hx|hx
 ·exact h x hx
 ·simp at hx;subst hx;exact hp
def qI(x:List UInt8×Int)(i:Int):Prop:=x.2+1≤i∧(i≤x.1.length∨i=x.2+1)∧∀e∈((x.1.drop x.2.toNat).drop 1).take (i-x.2-1).toNat,isQ e=false∧Ck e=true
theorem a6b{x:List UInt8×Int}:qI x (x.2+1):=by
 refine⟨by omega,.inr rfl,fun e he=> ?_⟩
 rw[show(x.2+1-x.2-1).toNat=0 by omega] at he;simp at he
theorem a6c{x:List UInt8×Int}{i:Int}(h:qI x i):x.2+1≤i∧(i≤x.1.length∨i=x.2+1):=⟨h.1,h.2.1⟩
theorem a6d{x:List UInt8×Int}{i:Int}{c:UInt8}(h0:0≤x.2)(h:qI x i)(hq:(c.toNat:Int)=39)(hc:x.1[i.toNat]? =some c):i+1-x.2=CD (x.1.drop x.2.toNat):=by
 have:=h.1
 rw[a5X h.2.2 (by rw[TJ h0 h.1];exact hc) (by simp [isQ];omega)];omega
theorem a6e{x:List UInt8×Int}{i:Int}{c d:UInt8}(h0:0≤x.2)(h:qI x i)(hq:(c.toNat:Int)≠39)(hc:x.1[i.toNat]? =some c)(hp:Ck d=false)(hd:x.1[i.toNat]? =some d):0=(CD (x.1.drop x.2.toNat):Int):=by
 rw[hc] at hd;cases hd
 rw[a5Y h.2.2 (by rw[TJ h0 h.1];exact hc) (by simp [isQ];omega) hp];rfl
theorem a6f{x:List UInt8×Int}{i:Int}{c d:UInt8}(h0:0≤x.2)(h:qI x i)(hl:i<x.1.length)(hq:(c.toNat:Int)≠39)(hc:x.1[i.toNat]? =some c)(hp:Ck d=true)(hd:x.1[i.toNat]? =some d):qI x (i+1):=by
 rw[hc] at hd;cases hd
 have:=h.1
 exact⟨by omega,.inl (by omega),PE (p:=fun e=>isQ e=false∧Ck e=true) h.2.2 (by rw[TJ h0 h.1];exact hc) ⟨by simp [isQ];omega,hp⟩ (by omega)⟩
theorem a6g{x:List UInt8×Int}{i:Int}(h0:0≤x.2)(h:qI x i)(hl:¬i<x.1.length):0=(CD (x.1.drop x.2.toNat):Int):=by
 rw[a5Z h.2.2 (by simp;omega)];rfl
def nI(x:List UInt8×Int)(i:Int):Prop:=(x.2≤i∧i≤x.1.length)∧(x.1.drop x.2.toNat).take 2=[47,47]∧∀e∈(x.1.drop x.2.toNat).take (i-x.2).toNat,Cf e=true∧Ck e=true
theorem Yk{x:List UInt8×Int}(h0:0≤x.2):List.drop x.2.toNat (List.take (x.2+2).toNat x.1)=(x.1.drop x.2.toNat).take 2:=by
 rw[List.drop_take];congr 1;omega
theorem a6h{x:List UInt8×Int}(h0:0≤x.2)(hl:x.2≤x.1.length)(h:(List.drop x.2.toNat (List.take (x.2+2).toNat x.1)==[47,47])=true):nI x x.2:=by
 rw[Yk h0] at h
 refine⟨⟨by omega,hl⟩,by simpa using h,fun e he=> ?_⟩
 rw[show(x.2-x.2).toNat=0 by omega] at he;simp at he
theorem a6i{x:List UInt8×Int}(h0:0≤x.2)(h:(List.drop x.2.toNat (List.take (x.2+2).toNat x.1)==[47,47])=false):0=(Cs (x.1.drop x.2.toNat):Int):=by
 rw[Yk h0] at h
 rw[Yj (by simpa using h)];rfl
theorem a6j{x:List UInt8×Int}(h0:0≤x.2)(h:x.2+2>x.1.length):0=(Cs (x.1.drop x.2.toNat):Int):=by
 rw[Yj]
 ·rfl
 ·intro e;have:=congrArg List.length e;simp at this;omega
theorem a6k{x:List UInt8×Int}{i:Int}{c d:UInt8}(h0:0≤x.2)(h:nI x i)(hn:(c.toNat:Int)≠10)(hc:x.1[i.toNat]? =some c)(hp:Ck d=false)(hd:x.1[i.toNat]? =some d):0=(Cs (x.1.drop x.2.toNat):Int):=by
 rw[hc] at hd;cases hd
 rw[a6a h.2.1 h.2.2 (by rw[NM h0 h.1.1];exact hc) (by simp [Cf];omega) hp];rfl
theorem a6l{x:List UInt8×Int}{i:Int}{c d:UInt8}(h0:0≤x.2)(h:nI x i)(hl:i<x.1.length)(hn:(c.toNat:Int)≠10)(hc:x.1[i.toNat]? =some c)(hp:Ck d=true)(hd:x.1[i.toNat]? =some d):nI x (i+1):=by
 rw[hc] at hd;cases hd
 have:=h.1
 exact⟨by omega,h.2.1,PE (p:=fun e=>Cf e=true∧Ck e=true) h.2.2 (by rw[NM h0 h.1.1];exact hc) ⟨by simp [Cf];omega,hp⟩ (by omega)⟩
theorem a6m{x:List UInt8×Int}{i:Int}{c:UInt8}(h0:0≤x.2)(h:nI x i)(hn:(c.toNat:Int)=10)(hc:x.1[i.toNat]? =some c):i-x.2=(Cs (x.1.drop x.2.toNat):Int):=by
 have:=h.1
 have hl:=(List.getElem?_eq_some_iff.1 hc).1
 rw[Yi h.2.1 h.2.2 (.inr ⟨c,by rw[NM h0 h.1.1];exact hc,by simp [Cf];omega⟩) (by simp;omega)];omega
theorem a6n{x:List UInt8×Int}{i:Int}(h0:0≤x.2)(h:nI x i)(hl:¬i<x.1.length):i-x.2=(Cs (x.1.drop x.2.toNat):Int):=by
 have:=h.1
 rw[Yi h.2.1 h.2.2 (.inl (by simp;omega)) (by simp;omega)];omega
def nmI(x:List UInt8)(i:Int):Prop:=(0≤i∧i≤x.length)∧(inn x.length 1 30=true∧Cu (x.headD 0)=true∧kw x=false)∧∀e∈x.take i.toNat,BO e=true
theorem TK{x:List UInt8}:DP x=true↔(inn x.length 1 30=true∧Cu (x.headD 0)=true∧kw x=false)∧x.all BO=true:=by
 unfold DP
 rw[a5W]
 cases x with
 |nil=>simp [inn]
 |cons c t=>
  simp only[inn,Bool.and_eq_true,decide_eq_true_eq,Bool.not_eq_true',List.headD_cons,List.length_cons]
  constructor
  ·rintro⟨⟨h1,h2,h3⟩,h4⟩;exact⟨⟨⟨by omega,by omega⟩,h1,h4⟩,h2⟩
  ·rintro⟨⟨⟨h1,h2⟩,h3,h4⟩,h5⟩;exact⟨⟨h3,h5,by omega⟩,h4⟩
theorem Yl{x:List UInt8}{c:UInt8}(h:x[0]? =some c):x.headD 0=c:=by cases x<;>simp_all
theorem TL{x:List UInt8}(h:¬(inn x.length 1 30=true∧Cu (x.headD 0)=true∧kw x=false)):false=DP x:=by
 symm;rw[Bool.eq_false_iff];intro hn;exact h (TK.1 hn).1
theorem a6o{x:List UInt8}(h:inn x.length 1 30=true)(h1:Cu (x.headD 0)=true)(h2:kw x=false):nmI x 0:=⟨by omega,⟨h,h1,h2⟩,fun e he=>by simp at he⟩
theorem Ym{x:List UInt8}{i:Int}{c:UInt8}(h:nmI x i)(hc:x[i.toNat]? =some c)(hl:i<x.length)(hp:BO c=true):nmI x (i+1):=by
 have:=h.1
 exact⟨by omega,h.2.1,PE (p:=fun e=>BO e=true) h.2.2 hc hp (by omega)⟩
theorem a6p{x:List UInt8}{i:Int}{c:UInt8}(h:nmI x i)(hc:x[i.toNat]? =some c)(hp:BO c=false):false=DP x:=by
 symm;rw[Bool.eq_false_iff];intro hn
 have:=(TK.1 hn).2
 rw[Pz hc hp] at this;cases this
theorem a6q{x:List UInt8}{i:Int}(h:nmI x i)(hl:¬i<x.length):true=DP x:=by
 symm;rw[TK];exact⟨h.2.1,Ty h.2.2 (by omega)⟩
theorem a6r{x:List UInt8}{c:UInt8}(h1:(x.length:Int)>1)(hq:(c.toNat:Int)=39)(h:x[0]? =some c):((CD x:Int)==(x.length:Int))=Cx x 3:=by
 cases x with
 |nil=>cases h
 |cons d t=>
  have:d=c:=by simpa using h
  subst this
  have e:isQ d=true:=by simp [isQ];omega
  rw[TH,Bool.eq_iff_iff]
  simp [e] at h1 ⊢;omega
theorem a6s{x:List UInt8}{c:UInt8}(hq:(c.toNat:Int)≠39)(h:x[0]? =some c):false=Cx x 3:=by
 cases x with
 |nil=>cases h
 |cons d t=>
  have:d=c:=by simpa using h
  subst this
  have e:isQ d=false:=by simp [isQ];omega
  rw[TH];simp [e]
theorem a6t{x:List UInt8}(h1:¬(x.length:Int)>1):false=Cx x 3:=by
 rw[TH]
 cases x with
 |nil=>rfl
 |cons d t=>
  have:decide (1<(d::t).length)=false:=decide_eq_false (by omega)
  simp only[this,Bool.false_and,Bool.and_false]
theorem a6u{x:List UInt8}(h1:(x.length:Int)>1)(h2:(Cs x:Int)=x.length):(CH x==x)=Cx x 5:=by
 rw[TI]
 have e1:decide (1<x.length)=true:=decide_eq_true (by omega)
 have e2:decide (Cs x=x.length)=true:=decide_eq_true (by omega)
 simp [e1,e2]
theorem a6v{x:List UInt8}(h2:(Cs x:Int)≠x.length):false=Cx x 5:=by
 rw[TI]
 have e2:decide (Cs x=x.length)=false:=decide_eq_false (by omega)
 simp only[e2,Bool.false_and,Bool.and_false]
theorem a6w{x:List UInt8}(h1:¬(x.length:Int)>1):false=Cx x 5:=by
 rw[TI]
 have e2:decide (1<x.length)=false:=decide_eq_false (by omega)
 simp only[e2,Bool.false_and]
end Go.My
end
section
set_option linter.unusedVariables false
set_option linter.unusedSimpArgs false
namespace Go.My
open Go.Eng Go.Proofs
variable {G:GInv}
def Fy:Sig:= {X:=List UInt8,args:=fun x=>[.str x],pre:=fun x=>True,Y:=Unit,post:=fun x y=>True,res:=fun x y=> .bool (kw x),outs:=fun x y=>[.top],keep:=false}
theorem Yn:Aj G Tryz.prog 160 Fy:=
 vcFun_okP [] [] false (fun x=>[]) Tryz.func160 rfl (by decide) trivial (fun(x:List UInt8)=>(∀(y:Unit),True→True∧True∧True)∧Aa (x== #[(99:UInt8),(108:UInt8),(97:UInt8),(115:UInt8),(115:UInt8)].toList) (rA Fy x [.bool true,.top]) (Aa (x== #[(118:UInt8),(97:UInt8),(114:UInt8)].toList) (rA Fy x [.bool true,.top]) (Aa (x== #[(105:UInt8),(102:UInt8)].toList) (rA Fy x [.bool true,.top]) (Aa (x== #[(101:UInt8),(108:UInt8),(115:UInt8),(101:UInt8)].toList) (rA Fy x [.bool true,.top]) (Aa (x== #[(119:UInt8),(104:UInt8),(105:UInt8),(108:UInt8),(101:UInt8)].toList) (rA Fy x [.bool true,.top]) (Aa (x== #[(114:UInt8),(101:UInt8),(116:UInt8),(117:UInt8),(114:UInt8),(110:UInt8)].toList) (rA Fy x [.bool true,.top]) (rA Fy x [.bool false,.top]))))))) (fun x=>by kernel_rfl) fun(x:List UInt8) (hx:True)=>(by
 dsimp only[rA,Fy,Av,AB]
 (repeat' first|(with_reducible first|rfl|exact True.intro|apply AK|apply And.intro|((first|apply Az|apply AI|apply AA|apply AJ)<;>intro _))|(apply Aw<;>intro _)|apply AH|refine Ae () ?_ ?_|((first|apply AO|apply AN|apply AM|apply AL|apply AG|apply AF|apply AE|apply AD|apply AC)<;>try dsimp only)|apply Ae|(refine Prod.forall.2 ?_;intro _;try dsimp only)|(intro _;try dsimp only))<;>(try dsimp only at*)<;>(try simp only[AR,List.length_cons,List.length_nil])<;>(try omega)
 all_goals simp [kw, *])
def FU:Sig:= {X:=List UInt8,args:=fun x=>[.str x],pre:=fun x=>True,Y:=Unit,post:=fun x y=>True,res:=fun x y=> .bool (kw x),outs:=fun x y=>[.top],keep:=false}
theorem TM:Aj G Tryz.prog 105 FU:=
 vcFun_okP [] [] false (fun x=>[]) Tryz.func105 rfl (by decide) trivial (fun(x:List UInt8)=>(∀(y:Unit),True→True∧True∧True)∧Aa (x== #[(99:UInt8),(108:UInt8),(97:UInt8),(115:UInt8),(115:UInt8)].toList) (rA FU x [.bool true,.top]) (Aa (x== #[(118:UInt8),(97:UInt8),(114:UInt8)].toList) (rA FU x [.bool true,.top]) (Aa (x== #[(105:UInt8),(102:UInt8)].toList) (rA FU x [.bool true,.top]) (Aa (x== #[(101:UInt8),(108:UInt8),(115:UInt8),(101:UInt8)].toList) (rA FU x [.bool true,.top]) (Aa (x== #[(119:UInt8),(104:UInt8),(105:UInt8),(108:UInt8),(101:UInt8)].toList) (rA FU x [.bool true,.top]) (Aa (x== #[(114:UInt8),(101:UInt8),(116:UInt8),(117:UInt8),(114:UInt8),(110:UInt8)].toList) (rA FU x [.bool true,.top]) (rA FU x [.bool false,.top]))))))) (fun x=>by kernel_rfl) fun(x:List UInt8) (hx:True)=>(by
 dsimp only[rA,FU,Av,AB]
 (repeat' first|(with_reducible first|rfl|exact True.intro|apply AK|apply And.intro|((first|apply Az|apply AI|apply AA|apply AJ)<;>intro _))|(apply Aw<;>intro _)|apply AH|refine Ae () ?_ ?_|((first|apply AO|apply AN|apply AM|apply AL|apply AG|apply AF|apply AE|apply AD|apply AC)<;>try dsimp only)|apply Ae|(refine Prod.forall.2 ?_;intro _;try dsimp only)|(intro _;try dsimp only))<;>(try dsimp only at*)<;>(try simp only[AR,List.length_cons,List.length_nil])<;>(try omega)
 all_goals simp [kw, *])
theorem a6x{c:UInt8}:decide (CI mk1 c≥0)=mk1.elem c:=by
 unfold CI
 cases h:DN (fun d=>decide (d.toNat=c.toNat)) mk1 with
 |none=>
  have:=Tz.1 h
  symm
  simp only[Int.reduceNeg,ge_iff_le,Int.reduceLE,decide_false]
  rw[Bool.eq_false_iff]
  intro h2
  have h3:=this c (by simpa using h2)
  simp at h3
 |some i=>
  obtain⟨_,e,he,hq⟩:=KD.1 h
  have h3:e=c:=by simpa [UInt8.toNat_inj] using hq
  subst h3
  have:=List.mem_of_getElem? he
  simp [this]
def GV:Sig:= {X:=List UInt8,args:=fun x=>[.str x],pre:=fun x=>x.length<2^63,Y:=Unit,post:=fun x y=>True,res:=fun x y=> .bool (CG x),outs:=fun x y=>[.top],keep:=false}
theorem a6y:Aj G Tryz.prog 91 GV:=
 vcFun_okP [(114,0,Mm)] [] false (fun x=>[]) Tryz.func91 rfl (by decide) ⟨a5E,trivial⟩ (fun(x:List UInt8)=>(∀(y:Unit),True→True∧True∧True)∧Aa (x== #[(38:UInt8),(38:UInt8)].toList) (rA GV x [.bool true,.top]) (Aa (x== #[(124:UInt8),(124:UInt8)].toList) (rA GV x [.bool true,.top]) (Aa (x== #[(61:UInt8),(61:UInt8)].toList) (rA GV x [.bool true,.top]) (Aa (x== #[(61:UInt8),(62:UInt8)].toList) (rA GV x [.bool true,.top]) (Aa (x== #[(46:UInt8),(46:UInt8)].toList) (rA GV x [.bool true,.top]) (Aa ((↑(List.length x):Int)==(1:Int)) (cA Mm [.str #[(40:UInt8),(41:UInt8),(123:UInt8),(125:UInt8),(91:UInt8),(93:UInt8),(59:UInt8),(44:UInt8),(46:UInt8),(61:UInt8),(43:UInt8),(45:UInt8),(42:UInt8),(60:UInt8),(63:UInt8),(58:UInt8)].toList,.str x] fun x_1 y=>rA GV x [.bool (decide (CI x_1.1 (List.headD x_1.2 (0:UInt8))≥(0:Int))),.top]) (rA GV x [.bool false,.top]))))))) (fun x=>by kernel_rfl) fun(x:List UInt8) (hx:x.length<2^63)=>(by
 dsimp only[cA,rA,GV,Mm,Av,AB,mvL,lnL,mvE,lnE]
 (repeat' first|(with_reducible first|rfl|exact True.intro|apply AK|apply And.intro|((first|apply Az|apply AI|apply AA|apply AJ)<;>intro _))|(apply Aw<;>intro _)|apply AH|refine Ae () ?_ ?_|((first|apply AO|apply AN|apply AM|apply AL|apply AG|apply AF|apply AE|apply AD|apply AC)<;>try dsimp only)|apply Ae|(refine Prod.forall.2 ?_;intro _;try dsimp only)|(intro _;try dsimp only))<;>(try dsimp only at*)<;>(try simp only[AR,List.length_cons,List.length_nil])<;>(try omega)
 ·rename_i h;simp [CG,mk2,h]
 ·rename_i h;simp [CG,mk2,h]
 ·rename_i h;simp [CG,mk2,h]
 ·rename_i h;simp [CG,mk2,h]
 ·rename_i h;simp [CG,mk2,h]
 ·rename_i h1 h2 h3 h4 h5 h _ _
  have h:x.length=1:=by omega
  match x,h with
  |[c],_=>exact a6x.trans (by simp [CG,mk2])
 ·rename_i h1 h2 h3 h4 h5 h
  symm;simp only[CG,mk2,Bool.or_eq_false_iff,beq_eq_false_iff_ne]
  refine⟨⟨h1,h2,h3,h4,h5⟩,?_⟩
  split
  ·simp at h
  ·rfl)
def KK:Sig:= {X:=List UInt8,args:=fun x=>[.str x,.int .u8 32],pre:=fun x=>x.length<2^63,Y:=Unit,post:=fun x y=>True,res:=fun x y=> .str (CH x),outs:=fun x y=>[.top,.top],keep:=false}
def PF(x:List UInt8):LS:= {ι:=List UInt8,inv:=fun s=>s.length≤x.length∧CH s=CH x,regs:=fun s=>[(0,.str s),(1,.int .u8 32)],als:=[],meas:=fun s=>s.length}
theorem a6z:Aj G Tryz.prog 146 KK:=
 vcFun_okP [] [] false (fun x=>[(1,PF x)]) Tryz.func146 rfl (by decide) trivial (fun(x:List UInt8)=>(∀(y:Unit),True→True∧True∧True∧True)∧eA (PF x) [.str x,AV.int IntKind.u8 (32:Int)]∧∀(i:List UInt8),List.length i≤List.length x∧CH i=CH x→Aa (decide ((↑(List.length i):Int)>(0:Int))) (inR IntKind.i64 ((↑(List.length i):Int)-(1:Int))∧((0:Int)≤(↑(List.length i):Int)-(1:Int)∧(↑(List.length i):Int)-(1:Int)<(↑(List.length i):Int))∧∀(c:UInt8),i[Int.toNat ((↑(List.length i):Int)-(1:Int))]? =some c→Aa ((↑(UInt8.toNat c):Int)==(32:Int)) (inR IntKind.i64 ((↑(List.length i):Int)-(1:Int))∧((0:Int)≤(0:Int)∧(0:Int)≤(↑(List.length i):Int)-(1:Int)∧(↑(List.length i):Int)-(1:Int)≤(↑(List.length i):Int))∧eN (PF x) i [.str (List.take (Int.toNat ((↑(List.length i):Int)-(1:Int))) i),AV.int IntKind.u8 (32:Int)]) (rA KK x [.str i,.top,.top])) (rA KK x [.str i,.top,.top])) (fun x=>by kernel_rfl) fun(x:List UInt8) (hx:x.length<2^63)=>(by
 dsimp only[eA,eN,PF,rA,KK,Av,AB,Bw]
 (repeat' first|(with_reducible first|rfl|exact True.intro|apply AK|apply And.intro|((first|apply Az|apply AI|apply AA|apply AJ)<;>intro _))|(apply Aw<;>intro _)|apply AH|refine Ae () ?_ ?_|((first|apply AO|apply AN|apply AM|apply AL|apply AG|apply AF|apply AE|apply AD|apply AC)<;>try dsimp only)|apply Ae|(refine Prod.forall.2 ?_;intro _;try dsimp only)|(intro _;try dsimp only))<;>(try dsimp only at*)<;>(try simp only[AR,List.length_cons,List.length_nil])<;>(try omega)
 ·rename_i s hs h c hc h2;simp;omega
 ·rename_i s hs h c hc h2;simp;omega
 ·rename_i s hs h c hc h2
  have e:((s.length:Int)-1).toNat=s.length-1:=by omega
  rw[e] at hc ⊢
  rw[←hs.2,Yc hc,if_pos (by omega)]
 ·rename_i s hs h c hc h2
  have e:((s.length:Int)-1).toNat=s.length-1:=by omega
  rw[e] at hc
  rw[←hs.2,Yc hc,if_neg (by omega)]
 ·rename_i s hs h
  have:s=[]:=List.length_eq_zero_iff.1 (by omega)
  rw[←hs.2,this];rfl)
def KL:Sig:= {X:=List UInt8,args:=fun x=>[.str x,.str [32]],pre:=fun x=>x.length<2^63,Y:=Unit,post:=fun x y=>True,res:=fun x y=> .str (CH x),outs:=fun x y=>[.top,.top],keep:=false}
theorem a6A:Aj G Tryz.prog 113 KL:=
 vcFun_okP [(146,0,KK)] [] false (fun x=>[]) Tryz.func113 rfl (by decide) ⟨a6z,trivial⟩ (fun(x:List UInt8)=>(∀(y:Unit),True→True∧True∧True∧True)∧Aa (x== #[].toList) (rA KL x [.str x,.top,.top]) (((0:Int)≤(0:Int)∧(0:Int)<(↑(1:Nat):Int))∧∀(c:UInt8),[(32:UInt8)][(0:Nat)]? =some c→Aa (decide ((↑(UInt8.toNat c):Int)<(128:Int))) (((0:Int)≤(0:Int)∧(0:Int)<(↑(1:Nat):Int))∧∀(c:UInt8),[(32:UInt8)][(0:Nat)]? =some c→cA KK [.str x,AV.int IntKind.u8 (↑(UInt8.toNat c):Int)] fun x_1 y=>rA KL x [.str (CH x_1),.top,.top]) False)) (fun x=>by kernel_rfl) fun(x:List UInt8) (hx:x.length<2^63)=>(by
 dsimp only[cA,rA,KK,KL,Av,AB,mvL,lnL,mvE,lnE]
 refine⟨fun _ _=>⟨trivial,trivial,trivial,trivial⟩,AA (fun h=>⟨(),trivial,by rw[h];rfl,trivial⟩) (fun h=>⟨by omega,fun c hc=> ?_⟩)⟩
 have hc:32=c:=by simpa using hc
 subst hc
 refine Az (fun _=>⟨by omega,fun c hc=> ?_⟩) (fun h=>(h (by decide)).elim)
 have hc:32=c:=by simpa using hc
 subst hc
 exact⟨x,hx,rfl,rfl,fun _ _=>⟨(),trivial,rfl,trivial⟩⟩)
def Mq:Sig:= {X:=List UInt8,args:=fun x=>[.str x],pre:=fun x=>x.length<2^63,Y:=Unit,post:=fun x y=>True,res:=fun x y=> .str (CH x),outs:=fun x y=>[.top],keep:=false}
theorem a6B:Aj G Tryz.prog 89 Mq:=
 vcFun_okP [(113,0,KL)] [] false (fun x=>[]) Tryz.func89 rfl (by decide) ⟨a6A,trivial⟩ (fun(x:List UInt8)=>(∀(y:Unit),True→True∧True∧True)∧cA KL [.str x,.str #[(32:UInt8)].toList] fun x_1 y=>rA Mq x [.str (CH x_1),.top]) (fun x=>by kernel_rfl) fun(x:List UInt8) (hx:x.length<2^63)=>(by
 dsimp only[cA,rA,Mq,KL,Av,AB,mvL,lnL,mvE,lnE]
 (repeat' first|(with_reducible first|rfl|exact True.intro|apply AK|apply And.intro|((first|apply Az|apply AI|apply AA|apply AJ)<;>intro _))|(apply Aw<;>intro _)|apply AH|refine Ae () ?_ ?_|((first|apply AO|apply AN|apply AM|apply AL|apply AG|apply AF|apply AE|apply AD|apply AC)<;>try dsimp only)|apply Ae|(refine Prod.forall.2 ?_;intro _;try dsimp only)|(intro _;try dsimp only))<;>(try dsimp only at*)<;>(try simp only[AR,List.length_cons,List.length_nil])<;>(try omega))
def Ij:Sig:= {X:=List UInt8,args:=fun x=>[.str x],pre:=fun x=>x.length<2^63,Y:=Unit,post:=fun x y=>True,res:=fun x y=> .str (CH x),outs:=fun x y=>[.top],keep:=false}
def PG(x:List UInt8):LS:= {ι:=Int,inv:=fun i=>0≤i∧i≤x.length∧CH (x.take i.toNat)=CH x,regs:=fun i=>[(0,.str x),(3,.int .i64 i)],als:=[],meas:=fun i=>i.toNat}
theorem Yo:Aj G Tryz.prog 77 Ij:=
 vcFun_okP [] [] false (fun x=>[(2,PG x)]) Tryz.func77 rfl (by decide) trivial (fun(x:List UInt8)=>(∀(y:Unit),True→True∧True∧True)∧eA (PG x) [.str x,.int .i64 (↑(List.length x):Int)]∧∀(i:Int),(0:Int)≤i∧i≤(↑(List.length x):Int)∧CH (List.take (Int.toNat i) x)=CH x→Aa (decide (i>(0:Int))) (inR IntKind.i64 (i-(1:Int))∧((0:Int)≤i-(1:Int)∧i-(1:Int)<(↑(List.length x):Int))∧∀(c:UInt8),x[Int.toNat (i-(1:Int))]? =some c→Aa ((↑(UInt8.toNat c):Int)==(32:Int)) (inR IntKind.i64 (i-(1:Int))∧eN (PG x) i [.str x,.int .i64 (i-(1:Int))]) (((0:Int)≤(0:Int)∧(0:Int)≤i∧i≤(↑(List.length x):Int))∧rA Ij x [.str (List.take (Int.toNat i) x),.top])) (((0:Int)≤(0:Int)∧(0:Int)≤i∧i≤(↑(List.length x):Int))∧rA Ij x [.str (List.take (Int.toNat i) x),.top])) (fun x=>by kernel_rfl) fun(x:List UInt8) (hx:x.length<2^63)=>(by
 dsimp only[eA,eN,PG,rA,Ij,Av,AB,Bw]
 (repeat' first|(with_reducible first|rfl|exact True.intro|apply AK|apply And.intro|((first|apply Az|apply AI|apply AA|apply AJ)<;>intro _))|(apply Aw<;>intro _)|apply AH|refine Ae () ?_ ?_|((first|apply AO|apply AN|apply AM|apply AL|apply AG|apply AF|apply AE|apply AD|apply AC)<;>try dsimp only)|apply Ae|(refine Prod.forall.2 ?_;intro _;try dsimp only)|(intro _;try dsimp only))<;>(try dsimp only at*)<;>(try simp only[AR,List.length_cons,List.length_nil])<;>(try omega)
 ·simp
 ·rename_i i hi h c hc h2
  rw[←hi.2.2,show i.toNat=(i-1).toNat+1 by omega,Yd hc,if_pos (by omega)]
 ·rename_i i hi h c hc h2
  have:=hi.2.2
  rw[show i.toNat=(i-1).toNat+1 by omega,Yd hc,if_neg (by omega)] at this
  rw[←this,show i.toNat=(i-1).toNat+1 by omega]
 ·rename_i i hi h
  rw[←hi.2.2,show i.toNat=0 by omega];rfl)
theorem a6C(s:List UInt8)(c:UInt8):CI s c= -1∨(0≤CI s c∧CI s c<s.length):=by
 unfold CI
 split
 ·exact .inl rfl
 ·rename_i i h;have:=TG h;omega
theorem Yp{s:List UInt8}:Dw s=if CI (s.drop 1) 39<0 then([],false) else(s.take (CI (s.drop 1) 39+2).toNat,(s.take (CI (s.drop 1) 39+2).toNat).all Ck):=by
 unfold Dw CI
 have e:(fun c:UInt8=>decide (c.toNat=39))=fun d:UInt8=>decide (d.toNat=(39:UInt8).toNat):=rfl
 rw[e]
 cases DN (fun d:UInt8=>decide (d.toNat=(39:UInt8).toNat)) (s.drop 1) with
 |none=>simp
 |some i=>
  have h1:¬(i:Int)<0:=by omega
  have h2:((i:Int)+2).toNat=i+2:=by omega
  simp only[if_neg h1,h2]
def KM:Sig:= {X:=List UInt8,args:=fun x=>[.str x],pre:=fun x=>1≤x.length∧x.length<2^62,Y:=Unit,post:=fun x y=>True,res:=fun x y=> .tup [.str (Dw x).1,.bool (Dw x).2],outs:=fun x y=>[.top],keep:=false}
theorem a6D:Aj G Tryz.prog 86 KM:=
 vcFun_okP [(111,0,Mk),(90,0,Ht)] [] false (fun x=>[]) Tryz.func86 rfl (by decide) ⟨a5B,Ya,trivial⟩ (fun(x:List UInt8)=>(∀(y:Unit),True→(True∧True∧True)∧True∧True)∧((0:Int)≤(1:Int)∧(1:Int)≤(↑(List.length x):Int)∧(↑(List.length x):Int)≤(↑(List.length x):Int))∧cA Mk [.str (List.drop (1:Nat) x),AV.int IntKind.u8 (39:Int)] fun x_1 y=>Aa (decide (CI x_1 (39:UInt8)<(0:Int))) (rA KM x [.tup [.str #[].toList,.bool false],.top]) (inR IntKind.i64 (CI x_1 (39:UInt8)+(2:Int))∧((0:Int)≤(0:Int)∧(0:Int)≤CI x_1 (39:UInt8)+(2:Int)∧CI x_1 (39:UInt8)+(2:Int)≤(↑(List.length x):Int))∧cA Ht [.str (List.take (Int.toNat (CI x_1 (39:UInt8)+(2:Int))) x)] fun x_2 y=>rA KM x [.tup [.str (List.take (Int.toNat (CI x_1 (39:UInt8)+(2:Int))) x),.bool (List.all x_2 Ck)],.top])) (fun x=>by kernel_rfl) fun(x:List UInt8) (hx:1≤x.length∧x.length<2^62)=>(by
 dsimp only[cA,rA,Ht,KM,Mk,Av,AB,mvL,lnL,mvE,lnE]
 obtain⟨h1,h2⟩:=hx
 have hq:=a6C (x.drop 1) 39;have hl:(x.drop 1).length=x.length-1:=by simp
 (repeat' first|(with_reducible first|rfl|exact True.intro|apply AK|apply And.intro|((first|apply Az|apply AI|apply AA|apply AJ)<;>intro _))|(apply Aw<;>intro _)|apply AH|refine Ae () ?_ ?_|((first|apply AO|apply AN|apply AM|apply AL|apply AG|apply AF|apply AE|apply AD|apply AC)<;>try dsimp only)|apply Ae|(refine Prod.forall.2 ?_;intro _;try dsimp only)|(intro _;try dsimp only))<;>(try dsimp only at*)<;>(try simp only[AR,List.length_cons,List.length_nil])<;>(try omega)
 all_goals first
  |omega
  |(rw[Yp,if_neg ‹¬CI _ 39<0›];done)
  |(rw[Yp,if_pos ‹CI _ 39<0›];done)
  |(simp;omega))
def FV:Sig:= {X:=List UInt8,args:=fun x=>[.str x],pre:=fun x=>1≤x.length∧x.length<2^62,Y:=Unit,post:=fun x y=>True,res:=fun x y=> .tup [.int .i64 (Bc x).kind,.str (Bc x).text,.int .i64 (Bc x).size,.bool (Bc x).ok],outs:=fun x y=>[.top],keep:=false}
def PH(x:List UInt8):LS:= {ι:=Int,inv:=fun i=>Hu x i,regs:=fun i=>[(0,.str x),(12,.int .i64 i)],als:=[],meas:=fun i=>i.toNat}
theorem Yq:Aj G Tryz.prog 50 FV:=
 vcFun_okP [(82,0,Fx),(83,84+1,KH),(85,0,Gu),(83,85+1,KI),(86,0,KM),(87,0,Mn),(83,88+1,KJ),(89,0,Mq),(90,0,Ht),(91,0,GV)] [] false (fun x=>[(15,PH x)]) Tryz.func50 rfl (by decide) ⟨XX,a5J,TE,a5K,a6D,a5G,a5L,a6B,Ya,a6y,trivial⟩ (fun(x:List UInt8)=>(∀(y:Unit),True→(True∧True∧True∧True∧True)∧True∧True)∧((0:Int)≤(0:Int)∧(0:Int)<(↑(List.length x):Int))∧∀(c:UInt8),x[(0:Nat)]? =some c→cA Fx [AV.int IntKind.u8 (↑(UInt8.toNat c):Int)] fun x_1 y=>Aa (Cu x_1) (cA KH [.str x,AV.clo (Fn.func (84:Nat)) []] fun x_2 y=>rA FV x [.tup [.int .i64 (1:Int),.str (List.takeWhile BO x_2),.int .i64 (↑(List.length (List.takeWhile BO x_2)):Int),.bool (decide ((↑(List.length (List.takeWhile BO x_2)):Int)≤(30:Int)))],.top]) (cA Gu [AV.int IntKind.u8 (↑(UInt8.toNat c):Int)] fun x_2 y=>Aa (Bt x_2) (cA KI [.str x,AV.clo (Fn.func (85:Nat)) []] fun x_3 y=>rA FV x [.tup [.int .i64 (2:Int),.str (List.takeWhile Bt x_3),.int .i64 (↑(List.length (List.takeWhile Bt x_3)):Int),.bool (decide ((↑(List.length (List.takeWhile Bt x_3)):Int)≤(12:Int)))],.top]) (Aa ((↑(UInt8.toNat c):Int)==(39:Int)) (cA KM [.str x] fun x_3 y=>rA FV x [.tup [.int .i64 (3:Int),.str (Dw x_3).1,.int .i64 (↑(List.length (Dw x_3).1):Int),.bool (Dw x_3).2],.top]) (cA Mn [.str x,.str #[(47:UInt8),(47:UInt8)].toList] fun x_3 y=>Aa (List.take (List.length x_3.2) x_3.1==x_3.2) (cA KJ [.str x,AV.clo (Fn.func (88:Nat)) []] fun x_4 y=>cA Mq [.str (List.takeWhile Cf x_4)] fun x_5 y=>cA Ht [.str (List.takeWhile Cf x_4)] fun x_6 y=>rA FV x [.tup [.int .i64 (5:Int),.str (CH x_5),.int .i64 (↑(List.length (List.takeWhile Cf x_4)):Int),.bool (List.all x_6 Ck)],.top]) (eA (PH x) [.str x,.int .i64 (min (2:Int) (↑(List.length x):Int))]∧∀(i:Int),Hu x i→Aa (decide (i>(0:Int))) (((0:Int)≤(0:Int)∧(0:Int)≤i∧i≤(↑(List.length x):Int))∧cA GV [.str (List.take (Int.toNat i) x)] fun x_4 y=>Aa (CG x_4) (true=true∧true=true∧((0:Int)≤(0:Int)∧(0:Int)≤i∧i≤(↑(List.length x):Int))∧rA FV x [.tup [.int .i64 (4:Int),.str (List.take (Int.toNat i) x),.int .i64 i,.bool true],.top]) (inR IntKind.i64 (i-(1:Int))∧eN (PH x) i [.str x,.int .i64 (i-(1:Int))])) (rA FV x [.tup [.int .i64 (0:Int),.str #[].toList,.int .i64 (0:Int),.bool false],.top])))))) (fun x=>by kernel_rfl) fun(x:List UInt8) (hx:1≤x.length∧x.length<2^62)=>(by
 dsimp only[cA,eA,eN,PH,rA,Mq,Gu,Fx,Ht,GV,KM,KI,KH,KJ,Mn,FV,Av,AB,mvL,lnL,mvE,lnE,Bw]
 obtain⟨h1,h2⟩:=hx
 have h3:x.length<9223372036854775808:=by omega
 match x,h1,h2,h3 with
 |b::t,h1,h2,h3=>
 (repeat' first|(with_reducible first|rfl|exact True.intro|apply AK|apply And.intro|((first|apply Az|apply AI|apply AA|apply AJ)<;>intro _))|(apply Aw<;>intro _)|apply AH|refine Ae () ?_ ?_|((first|apply AO|apply AN|apply AM|apply AL|apply AG|apply AF|apply AE|apply AD|apply AC)<;>try dsimp only)|apply Ae|(refine Prod.forall.2 ?_;intro _;try dsimp only)|(intro _;try dsimp only))<;>(try dsimp only at*)<;>(try simp only[AR,List.length_cons,List.length_nil])<;>(try omega)
 all_goals(try simp only[List.getElem?_cons_zero,Option.some.injEq] at*)
 all_goals(try subst_vars)
 all_goals first
  |exact h3
  |(rw[a5Q ‹_›];done)
  |(rw[a5R ‹_› ‹_›];done)
  |(rw[a5S ‹_› ‹_› ‹_›];done)
  |(rw[a5T ‹_› ‹_› ‹_› ‹_›];done)
  |(rw[a5M ‹_› h1 ‹_› ‹_›];done)
  |(rw[a5N ‹_› h1 ‹_›];done)
  |exact a5O ‹_› ‹_› ‹_›
  |exact a5P ‹_› ‹_› (by omega) ‹_›
  |exact Nat.lt_of_le_of_lt (List.takeWhile_prefix _).length_le h3
  |(have hI:=(‹Hu _ _› :Hu _ _).1;rw[List.length_cons] at hI;omega)
  |(have hI:=(‹Hu _ _› :Hu _ _).1;rw[List.length_take];omega)
  |trace_state)
def Fz:Sig:= {X:=List UInt8×Int,args:=fun x=>[.str x.1,.int .i64 x.2],pre:=fun x=>x.1.length<2^62,Y:=Unit,post:=fun x y=>True,res:=fun x y=> .bool (Cx x.1 x.2),outs:=fun x y=>[.top,.top],keep:=false}
theorem Yr:Aj G Tryz.prog 123 Fz:=
 vcFun_okP [(50,0,FV)] [] false (fun x=>[]) Tryz.func123 rfl (by decide) ⟨Yq,trivial⟩ (fun(x:List UInt8×Int)=>(∀(y:Unit),True→True∧True∧True∧True)∧Aa (x.1== #[].toList) (rA Fz x [.bool false,.top,.top]) (cA FV [.str x.1] fun x_1 y=>Aa (Bc x_1).ok (Aa ((Bc x_1).kind==x.2) (Aa ((Bc x_1).text==x.1) (rA Fz x [.bool ((Bc x_1).size==(↑(List.length x.1):Int)),.top,.top]) (rA Fz x [.bool false,.top,.top])) (rA Fz x [.bool false,.top,.top])) (rA Fz x [.bool false,.top,.top]))) (fun x=>by kernel_rfl) fun(x:List UInt8×Int) (hx:x.1.length<2^62)=>(by
 dsimp only[cA,rA,Fz,FV,Av,AB,mvL,lnL,mvE,lnE]
 (repeat' first|(with_reducible first|rfl|exact True.intro|apply AK|apply And.intro|((first|apply Az|apply AI|apply AA|apply AJ)<;>intro _))|(apply Aw<;>intro _)|apply AH|refine Ae () ?_ ?_|((first|apply AO|apply AN|apply AM|apply AL|apply AG|apply AF|apply AE|apply AD|apply AC)<;>try dsimp only)|apply Ae|(refine Prod.forall.2 ?_;intro _;try dsimp only)|(intro _;try dsimp only))<;>(try dsimp only at*)<;>(try simp only[AR,List.length_cons,List.length_nil])<;>(try omega)
 all_goals first
  |exact List.length_pos_iff.2 ‹_›
  |(simp [Cx, *];done)
  |(rw[Bool.eq_iff_iff];simp [Cx, *];done))
def GW:Sig:= {X:=List UInt8,args:=fun x=>[.str x],pre:=fun x=>x.length<2^62,Y:=Unit,post:=fun x y=>True,res:=fun x y=> .bool (DP x),outs:=fun x y=>[.top],keep:=false}
theorem a6E:Aj G Tryz.prog 122 GW:=
 vcFun_okP [(123,0,Fz),(160,0,Fy)] [] false (fun x=>[]) Tryz.func122 rfl (by decide) ⟨Yr,Yn,trivial⟩ (fun(x:List UInt8)=>(∀(y:Unit),True→True∧True∧True)∧cA Fz [.str x,.int .i64 (1:Int)] fun x_1 y=>Aa (Cx x_1.1 x_1.2) (cA Fy [.str x] fun x_2 y=>rA GW x [.bool !kw x_2,.top]) (rA GW x [.bool false,.top])) (fun x=>by kernel_rfl) fun(x:List UInt8) (hx:x.length<2^62)=>(by
 dsimp only[cA,rA,Fy,GW,Fz,Av,AB,mvL,lnL,mvE,lnE]
 (repeat' first|(with_reducible first|rfl|exact True.intro|apply AK|apply And.intro|((first|apply Az|apply AI|apply AA|apply AJ)<;>intro _))|(apply Aw<;>intro _)|apply AH|refine Ae () ?_ ?_|((first|apply AO|apply AN|apply AM|apply AL|apply AG|apply AF|apply AE|apply AD|apply AC)<;>try dsimp only)|apply Ae|(refine Prod.forall.2 ?_;intro _;try dsimp only)|(intro _;try dsimp only))<;>(try dsimp only at*)<;>(try simp only[AR,List.length_cons,List.length_nil])<;>(try omega)
 all_goals simp [DP, *])
def DE:Sig:= {X:=Nd,args:=fun x=>[.agg (ndA false x)],pre:=fun x=>x.text.length<2^62,Y:=Unit,post:=fun x y=>True,res:=fun x y=> .bool (Fv x.kind x.text),outs:=fun x y=>[.top],keep:=false}
theorem a6F:Aj G Tryz.prog 97 DE:=
 vcFun_okP [(123,0,Fz),(122,0,GW)] [] false (fun x=>[]) Tryz.func97 rfl (by decide) ⟨Yr,a6E,trivial⟩ (fun(x:Nd)=>(∀(y:Unit),True→True∧True∧True)∧Aa (x.kind==(1:Int)) (cA GW [.str x.text] fun x_1 y=>rA DE x [.bool (DP x_1),.top]) (Aa (x.kind==(6:Int)) (cA GW [.str x.text] fun x_1 y=>rA DE x [.bool (DP x_1),.top]) (Aa (x.kind==(12:Int)) (cA GW [.str x.text] fun x_1 y=>rA DE x [.bool (DP x_1),.top]) (Aa (x.kind==(13:Int)) (cA GW [.str x.text] fun x_1 y=>rA DE x [.bool (DP x_1),.top]) (Aa (x.kind==(20:Int)) (cA GW [.str x.text] fun x_1 y=>rA DE x [.bool (DP x_1),.top]) (Aa (x.kind==(21:Int)) (cA GW [.str x.text] fun x_1 y=>rA DE x [.bool (DP x_1),.top]) (Aa (x.kind==(2:Int)) (cA Fz [.str x.text,.int .i64 (2:Int)] fun x_1 y=>rA DE x [.bool (Cx x_1.1 x_1.2),.top]) (Aa (x.kind==(3:Int)) (cA Fz [.str x.text,.int .i64 (3:Int)] fun x_1 y=>rA DE x [.bool (Cx x_1.1 x_1.2),.top]) (Aa (x.kind==(19:Int)) (cA Fz [.str x.text,.int .i64 (5:Int)] fun x_1 y=>rA DE x [.bool (Cx x_1.1 x_1.2),.top]) (Aa (x.kind==(7:Int)) (Aa (x.text== #[(38:UInt8),(38:UInt8)].toList) (rA DE x [.bool true,.top]) (Aa (x.text== #[(124:UInt8),(124:UInt8)].toList) (rA DE x [.bool true,.top]) (Aa (x.text== #[(61:UInt8),(61:UInt8)].toList) (rA DE x [.bool true,.top]) (Aa (x.text== #[(60:UInt8)].toList) (rA DE x [.bool true,.top]) (Aa (x.text== #[(43:UInt8)].toList) (rA DE x [.bool true,.top]) (Aa (x.text== #[(45:UInt8)].toList) (rA DE x [.bool true,.top]) (Aa (x.text== #[(42:UInt8)].toList) (rA DE x [.bool true,.top]) (rA DE x [.bool false,.top])))))))) (rA DE x [.bool (x.text== #[].toList),.top]))))))))))) (fun x=>by kernel_rfl) fun(x:Nd) (hx:x.text.length<2^62)=>(by
 dsimp only[cA,Bg,rA,GW,Fz,DE,Av,AB,mvL,lnL,mvE,lnE]
 (repeat' first|(with_reducible first|rfl|exact True.intro|apply AK|apply And.intro|((first|apply Az|apply AI|apply AA|apply AJ)<;>intro _))|(apply Aw<;>intro _)|apply AH|refine Ae () ?_ ?_|((first|apply AO|apply AN|apply AM|apply AL|apply AG|apply AF|apply AE|apply AD|apply AC)<;>try dsimp only)|apply Ae|(refine Prod.forall.2 ?_;intro _;try dsimp only)|(intro _;try dsimp only))<;>(try dsimp only at*)<;>(try simp only[AR,List.length_cons,List.length_nil])<;>(try omega)
 all_goals simp [Fv,NJ, *])
def Hv:Sig:= {X:=List UInt8×Int,args:=fun x=>[.str x.1,.int .i64 x.2],pre:=fun x=>0≤x.2∧x.2≤x.1.length∧x.1.length<2^62,Y:=Unit,post:=fun x y=>True,res:=fun x y=> .int .i64 (CD (x.1.drop x.2.toNat)),outs:=fun x y=>[.top,.top],keep:=false}
def PI(x:List UInt8×Int):LS:= {ι:=Int,inv:=fun i=>qI x i,regs:=fun i=>[(0,.str x.1),(1,.int .i64 x.2),(5,.int .i64 i)],als:=[],meas:=fun i=>x.1.length-i.toNat}
theorem Ys:Aj G Tryz.prog 80 Hv:=
 vcFun_okP [(109,0,Ii)] [] false (fun x=>[(2,PI x)]) Tryz.func80 rfl (by decide) ⟨XZ,trivial⟩ (fun(x:List UInt8×Int)=>(∀(y:Unit),True→True∧True∧True∧True)∧inR IntKind.i64 (x.2+(1:Int))∧eA (PI x) [.str x.1,.int .i64 x.2,.int .i64 (x.2+(1:Int))]∧∀(i:Int),qI x i→Aa (decide (i<(↑(List.length x.1):Int))) (((0:Int)≤i∧i<(↑(List.length x.1):Int))∧∀(c:UInt8),x.1[Int.toNat i]? =some c→Aa ((↑(UInt8.toNat c):Int)==(39:Int)) (inR IntKind.i64 (i+(1:Int))∧inR IntKind.i64 (i+(1:Int)-x.2)∧rA Hv x [.int .i64 (i+(1:Int)-x.2),.top,.top]) (((0:Int)≤i∧i<(↑(List.length x.1):Int))∧∀(c:UInt8),x.1[Int.toNat i]? =some c→cA Ii [AV.int IntKind.u8 (↑(UInt8.toNat c):Int)] fun x_1 y=>Aa (!Ck x_1) (rA Hv x [.int .i64 (0:Int),.top,.top]) (inR IntKind.i64 (i+(1:Int))∧eN (PI x) i [.str x.1,.int .i64 x.2,.int .i64 (i+(1:Int))]))) (rA Hv x [.int .i64 (0:Int),.top,.top])) (fun x=>by kernel_rfl) fun(x:List UInt8×Int) (hx:0≤x.2∧x.2≤x.1.length∧x.1.length<2^62)=>(by
 dsimp only[cA,eA,eN,PI,rA,Ii,Hv,Av,AB,mvL,lnL,mvE,lnE,Bw]
 obtain⟨h1,h2,h3⟩:=hx
 (repeat' first|(with_reducible first|rfl|exact True.intro|apply AK|apply And.intro|((first|apply Az|apply AI|apply AA|apply AJ)<;>intro _))|(apply Aw<;>intro _)|apply AH|refine Ae () ?_ ?_|((first|apply AO|apply AN|apply AM|apply AL|apply AG|apply AF|apply AE|apply AD|apply AC)<;>try dsimp only)|apply Ae|(refine Prod.forall.2 ?_;intro _;try dsimp only)|(intro _;try dsimp only))<;>(try dsimp only at*)<;>(try simp only[AR,List.length_cons,List.length_nil])<;>(try omega)
 all_goals first
  |exact a6b
  |exact a6d h1 ‹_› ‹_› ‹_›
  |exact a6e h1 ‹_› ‹_› ‹_› ‹_› ‹_›
  |exact a6f h1 ‹_› ‹_› ‹_› ‹_› ‹_› ‹_›
  |exact a6g h1 ‹_› ‹_›
  |(have hI:=a6c ‹_›;omega))
def Gv:Sig:= {X:=List UInt8×Int,args:=fun x=>[.str x.1,.int .i64 x.2],pre:=fun x=>0≤x.2∧x.2≤x.1.length∧x.1.length<2^62,Y:=Unit,post:=fun x y=>True,res:=fun x y=> .int .i64 (Cs (x.1.drop x.2.toNat)),outs:=fun x y=>[.top,.top],keep:=false}
def PJ(x:List UInt8×Int):LS:= {ι:=Int,inv:=fun i=>nI x i,regs:=fun i=>[(0,.str x.1),(1,.int .i64 x.2),(5,.int .i64 i)],als:=[],meas:=fun i=>x.1.length-i.toNat}
theorem Yt:Aj G Tryz.prog 76 Gv:=
 vcFun_okP [(109,0,Ii)] [] false (fun x=>[(4,PJ x)]) Tryz.func76 rfl (by decide) ⟨XZ,trivial⟩ (fun(x:List UInt8×Int)=>(∀(y:Unit),True→True∧True∧True∧True)∧inR IntKind.i64 (x.2+(2:Int))∧Aa (decide (x.2+(2:Int)>(↑(List.length x.1):Int))) (rA Gv x [.int .i64 (0:Int),.top,.top]) (inR IntKind.i64 (x.2+(2:Int))∧((0:Int)≤x.2∧x.2≤x.2+(2:Int)∧x.2+(2:Int)≤(↑(List.length x.1):Int))∧Aa (!List.drop (Int.toNat x.2) (List.take (Int.toNat (x.2+(2:Int))) x.1)== #[(47:UInt8),(47:UInt8)].toList) (rA Gv x [.int .i64 (0:Int),.top,.top]) (eA (PJ x) [.str x.1,.int .i64 x.2,.int .i64 x.2]∧∀(i:Int),nI x i→Aa (decide (i<(↑(List.length x.1):Int))) (((0:Int)≤i∧i<(↑(List.length x.1):Int))∧∀(c:UInt8),x.1[Int.toNat i]? =some c→Aa ((↑(UInt8.toNat c):Int) != (10:Int)) (((0:Int)≤i∧i<(↑(List.length x.1):Int))∧∀(c:UInt8),x.1[Int.toNat i]? =some c→cA Ii [AV.int IntKind.u8 (↑(UInt8.toNat c):Int)] fun x_1 y=>Aa (!Ck x_1) (rA Gv x [.int .i64 (0:Int),.top,.top]) (inR IntKind.i64 (i+(1:Int))∧eN (PJ x) i [.str x.1,.int .i64 x.2,.int .i64 (i+(1:Int))])) (inR IntKind.i64 (i-x.2)∧rA Gv x [.int .i64 (i-x.2),.top,.top])) (inR IntKind.i64 (i-x.2)∧rA Gv x [.int .i64 (i-x.2),.top,.top])))) (fun x=>by kernel_rfl) fun(x:List UInt8×Int) (hx:0≤x.2∧x.2≤x.1.length∧x.1.length<2^62)=>(by
 dsimp only[cA,eA,eN,PJ,rA,Gv,Ii,Av,AB,mvL,lnL,mvE,lnE,Bw]
 obtain⟨h1,h2,h3⟩:=hx
 (repeat' first|(with_reducible first|rfl|exact True.intro|apply AK|apply And.intro|((first|apply Az|apply AI|apply AA|apply AJ)<;>intro _))|(apply Aw<;>intro _)|apply AH|refine Ae () ?_ ?_|((first|apply AO|apply AN|apply AM|apply AL|apply AG|apply AF|apply AE|apply AD|apply AC)<;>try dsimp only)|apply Ae|(refine Prod.forall.2 ?_;intro _;try dsimp only)|(intro _;try dsimp only))<;>(try dsimp only at*)<;>(try simp only[AR,List.length_cons,List.length_nil])<;>(try omega)
 all_goals first
  |exact a6j h1 ‹_›
  |exact a6i h1 ‹_›
  |exact a6h h1 h2 ‹_›
  |exact a6k h1 ‹_› ‹_› ‹_› ‹_› ‹_›
  |exact a6l h1 ‹_› ‹_› ‹_› ‹_› ‹_› ‹_›
  |exact a6m h1 ‹_› ‹_› ‹_›
  |exact a6n h1 ‹_› ‹_›
  |(have hI:=(‹nI _ _› :nI _ _).1;omega))
def FA:Sig:= {X:=List UInt8,args:=fun x=>[.str x],pre:=fun x=>x.length<2^62,Y:=Unit,post:=fun x y=>True,res:=fun x y=> .bool (DP x),outs:=fun x y=>[.top],keep:=false}
def NN(x:List UInt8):LS:= {ι:=Int,inv:=fun i=>nmI x i,regs:=fun i=>[(0,.str x),(3,.int .i64 i)],als:=[],meas:=fun i=>x.length-i.toNat}
theorem a6G:Aj G Tryz.prog 150 FA:=
 vcFun_okP [(53,0,CV),(78,0,ET),(105,0,FU),(79,0,Fw)] [] false (fun x=>[(4,NN x)]) Tryz.func150 rfl (by decide) ⟨KF,XY,TM,TF,trivial⟩ (fun(x:List UInt8)=>(∀(y:Unit),True→True∧True∧True)∧cA CV [.int .i64 (↑(List.length x):Int),.int .i64 (1:Int),.int .i64 (30:Int)] fun x_1 y=>Aa (!inn x_1.1 x_1.2.1 x_1.2.2) (rA FA x [.bool false,.top]) (((0:Int)≤(0:Int)∧(0:Int)<(↑(List.length x):Int))∧∀(c:UInt8),x[(0:Nat)]? =some c→cA ET [AV.int IntKind.u8 (↑(UInt8.toNat c):Int)] fun x_2 y=>Aa (!Cu x_2) (rA FA x [.bool false,.top]) (cA FU [.str x] fun x_3 y=>Aa (kw x_3) (rA FA x [.bool false,.top]) (eA (NN x) [.str x,.int .i64 (0:Int)]∧∀(i:Int),nmI x i→Aa (decide (i<(↑(List.length x):Int))) (((0:Int)≤i∧i<(↑(List.length x):Int))∧∀(c:UInt8),x[Int.toNat i]? =some c→cA ET [AV.int IntKind.u8 (↑(UInt8.toNat c):Int)] fun x_4 y=>Aa (!Cu x_4) (((0:Int)≤i∧i<(↑(List.length x):Int))∧∀(c:UInt8),x[Int.toNat i]? =some c→cA Fw [AV.int IntKind.u8 (↑(UInt8.toNat c):Int)] fun x_5 y=>Aa (!Bt x_5) (rA FA x [.bool false,.top]) (inR IntKind.i64 (i+(1:Int))∧eN (NN x) i [.str x,.int .i64 (i+(1:Int))])) (inR IntKind.i64 (i+(1:Int))∧eN (NN x) i [.str x,.int .i64 (i+(1:Int))])) (rA FA x [.bool true,.top]))))) (fun x=>by kernel_rfl) fun(x:List UInt8) (hx:x.length<2^62)=>(by
 dsimp only[cA,eA,eN,NN,rA,CV,Fw,ET,FA,FU,Av,AB,mvL,lnL,mvE,lnE,Bw]
 have hp:∀h:inn x.length 1 30=true,1≤x.length:=fun h=>by simp [inn] at h;omega
 (repeat' first|(with_reducible first|rfl|exact True.intro|apply AK|apply And.intro|((first|apply Az|apply AI|apply AA|apply AJ)<;>intro _))|(apply Aw<;>intro _)|apply AH|refine Ae () ?_ ?_|((first|apply AO|apply AN|apply AM|apply AL|apply AG|apply AF|apply AE|apply AD|apply AC)<;>try dsimp only)|apply Ae|(refine Prod.forall.2 ?_;intro _;try dsimp only)|(intro _;try dsimp only))<;>(try dsimp only at*)<;>(try simp only[AR,List.length_cons,List.length_nil])<;>(try omega)
 all_goals(try(have:=hp ‹_›;omega))
 all_goals(try(have hI:=(‹nmI _ _› :nmI _ _).1;omega))
 ·rename_i h;exact TL (fun hh=>by rw[hh.1] at h;cases h)
 ·rename_i c hc _ _ h;exact TL (fun hh=>by rw[Yl hc,h] at hh;cases hh.2.1)
 ·rename_i h;exact TL (fun hh=>by rw[hh.2.2] at h;cases h)
 ·rename_i h1 c hc _ _ h2 _ _ h3;exact a6o h1 (by rw[Yl hc];exact h2) h3
 ·rename_i i hi hl c hc _ _ h1 d hd _ _ h2
  rw[hc] at hd;cases hd
  exact a6p hi hc (by simp [BO,h1,h2])
 ·rename_i i hi hl c hc _ _ h1 d hd _ _ h2
  rw[hc] at hd;cases hd
  exact Ym hi hc hl (by simp [BO,h2])
 ·rename_i i hi hl c hc _ _ h1
  exact Ym hi hc hl (by simp [BO,h1])
 ·exact a6q ‹_› ‹_›)
def KN:Sig:= {X:=List UInt8,args:=fun x=>[.str x],pre:=fun x=>x.length<2^62,Y:=Unit,post:=fun x y=>True,res:=fun x y=> .bool (Cx x 2),outs:=fun x y=>[.top],keep:=false}
theorem a6H:Aj G Tryz.prog 151 KN:=
 vcFun_okP [(53,0,CV),(79,0,Fw)] [] false (fun x=>[(2,Eb Bt x fun i=>[(0,.str x),(3,.int .i64 i)])]) Tryz.func151 rfl (by decide) ⟨KF,TF,trivial⟩ (fun(x:List UInt8)=>(∀(y:Unit),True→True∧True∧True)∧eA (Eb Bt x fun(i:Int)=>[((0:Nat),.str x),((3:Nat),.int .i64 i)]) [.str x,.int .i64 (0:Int)]∧∀(i:Int),((0:Int)≤i∧i≤(↑(List.length x):Int)∧∀(e:UInt8),e∈List.take (Int.toNat i) x→Bt e=true)→Aa (decide (i<(↑(List.length x):Int))) (((0:Int)≤i∧i<(↑(List.length x):Int))∧∀(c:UInt8),x[Int.toNat i]? =some c→cA Fw [AV.int IntKind.u8 (↑(UInt8.toNat c):Int)] fun x_1 y=>Aa (!Bt x_1) (rA KN x [.bool false,.top]) (inR IntKind.i64 (i+(1:Int))∧eN (Eb Bt x fun(i:Int)=>[((0:Nat),.str x),((3:Nat),.int .i64 i)]) i [.str x,.int .i64 (i+(1:Int))])) (cA CV [.int .i64 (↑(List.length x):Int),.int .i64 (1:Int),.int .i64 (12:Int)] fun x_1 y=>rA KN x [.bool (inn x_1.1 x_1.2.1 x_1.2.2),.top])) (fun x=>by kernel_rfl) fun(x:List UInt8) (hx:x.length<2^62)=>(by
 dsimp only[cA,eA,eN,Eb,rA,CV,Fw,KN,Av,AB,mvL,lnL,mvE,lnE,Bw]
 (repeat' first|(with_reducible first|rfl|exact True.intro|apply AK|apply And.intro|((first|apply Az|apply AI|apply AA|apply AJ)<;>intro _))|(apply Aw<;>intro _)|apply AH|refine Ae () ?_ ?_|((first|apply AO|apply AN|apply AM|apply AL|apply AG|apply AF|apply AE|apply AD|apply AC)<;>try dsimp only)|apply Ae|(refine Prod.forall.2 ?_;intro _;try dsimp only)|(intro _;try dsimp only))<;>(try dsimp only at*)<;>(try simp only[AR,List.length_cons,List.length_nil])<;>(try omega)
 ·rename_i h;simp at h
 ·rename_i i hi hl c hc _ _ h;rw[Yh,Pz hc h];rfl
 ·rename_i i hi hl c hc _ _ h e he
  rw[Dd hi.1] at he;exact NK hi.2.2 hc h e he
 ·rename_i i hi hl _ _;rw[Yh,Ty hi.2.2 (by omega)];simp only[Bool.true_and,inn];rw[Bool.eq_iff_iff];simp;omega)
def JO:Sig:= {X:=List UInt8,args:=fun x=>[.str x],pre:=fun x=>x.length<2^62,Y:=Unit,post:=fun x y=>True,res:=fun x y=> .bool (Cx x 3),outs:=fun x y=>[.top],keep:=false}
theorem a6I:Aj G Tryz.prog 152 JO:=
 vcFun_okP [(80,0,Hv)] [] false (fun x=>[]) Tryz.func152 rfl (by decide) ⟨Ys,trivial⟩ (fun(x:List UInt8)=>(∀(y:Unit),True→True∧True∧True)∧Aa (decide ((↑(List.length x):Int)>(1:Int))) (((0:Int)≤(0:Int)∧(0:Int)<(↑(List.length x):Int))∧∀(c:UInt8),x[(0:Nat)]? =some c→Aa ((↑(UInt8.toNat c):Int)==(39:Int)) (cA Hv [.str x,.int .i64 (0:Int)] fun x_1 y=>rA JO x [.bool ((↑(CD (List.drop (Int.toNat x_1.2) x_1.1)):Int)==(↑(List.length x):Int)),.top]) (rA JO x [.bool false,.top])) (rA JO x [.bool false,.top])) (fun x=>by kernel_rfl) fun(x:List UInt8) (hx:x.length<2^62)=>(by
 dsimp only[cA,rA,Hv,JO,Av,AB,mvL,lnL,mvE,lnE]
 (repeat' first|(with_reducible first|rfl|exact True.intro|apply AK|apply And.intro|((first|apply Az|apply AI|apply AA|apply AJ)<;>intro _))|(apply Aw<;>intro _)|apply AH|refine Ae () ?_ ?_|((first|apply AO|apply AN|apply AM|apply AL|apply AG|apply AF|apply AE|apply AD|apply AC)<;>try dsimp only)|apply Ae|(refine Prod.forall.2 ?_;intro _;try dsimp only)|(intro _;try dsimp only))<;>(try dsimp only at*)<;>(try simp only[AR,List.length_cons,List.length_nil])<;>(try omega)
 ·exact a6r ‹_› ‹_› ‹_›
 ·exact a6s ‹_› ‹_›
 ·exact a6t ‹_›)
def JP:Sig:= {X:=List UInt8,args:=fun x=>[.str x],pre:=fun x=>x.length<2^62,Y:=Unit,post:=fun x y=>True,res:=fun x y=> .bool (Cx x 5),outs:=fun x y=>[.top],keep:=false}
theorem a6J:Aj G Tryz.prog 153 JP:=
 vcFun_okP [(76,0,Gv),(77,0,Ij)] [] false (fun x=>[]) Tryz.func153 rfl (by decide) ⟨Yt,Yo,trivial⟩ (fun(x:List UInt8)=>(∀(y:Unit),True→True∧True∧True)∧Aa (decide ((↑(List.length x):Int)>(1:Int))) (cA Gv [.str x,.int .i64 (0:Int)] fun x_1 y=>Aa ((↑(Cs (List.drop (Int.toNat x_1.2) x_1.1)):Int)==(↑(List.length x):Int)) (cA Ij [.str x] fun x_2 y=>rA JP x [.bool (CH x_2==x),.top]) (rA JP x [.bool false,.top])) (rA JP x [.bool false,.top])) (fun x=>by kernel_rfl) fun(x:List UInt8) (hx:x.length<2^62)=>(by
 dsimp only[cA,rA,Gv,JP,Ij,Av,AB,mvL,lnL,mvE,lnE]
 (repeat' first|(with_reducible first|rfl|exact True.intro|apply AK|apply And.intro|((first|apply Az|apply AI|apply AA|apply AJ)<;>intro _))|(apply Aw<;>intro _)|apply AH|refine Ae () ?_ ?_|((first|apply AO|apply AN|apply AM|apply AL|apply AG|apply AF|apply AE|apply AD|apply AC)<;>try dsimp only)|apply Ae|(refine Prod.forall.2 ?_;intro _;try dsimp only)|(intro _;try dsimp only))<;>(try dsimp only at*)<;>(try simp only[AR,List.length_cons,List.length_nil])<;>(try omega)
 ·exact a6u ‹_› ‹_›
 ·exact a6v ‹_›
 ·exact a6w ‹_›)
def Gw:Sig:= {X:=List UInt8,args:=fun x=>[.str x],pre:=fun x=>x.length<2^62,Y:=Unit,post:=fun x y=>True,res:=fun x y=> .bool (NJ x),outs:=fun x y=>[.top],keep:=false}
theorem a6K:Aj G Tryz.prog 154 Gw:=
 vcFun_okP [] [] false (fun x=>[]) Tryz.func154 rfl (by decide) trivial (fun(x:List UInt8)=>(∀(y:Unit),True→True∧True∧True)∧Aa (x== #[(38:UInt8),(38:UInt8)].toList) (rA Gw x [.bool true,.top]) (Aa (x== #[(124:UInt8),(124:UInt8)].toList) (rA Gw x [.bool true,.top]) (Aa (x== #[(61:UInt8),(61:UInt8)].toList) (rA Gw x [.bool true,.top]) (Aa (x== #[(60:UInt8)].toList) (rA Gw x [.bool true,.top]) (Aa (x== #[(43:UInt8)].toList) (rA Gw x [.bool true,.top]) (Aa (x== #[(45:UInt8)].toList) (rA Gw x [.bool true,.top]) (Aa (x== #[(42:UInt8)].toList) (rA Gw x [.bool true,.top]) (rA Gw x [.bool false,.top])))))))) (fun x=>by kernel_rfl) fun(x:List UInt8) (hx:x.length<2^62)=>(by
 dsimp only[rA,Gw,Av,AB]
 (repeat' first|(with_reducible first|rfl|exact True.intro|apply AK|apply And.intro|((first|apply Az|apply AI|apply AA|apply AJ)<;>intro _))|(apply Aw<;>intro _)|apply AH|refine Ae () ?_ ?_|((first|apply AO|apply AN|apply AM|apply AL|apply AG|apply AF|apply AE|apply AD|apply AC)<;>try dsimp only)|apply Ae|(refine Prod.forall.2 ?_;intro _;try dsimp only)|(intro _;try dsimp only))<;>(try dsimp only at*)<;>(try simp only[AR,List.length_cons,List.length_nil])<;>(try omega)
 all_goals simp [NJ, *])
def Fh:Sig:= {X:=Int×List UInt8,args:=fun x=>[.int .i64 x.1,.str x.2],pre:=fun x=>x.2.length<2^62,Y:=Unit,post:=fun x y=>True,res:=fun x y=> .bool (Fv x.1 x.2),outs:=fun x y=>[.top,.top],keep:=false}
theorem a6L:Aj G Tryz.prog 116 Fh:=
 vcFun_okP [(150,0,FA),(151,0,KN),(152,0,JO),(153,0,JP),(154,0,Gw)] [] false (fun x=>[]) Tryz.func116 rfl (by decide) ⟨a6G,a6H,a6I,a6J,a6K,trivial⟩ (fun(x:Int×List UInt8)=>(∀(y:Unit),True→True∧True∧True∧True)∧Aa (x.1==(1:Int)) (cA FA [.str x.2] fun x_1 y=>rA Fh x [.bool (DP x_1),.top,.top]) (Aa (x.1==(6:Int)) (cA FA [.str x.2] fun x_1 y=>rA Fh x [.bool (DP x_1),.top,.top]) (Aa (x.1==(12:Int)) (cA FA [.str x.2] fun x_1 y=>rA Fh x [.bool (DP x_1),.top,.top]) (Aa (x.1==(13:Int)) (cA FA [.str x.2] fun x_1 y=>rA Fh x [.bool (DP x_1),.top,.top]) (Aa (x.1==(20:Int)) (cA FA [.str x.2] fun x_1 y=>rA Fh x [.bool (DP x_1),.top,.top]) (Aa (x.1==(21:Int)) (cA FA [.str x.2] fun x_1 y=>rA Fh x [.bool (DP x_1),.top,.top]) (Aa (x.1==(2:Int)) (cA KN [.str x.2] fun x_1 y=>rA Fh x [.bool (Cx x_1 (2:Int)),.top,.top]) (Aa (x.1==(3:Int)) (cA JO [.str x.2] fun x_1 y=>rA Fh x [.bool (Cx x_1 (3:Int)),.top,.top]) (Aa (x.1==(19:Int)) (cA JP [.str x.2] fun x_1 y=>rA Fh x [.bool (Cx x_1 (5:Int)),.top,.top]) (Aa (x.1==(7:Int)) (cA Gw [.str x.2] fun x_1 y=>rA Fh x [.bool (NJ x_1),.top,.top]) (rA Fh x [.bool (x.2== #[].toList),.top,.top]))))))))))) (fun x=>by kernel_rfl) fun(x:Int×List UInt8) (hx:x.2.length<2^62)=>(by
 dsimp only[cA,rA,Gw,FA,JP,KN,JO,Fh,Av,AB,mvL,lnL,mvE,lnE]
 (repeat' first|(with_reducible first|rfl|exact True.intro|apply AK|apply And.intro|((first|apply Az|apply AI|apply AA|apply AJ)<;>intro _))|(apply Aw<;>intro _)|apply AH|refine Ae () ?_ ?_|((first|apply AO|apply AN|apply AM|apply AL|apply AG|apply AF|apply AE|apply AD|apply AC)<;>try dsimp only)|apply Ae|(refine Prod.forall.2 ?_;intro _;try dsimp only)|(intro _;try dsimp only))<;>(try dsimp only at*)<;>(try simp only[AR,List.length_cons,List.length_nil])<;>(try omega)
 all_goals simp [Fv, *])
end Go.My
end
section
set_option linter.unusedVariables false
set_option linter.unusedSimpArgs false
namespace Go.My
open Go.Eng
def CW(k:Int):Int×Int:=
 if k=4∨k=18∨k=21∨k=22 then(0,12)
 else if k=5∨k=9∨k=20 then(1,12)
 else if k=6∨k=11∨k=13∨k=14 then(1,1)
 else if k=7∨k=10 then(2,12)
 else if k=8 then(3,3)
 else if k=12∨k=15 then(0,1)
 else if k=16 then(2,3)
 else if k=17 then(2,2)
 else(0,0)
def Gx(k n i y:Int):Bool:=
 if k=9 then(if i+1<n then EF y else BM y)
 else if k=20 then(if i+1<n then EF y else Ea y)
 else if k=10 then(if 0<i then FS y else BM y)
 else if k=16∨k=17 then(if 0<i then Ea y else BM y)
 else if k=18 then ER y
 else if k=21 then EQ y
 else if k=22 then GU y
 else BM y
def KO(ns:List Nd)(x:Nd)(i c:Int):Bool:=
 Gx x.kind x.kids.length i (Cg ns c)&&(if x.kind=10∧0<i then decide (Cg ns ((An ns c).kids.headD 0)=1) else true)
def DS(ns:List Nd)(x:Nd)(i c:Int):Bool:=
 (!(decide (Cg ns c=5)&&(decide ((An ns c).kids.length=0)|| !BP ns ((An ns c).kids.headD 0))))&&KO ns x i c
def BU(f:Int→Int→Bool):List Int→Int→Bool
 |[],_=>true
 |c::l,i=>f i c&&BU f l (i+1)
theorem TN{f g:Int→Int→Bool}:∀ {l:List Int} {i:Int},(∀j c,i≤j→j<i+l.length→c∈l→f j c=g j c)→BU f l i=BU g l i
 |[],i,h=>rfl
 |c::l,i,h=>by
  simp only[BU]
  rw[h i c (Int.le_refl i) (by simp;omega) (by simp),TN (fun j c hj hl hc=>h j c (by omega) (by simp;omega) (by simp [hc]))]
theorem Yu{f g:Int→Int→Bool}:∀ {l:List Int} {i:Int},BU (fun i c=>f i c&&g i c) l i=(BU f l i&&BU g l i)
 |[],i=>rfl
 |c::l,i=>by
  simp only[BU];rw[Yu]
  cases f i c<;>cases g i c<;>cases BU f l (i+1)<;>cases BU g l (i+1)<;>rfl
theorem PK{f:Int→Bool}:∀ {l:List Int} {i:Int},BU (fun _ c=>f c) l i=l.all f
 |[],i=>rfl
 |c::l,i=>by simp only[BU,List.all_cons];rw[PK]
theorem Yv{f:Int→Int→Bool}{g:Int→Int}:∀ {l:List Int} {i:Int},BU f (l.map g) i=BU (fun i c=>f i (g c)) l i
 |[],i=>rfl
 |c::l,i=>by simp only[BU,List.map_cons];rw[Yv]
theorem Yw{f:Int→Int→Bool}:∀ {l m:List Int} {i:Int},BU f (l++m) i=(BU f l i&&BU f m (i+l.length))
 |[],m,i=>by simp [BU]
 |c::l,m,i=>by
  simp only[List.cons_append,BU];rw[Yw,Bool.and_assoc]
  congr 2;congr 1;simp;omega
theorem TO{f:Int→Int→Bool}:∀ {l:List Int} {i:Nat},((l.zipIdx i).all fun p=>f p.2 p.1)=BU f l i
 |[],i=>rfl
 |c::l,i=>by
  simp only[List.zipIdx_cons,List.all_cons,BU];rw[TO];congr 2
theorem TP{f:Int→Int→Bool}{l:List Int}:BU f l 0=true↔∀(j:Nat) c,l[j]? =some c→f j c=true:=by
 have:∀(l:List Int) (i:Nat),BU f l i=true↔∀(j:Nat) c,l[j]? =some c→f (i+j:Nat) c=true:=by
  intro l
  induction l with
  |nil=>intro i;simp [BU]
  |cons c l ih=>
   intro i
   simp only[BU,Bool.and_eq_true]
   have:=ih (i+1)
   rw[show((i:Int)+1)=((i+1:Nat):Int) from by omega,this]
   constructor
   ·rintro⟨h1,h2⟩ j d hd
    cases j with
    |zero=>simp at hd;subst hd;simpa using h1
    |succ j=>have:=h2 j d (by simpa using hd);rwa [show i+1+j=i+(j+1) by omega] at this
   ·intro h
    refine⟨by simpa using h 0 c rfl,fun j d hd=> ?_⟩
    have:=h (j+1) d (by simpa using hd)
    rwa [show i+(j+1)=i+1+j by omega] at this
 have:=this l 0
 simpa using this
theorem a6M{l:List Int}{k:Int}(h:l.getLast? =some k):l=l.dropLast++[k]:=by
 have hne:l≠[]:=by intro e;rw[e] at h;cases h
 rw[List.getLast?_eq_some_getLast hne] at h
 have:=List.dropLast_concat_getLast hne
 rw[Option.some.inj h] at this;exact this.symm
theorem Yx{p:Int→Bool}{l:List Int}:(decide (1≤l.length)&&BU (fun i y=>if i+1<(l.length:Int) then EF y else p y) l 0)=Hr p l:=by
 unfold Hr
 cases h:l.getLast? with
 |none=>have:l=[]:=by simpa using h
        subst this;rfl
 |some k=>
  have e:=a6M h
  generalize hd:l.dropLast=m at e ⊢
  subst e
  rw[Yw]
  have h1:BU (fun i y=>if i+1<((m++[k]).length:Int) then EF y else p y) m 0=m.all EF:=by
   rw[←PK (i:=0)]
   exact TN fun j c h0 hj hc=>if_pos (by simp;omega)
  rw[h1]
  simp only[BU]
  have h2:¬((0:Int)+m.length+1<((m++[k]).length:Int)):=by simp
  rw[if_neg h2]
  have:decide (1≤(m++[k]).length)=true:=by simp
  rw[this];simp [Bool.and_comm]
theorem Yy{p q:Int→Bool}{c:Int}{l:List Int}:BU (fun i y=>if 0<i then q y else p y) (c::l) 0=(p c&&l.all q):=by
 simp only[BU]
 have h1:¬((0:Int)<0):=by omega
 rw[if_neg h1]
 congr 1
 rw[←PK (i:=0+1)]
 exact TN fun j c h0 hj hc=>if_pos (by omega)
theorem Yz{k:Int}{l:List Int}(h1:1≤k)(h2:k≤22):(inn l.length (CW k).1 (CW k).2&&BU (fun i y=>Gx k l.length i y) l 0)=(decide (l.length≤12)&&El k l):=by
 have hk:k=1∨k=2∨k=3∨k=4∨k=5∨k=6∨k=7∨k=8∨k=9∨k=10∨k=11∨k=12∨k=13∨k=14∨k=15∨k=16∨k=17∨k=18∨k=19∨k=20∨k=21∨k=22:=by omega
 have len0:∀ {b c:Bool},l.length=0→(l=[]):=fun h=>List.length_eq_zero_iff.1 h
 rcases hk with rfl|rfl|rfl|rfl|rfl|rfl|rfl|rfl|rfl|rfl|rfl|rfl|rfl|rfl|rfl|rfl|rfl|rfl|rfl|rfl|rfl|rfl
 all_goals simp only[CW,Gx,El,inn,Int.reduceEq,or_self,or_false,false_or,or_true,true_or,if_true,if_false,reduceIte]
 all_goals try(
  by_cases h:l.length=0
  ·have:=List.length_eq_zero_iff.1 h;subst this;rfl
  ·have e1:decide ((l.length:Int)≤0)=false:=decide_eq_false (by omega)
   have e2:decide (l.length=0)=false:=decide_eq_false h
   simp only[e1,e2,Bool.and_false,Bool.false_and];done)
 all_goals try rw[PK]
 all_goals try(
  generalize l.all _=b
  rw[Bool.eq_iff_iff];cases b<;>simp only[Bool.and_eq_true,decide_eq_true_eq,Bool.false_eq_true,and_false,and_true]<;>omega)
 ·rw[show decide (1≤(l.length:Int))=decide (1≤l.length) from decide_eq_decide.2 (by omega),show decide ((l.length:Int)≤12)=decide (l.length≤12) from decide_eq_decide.2 (by omega),←Yx (p:=BM)]
  generalize BU _ l 0=b
  cases decide (1≤l.length)<;>cases decide (l.length≤12)<;>cases b<;>rfl
 ·cases l with
  |nil=>rfl
  |cons c l=>
   rw[Yy]
   simp only[List.headD_cons,List.drop_succ_cons,List.drop_zero]
   generalize BM c=b;generalize l.all _=d
   rw[Bool.eq_iff_iff];cases b<;>cases d<;>simp only[Bool.and_eq_true,decide_eq_true_eq,Bool.false_eq_true,and_false,and_true]<;>omega
 ·cases l with
  |nil=>rfl
  |cons c l=>
   rw[Yy]
   simp only[List.headD_cons,List.drop_succ_cons,List.drop_zero]
   generalize BM c=b;generalize l.all _=d
   rw[Bool.eq_iff_iff];cases b<;>cases d<;>simp only[Bool.and_eq_true,decide_eq_true_eq,Bool.false_eq_true,and_false,and_true]<;>omega
 ·match l with
  |[]=>rfl
  |[c]=>rfl
  |[c,d]=>simp [BU]
  |c::d::e::l=>
   have e1:decide (((c::d::e::l).length:Int)≤2)=false:=decide_eq_false (by simp;omega)
   have e2:decide ((c::d::e::l).length=2)=false:=decide_eq_false (by simp)
   rw[e1,e2];simp
 ·rw[show decide (1≤(l.length:Int))=decide (1≤l.length) from decide_eq_decide.2 (by omega),show decide ((l.length:Int)≤12)=decide (l.length≤12) from decide_eq_decide.2 (by omega),←Yx (p:=Ea)]
  generalize BU _ l 0=b
  cases decide (1≤l.length)<;>cases decide (l.length≤12)<;>cases b<;>rfl
theorem YA{k:Int}{l:List Int}(h:inn k 1 22=false):El k l=false:=by
 have h:¬(1≤k∧k≤22):=by intro hh;simp [inn] at h;omega
 unfold El
 have e:∀j:Int,1≤j→j≤22→k≠j:=fun j h1 h2 e=>h (by omega)
 simp [e]
theorem a6N{ns:List Nd}{x:Nd}{i c:Int}:DS ns x i c=(Gx x.kind x.kids.length i (Cg ns c)&&CU ns x i.toNat c):=by
 unfold DS KO CU Cg
 generalize hy:An ns c=y
 by_cases h5:y.kind=5
 ·simp only[h5,if_true,decide_true,Bool.true_and]
  cases hk:y.kids with
  |nil=>simp
  |cons h t=>
   simp only[List.length_cons,List.headD_cons]
   have e0:decide (t.length+1=0)=false:=by simp
   rw[e0]
   by_cases hx:x.kind=10∧0<i
   ·have hi:0<i.toNat:=by omega
    simp only[hx,and_self,if_true,decide_true,Bool.true_and,hi]
    generalize Gx 10 _ _ _=a;generalize BP ns h=b
    by_cases hd:(An ns h).kind=1<;>cases a<;>cases b<;>simp [hd]
   ·rw[if_neg hx]
    have:(decide (x.kind=10)&&(decide (0<i.toNat)&& !decide ((An ns h).kind=1)))=false:=by
     by_cases h1:x.kind=10
     ·have:¬0<i.toNat:=by omega
      simp [this]
     ·simp [h1]
    rw[this]
    generalize Gx _ _ _ _=a;generalize BP ns h=b
    cases a<;>cases b<;>rfl
 ·simp only[h5,if_false,decide_false,Bool.false_and,Bool.not_false,Bool.true_and,Bool.and_true]
  by_cases hx:x.kind=10∧0<i
  ·rw[if_pos hx]
   have:Gx x.kind x.kids.length i y.kind=false:=by
    simp [Gx,hx,FS,h5]
   rw[this];rfl
  ·rw[if_neg hx];simp
theorem a6O{ns:List Nd}{k:Int}{x:Nd}:Ih ns k x=
 (inn x.kind 1 22&&(inn x.kids.length (CW x.kind).1 (CW x.kind).2&&(Fv x.kind x.text&&((Hs x.kind|| !x.blank)&&((DQ x.kids k&&decide x.kids.Nodup)&&BU (DS ns x) x.kids 0))))):=by
 have e1:BU (DS ns x) x.kids 0=(BU (fun i y=>Gx x.kind (x.kids.map (Cg ns)).length i y) (x.kids.map (Cg ns)) 0&&Ff ns x):=by
  have:(DS ns x)=fun i c=>(Gx x.kind x.kids.length i (Cg ns c)&&CU ns x i.toNat c):=by
   funext i c;exact a6N
  rw[this,Yu,Yv,List.length_map]
  congr 1
  unfold Ff
  have:(fun p:Int×Nat=>CU ns x p.2 p.1)=fun p:Int×Nat=>(fun(i c:Int)=>CU ns x i.toNat c) p.2 p.1:=by
   funext p;simp
  rw[this]
  exact(TO (f:=fun i c=>CU ns x i.toNat c) (i:=0)).symm
 unfold Ih
 by_cases h:inn x.kind 1 22=true
 ·have hb:= @Yz x.kind (x.kids.map (Cg ns)) (by simp [inn] at h;omega) (by simp [inn] at h;omega)
  rw[List.length_map] at hb
  rw[e1,List.length_map,h]
  generalize decide (x.kids.length≤12)=a at hb ⊢;generalize El x.kind _=b at hb ⊢;generalize inn _ _ _=c at hb ⊢
  generalize BU _ _ 0=d at hb ⊢;generalize Fv _ _=e;generalize Hs _=f;generalize Ff _ _=g;generalize DQ _ _=h1;generalize decide x.kids.Nodup=h2
  cases a<;>cases b<;>cases c<;>cases d<;>simp at hb<;>cases e<;>cases f<;>cases g<;>cases h1<;>cases h2<;>simp
 ·simp only[Bool.not_eq_true] at h
  rw[YA h,h];simp
end Go.My
end
section
set_option linter.unusedVariables false
set_option linter.unusedSimpArgs false
namespace Go.My
open Go.Eng Go.Proofs
variable {G:GInv}
theorem FW{a b:Int}:(a==b)=decide (a=b):=by rw[Bool.eq_iff_iff];simp
theorem a6P{α:Type}{p:α→Bool}{x:List α}{n:Nat}{e:α}(he:x[n]? =some e)(hp:p e=true)(h:∀e∈x.take n,p e=true):∀e∈x.take (n+1),p e=true:=by
 rw[DC he];intro d hd
 rcases List.mem_append.1 hd with hd|hd
 ·exact h d hd
 ·simp at hd;subst hd;exact hp
theorem a6Q{α:Type}{p:α→Bool}{x:List α}{n:Nat}(h:∀e∈x.take n,p e=true)(hn:x.length≤n):x.all p=true:=by
 rw[List.take_of_length_le hn] at h;exact List.all_eq_true.2 h
theorem KP{α:Type}{p:α→Bool}{x:List α}{n:Nat}{e:α}(he:x[n]? =some e)(hp:p e=false):x.all p=false:=by
 rw[Bool.eq_false_iff];intro h
 rw[List.all_eq_true.1 h e (List.mem_of_getElem? he)] at hp;cases hp
def FX:Sig:= {X:=Int,args:=fun x=>[.int .i64 x],pre:=fun x=>True,Y:=Unit,post:=fun x y=>True,res:=fun x y=> .bool (BM x),outs:=fun x y=>[.top],keep:=false}
theorem TQ:Aj G Tryz.prog 126 FX:=
 vcFun_okP [(58,0,Fg)] [] false (fun x=>[]) Tryz.func126 rfl (by decide) ⟨PC,trivial⟩ (fun(x:Int)=>(∀(y:Unit),True→True∧True∧True)∧cA Fg [.int .i64 x,.int .i64 (1:Int),.int .i64 (11:Int)] fun x_1 y=>rA FX x [.bool (inn x_1.1 x_1.2.1 x_1.2.2),.top]) (fun x=>by kernel_rfl) fun(x:Int) (hx:True)=>(by
 dsimp only[cA,rA,Fg,FX,Av,AB,mvL,lnL,mvE,lnE]
 (repeat' first|(with_reducible first|rfl|exact True.intro|apply AK|apply And.intro|((first|apply Az|apply AI|apply AA|apply AJ)<;>intro _))|(apply Aw<;>intro _)|apply AH|refine Ae () ?_ ?_|((first|apply AO|apply AN|apply AM|apply AL|apply AG|apply AF|apply AE|apply AD|apply AC)<;>try dsimp only)|apply Ae|(refine Prod.forall.2 ?_;intro _;try dsimp only)|(intro _;try dsimp only))<;>(try dsimp only at*)<;>(try simp only[AR,List.length_cons,List.length_nil])<;>(try omega)
 all_goals simp [BM,FW, *])
def IU:Sig:= {X:=Int,args:=fun x=>[.int .i64 x],pre:=fun x=>True,Y:=Unit,post:=fun x y=>True,res:=fun x y=> .bool (JN x),outs:=fun x y=>[.top],keep:=false}
theorem YB:Aj G Tryz.prog 34 IU:=
 vcFun_okP [(58,0,Fg)] [] false (fun x=>[]) Tryz.func34 rfl (by decide) ⟨PC,trivial⟩ (fun(x:Int)=>(∀(y:Unit),True→True∧True∧True)∧cA Fg [.int .i64 x,.int .i64 (12:Int),.int .i64 (17:Int)] fun x_1 y=>rA IU x [.bool (inn x_1.1 x_1.2.1 x_1.2.2),.top]) (fun x=>by kernel_rfl) fun(x:Int) (hx:True)=>(by
 dsimp only[cA,rA,Fg,IU,Av,AB,mvL,lnL,mvE,lnE]
 (repeat' first|(with_reducible first|rfl|exact True.intro|apply AK|apply And.intro|((first|apply Az|apply AI|apply AA|apply AJ)<;>intro _))|(apply Aw<;>intro _)|apply AH|refine Ae () ?_ ?_|((first|apply AO|apply AN|apply AM|apply AL|apply AG|apply AF|apply AE|apply AD|apply AC)<;>try dsimp only)|apply Ae|(refine Prod.forall.2 ?_;intro _;try dsimp only)|(intro _;try dsimp only))<;>(try dsimp only at*)<;>(try simp only[AR,List.length_cons,List.length_nil])<;>(try omega)
 all_goals simp [JN,FW, *])
def GX:Sig:= {X:=Int,args:=fun x=>[.int .i64 x],pre:=fun x=>True,Y:=Unit,post:=fun x y=>True,res:=fun x y=> .bool (Ea x),outs:=fun x y=>[.top],keep:=false}
theorem TR:Aj G Tryz.prog 129 GX:=
 vcFun_okP [] [] false (fun x=>[]) Tryz.func129 rfl (by decide) trivial (fun(x:Int)=>(∀(y:Unit),True→True∧True∧True)∧rA GX x [.bool (x==(18:Int)),.top]) (fun x=>by kernel_rfl) fun(x:Int) (hx:True)=>(by
 dsimp only[rA,GX,Av,AB]
 (repeat' first|(with_reducible first|rfl|exact True.intro|apply AK|apply And.intro|((first|apply Az|apply AI|apply AA|apply AJ)<;>intro _))|(apply Aw<;>intro _)|apply AH|refine Ae () ?_ ?_|((first|apply AO|apply AN|apply AM|apply AL|apply AG|apply AF|apply AE|apply AD|apply AC)<;>try dsimp only)|apply Ae|(refine Prod.forall.2 ?_;intro _;try dsimp only)|(intro _;try dsimp only))<;>(try dsimp only at*)<;>(try simp only[AR,List.length_cons,List.length_nil])<;>(try omega)
 all_goals simp [Ea,FW, *])
def FY:Sig:= {X:=Int,args:=fun x=>[.int .i64 x],pre:=fun x=>True,Y:=Unit,post:=fun x y=>True,res:=fun x y=> .bool (EQ x),outs:=fun x y=>[.top],keep:=false}
theorem TS:Aj G Tryz.prog 99 FY:=
 vcFun_okP [] [] false (fun x=>[]) Tryz.func99 rfl (by decide) trivial (fun(x:Int)=>(∀(y:Unit),True→True∧True∧True)∧Aa (x==(12:Int)) (rA FY x [.bool true,.top]) (Aa (x==(20:Int)) (rA FY x [.bool true,.top]) (rA FY x [.bool (x==(19:Int)),.top]))) (fun x=>by kernel_rfl) fun(x:Int) (hx:True)=>(by
 dsimp only[rA,FY,Av,AB]
 (repeat' first|(with_reducible first|rfl|exact True.intro|apply AK|apply And.intro|((first|apply Az|apply AI|apply AA|apply AJ)<;>intro _))|(apply Aw<;>intro _)|apply AH|refine Ae () ?_ ?_|((first|apply AO|apply AN|apply AM|apply AL|apply AG|apply AF|apply AE|apply AD|apply AC)<;>try dsimp only)|apply Ae|(refine Prod.forall.2 ?_;intro _;try dsimp only)|(intro _;try dsimp only))<;>(try dsimp only at*)<;>(try simp only[AR,List.length_cons,List.length_nil])<;>(try omega)
 all_goals simp [EQ,FW, *])
def Mr:Sig:= {X:=Int,args:=fun x=>[.int .i64 x],pre:=fun x=>True,Y:=Unit,post:=fun x y=>True,res:=fun x y=> .bool (FS x),outs:=fun x y=>[.top],keep:=false}
theorem a6R:Aj G Tryz.prog 128 Mr:=
 vcFun_okP [] [] false (fun x=>[]) Tryz.func128 rfl (by decide) trivial (fun(x:Int)=>(∀(y:Unit),True→True∧True∧True)∧rA Mr x [.bool (x==(5:Int)),.top]) (fun x=>by kernel_rfl) fun(x:Int) (hx:True)=>(by
 dsimp only[rA,Mr,Av,AB]
 (repeat' first|(with_reducible first|rfl|exact True.intro|apply AK|apply And.intro|((first|apply Az|apply AI|apply AA|apply AJ)<;>intro _))|(apply Aw<;>intro _)|apply AH|refine Ae () ?_ ?_|((first|apply AO|apply AN|apply AM|apply AL|apply AG|apply AF|apply AE|apply AD|apply AC)<;>try dsimp only)|apply Ae|(refine Prod.forall.2 ?_;intro _;try dsimp only)|(intro _;try dsimp only))<;>(try dsimp only at*)<;>(try simp only[AR,List.length_cons,List.length_nil])<;>(try omega)
 all_goals simp [FS,FW, *])
def KQ:Sig:= {X:=Int,args:=fun x=>[.int .i64 x],pre:=fun x=>True,Y:=Unit,post:=fun x y=>True,res:=fun x y=> .bool (ER x),outs:=fun x y=>[.top],keep:=false}
theorem a6S:Aj G Tryz.prog 130 KQ:=
 vcFun_okP [(34,0,IU)] [] false (fun x=>[]) Tryz.func130 rfl (by decide) ⟨YB,trivial⟩ (fun(x:Int)=>(∀(y:Unit),True→True∧True∧True)∧cA IU [.int .i64 x] fun x_1 y=>Aa (JN x_1) (rA KQ x [.bool true,.top]) (rA KQ x [.bool (x==(19:Int)),.top])) (fun x=>by kernel_rfl) fun(x:Int) (hx:True)=>(by
 dsimp only[cA,rA,IU,KQ,Av,AB,mvL,lnL,mvE,lnE]
 (repeat' first|(with_reducible first|rfl|exact True.intro|apply AK|apply And.intro|((first|apply Az|apply AI|apply AA|apply AJ)<;>intro _))|(apply Aw<;>intro _)|apply AH|refine Ae () ?_ ?_|((first|apply AO|apply AN|apply AM|apply AL|apply AG|apply AF|apply AE|apply AD|apply AC)<;>try dsimp only)|apply Ae|(refine Prod.forall.2 ?_;intro _;try dsimp only)|(intro _;try dsimp only))<;>(try dsimp only at*)<;>(try simp only[AR,List.length_cons,List.length_nil])<;>(try omega)
 all_goals simp [ER,FW, *])
def KR:Sig:= {X:=Int,args:=fun x=>[.int .i64 x],pre:=fun x=>True,Y:=Unit,post:=fun x y=>True,res:=fun x y=> .bool (GU x),outs:=fun x y=>[.top],keep:=false}
theorem a6T:Aj G Tryz.prog 131 KR:=
 vcFun_okP [(99,0,FY)] [] false (fun x=>[]) Tryz.func131 rfl (by decide) ⟨TS,trivial⟩ (fun(x:Int)=>(∀(y:Unit),True→True∧True∧True)∧cA FY [.int .i64 x] fun x_1 y=>Aa (EQ x_1) (rA KR x [.bool true,.top]) (rA KR x [.bool (x==(21:Int)),.top])) (fun x=>by kernel_rfl) fun(x:Int) (hx:True)=>(by
 dsimp only[cA,rA,FY,KR,Av,AB,mvL,lnL,mvE,lnE]
 (repeat' first|(with_reducible first|rfl|exact True.intro|apply AK|apply And.intro|((first|apply Az|apply AI|apply AA|apply AJ)<;>intro _))|(apply Aw<;>intro _)|apply AH|refine Ae () ?_ ?_|((first|apply AO|apply AN|apply AM|apply AL|apply AG|apply AF|apply AE|apply AD|apply AC)<;>try dsimp only)|apply Ae|(refine Prod.forall.2 ?_;intro _;try dsimp only)|(intro _;try dsimp only))<;>(try dsimp only at*)<;>(try simp only[AR,List.length_cons,List.length_nil])<;>(try omega)
 all_goals simp [GU,FW, *])
def Ms:Sig:= {X:=Int,args:=fun x=>[.int .i64 x],pre:=fun x=>True,Y:=Unit,post:=fun x y=>True,res:=fun x y=> .bool (EF x),outs:=fun x y=>[.top],keep:=false}
theorem a6U:Aj G Tryz.prog 161 Ms:=
 vcFun_okP [] [] false (fun x=>[]) Tryz.func161 rfl (by decide) trivial (fun(x:Int)=>(∀(y:Unit),True→True∧True∧True)∧rA Ms x [.bool (x==(1:Int)),.top]) (fun x=>by kernel_rfl) fun(x:Int) (hx:True)=>(by
 dsimp only[rA,Ms,Av,AB]
 (repeat' first|(with_reducible first|rfl|exact True.intro|apply AK|apply And.intro|((first|apply Az|apply AI|apply AA|apply AJ)<;>intro _))|(apply Aw<;>intro _)|apply AH|refine Ae () ?_ ?_|((first|apply AO|apply AN|apply AM|apply AL|apply AG|apply AF|apply AE|apply AD|apply AC)<;>try dsimp only)|apply Ae|(refine Prod.forall.2 ?_;intro _;try dsimp only)|(intro _;try dsimp only))<;>(try dsimp only at*)<;>(try simp only[AR,List.length_cons,List.length_nil])<;>(try omega)
 all_goals simp [EF,FW, *])
def Em(p:Int→Bool)(x:List Int)(i:Int):Prop:=0≤i∧i≤x.length∧∀e∈x.take i.toNat,p e=true
theorem KS{p:Int→Bool}{x:List Int}:Em p x 0:=⟨by omega,by omega,by simp⟩
theorem KT{p:Int→Bool}{x:List Int}{i:Int}{e:Int}(h:Em p x i)(he:x[i.toNat]? =some e)(hp:p e=true):Em p x (i+1):=by
 obtain⟨h1,h2,h3⟩:=h
 have:=(Ds he).1
 exact⟨by omega,by omega,by rw[Dd h1];exact a6P he hp h3⟩
theorem KU{p:Int→Bool}{x:List Int}{i:Int}(h:Em p x i)(hl:¬i<x.length):true=x.all p:=(a6Q h.2.2 (by omega)).symm
def Dg(p:Int→Bool)(c:AV)(x:List Int):LS:= {
 ι:=Int,inv:=Em p x,regs:=fun i=>[(0,AQ x),(1,c),(7,AQ x),(8,.int .i64 x.length),(9,.int .i64 i)],als:=[],meas:=fun i=>x.length-i.toNat}
def KV:Sig:= {X:=List Int,args:=fun x=>[AQ x,.clo (.func 126) []],pre:=fun x=>x.length<2^62,Y:=Unit,post:=fun x y=>True,res:=fun x y=> .bool (x.all BM),outs:=fun x y=>[.top,.top],keep:=false}
theorem a6V:Aj G Tryz.prog 125 KV:=
 vcFun_okP [(126,0,FX)] [] false (fun x=>[(2,Dg BM (.clo (.func 126) []) x)]) Tryz.func125 rfl (by decide) ⟨TQ,trivial⟩ (fun(x:List Int)=>(∀(y:Unit),True→True∧True∧True∧True)∧eA (Dg BM (AV.clo (.func 126) []) x) [AQ x,AV.clo (.func 126) [],AQ x,.int .i64 (↑(List.length x):Int),.int .i64 (0:Int)]∧∀(i:Int),Em BM x i→Aa (decide (i<(↑(List.length x):Int))) (((0:Int)≤i∧i<(↑(List.length x):Int))∧∀(e:Int),x[Int.toNat i]? =some e→cA FX [.int .i64 e] fun x_1 y=>Aa (!BM x_1) (rA KV x [.bool false,.top,.top]) (inR IntKind.i64 (i+(1:Int))∧eN (Dg BM (AV.clo (.func 126) []) x) i [AQ x,AV.clo (.func 126) [],AQ x,.int .i64 (↑(List.length x):Int),.int .i64 (i+(1:Int))])) (rA KV x [.bool true,.top,.top])) (fun x=>by kernel_rfl) fun(x:List Int) (hx:x.length<2^62)=>(by
 dsimp only[cA,eA,eN,AQ,Dg,rA,KV,FX,Av,AB,mvL,lnL,mvE,lnE,Bw]
 have hx:x.length<2^62:=hx
 (repeat' first|(with_reducible first|rfl|exact True.intro|apply AK|apply And.intro|((first|apply Az|apply AI|apply AA|apply AJ)<;>intro _))|(apply Aw<;>intro _)|apply AH|refine Ae () ?_ ?_|((first|apply AO|apply AN|apply AM|apply AL|apply AG|apply AF|apply AE|apply AD|apply AC)<;>try dsimp only)|apply Ae|(refine Prod.forall.2 ?_;intro _;try dsimp only)|(intro _;try dsimp only))
 all_goals first|exact KS|(rename_i i hi hl e he y _ hp;exact(KP he hp).symm)|(rename_i i hi hl e he y _ hp;exact KT hi he hp)|(rename_i i hi hl;exact KU hi hl)|(obtain⟨_,_,_⟩:= ‹Em _ _ _›;(try simp only[AR] at*);omega)|skip)
def KW:Sig:= {X:=List Int,args:=fun x=>[AQ x,.clo (.func 129) []],pre:=fun x=>x.length<2^62,Y:=Unit,post:=fun x y=>True,res:=fun x y=> .bool (x.all Ea),outs:=fun x y=>[.top,.top],keep:=false}
theorem a6W:Aj G Tryz.prog 125 KW:=
 vcFun_okP [(129,0,GX)] [] false (fun x=>[(2,Dg Ea (.clo (.func 129) []) x)]) Tryz.func125 rfl (by decide) ⟨TR,trivial⟩ (fun(x:List Int)=>(∀(y:Unit),True→True∧True∧True∧True)∧eA (Dg Ea (AV.clo (.func 129) []) x) [AQ x,AV.clo (.func 129) [],AQ x,.int .i64 (↑(List.length x):Int),.int .i64 (0:Int)]∧∀(i:Int),Em Ea x i→Aa (decide (i<(↑(List.length x):Int))) (((0:Int)≤i∧i<(↑(List.length x):Int))∧∀(e:Int),x[Int.toNat i]? =some e→cA GX [.int .i64 e] fun x_1 y=>Aa (!Ea x_1) (rA KW x [.bool false,.top,.top]) (inR IntKind.i64 (i+(1:Int))∧eN (Dg Ea (AV.clo (.func 129) []) x) i [AQ x,AV.clo (.func 129) [],AQ x,.int .i64 (↑(List.length x):Int),.int .i64 (i+(1:Int))])) (rA KW x [.bool true,.top,.top])) (fun x=>by kernel_rfl) fun(x:List Int) (hx:x.length<2^62)=>(by
 dsimp only[cA,eA,eN,AQ,Dg,rA,KW,GX,Av,AB,mvL,lnL,mvE,lnE,Bw]
 have hx:x.length<2^62:=hx
 (repeat' first|(with_reducible first|rfl|exact True.intro|apply AK|apply And.intro|((first|apply Az|apply AI|apply AA|apply AJ)<;>intro _))|(apply Aw<;>intro _)|apply AH|refine Ae () ?_ ?_|((first|apply AO|apply AN|apply AM|apply AL|apply AG|apply AF|apply AE|apply AD|apply AC)<;>try dsimp only)|apply Ae|(refine Prod.forall.2 ?_;intro _;try dsimp only)|(intro _;try dsimp only))
 all_goals first|exact KS|(rename_i i hi hl e he y _ hp;exact(KP he hp).symm)|(rename_i i hi hl e he y _ hp;exact KT hi he hp)|(rename_i i hi hl;exact KU hi hl)|(obtain⟨_,_,_⟩:= ‹Em _ _ _›;(try simp only[AR] at*);omega)|skip)
def KX:Sig:= {X:=List Int,args:=fun x=>[AQ x,.clo (.func 99) []],pre:=fun x=>x.length<2^62,Y:=Unit,post:=fun x y=>True,res:=fun x y=> .bool (x.all EQ),outs:=fun x y=>[.top,.top],keep:=false}
theorem a6X:Aj G Tryz.prog 125 KX:=
 vcFun_okP [(99,0,FY)] [] false (fun x=>[(2,Dg EQ (.clo (.func 99) []) x)]) Tryz.func125 rfl (by decide) ⟨TS,trivial⟩ (fun(x:List Int)=>(∀(y:Unit),True→True∧True∧True∧True)∧eA (Dg EQ (AV.clo (.func 99) []) x) [AQ x,AV.clo (.func 99) [],AQ x,.int .i64 (↑(List.length x):Int),.int .i64 (0:Int)]∧∀(i:Int),Em EQ x i→Aa (decide (i<(↑(List.length x):Int))) (((0:Int)≤i∧i<(↑(List.length x):Int))∧∀(e:Int),x[Int.toNat i]? =some e→cA FY [.int .i64 e] fun x_1 y=>Aa (!EQ x_1) (rA KX x [.bool false,.top,.top]) (inR IntKind.i64 (i+(1:Int))∧eN (Dg EQ (AV.clo (.func 99) []) x) i [AQ x,AV.clo (.func 99) [],AQ x,.int .i64 (↑(List.length x):Int),.int .i64 (i+(1:Int))])) (rA KX x [.bool true,.top,.top])) (fun x=>by kernel_rfl) fun(x:List Int) (hx:x.length<2^62)=>(by
 dsimp only[cA,eA,eN,AQ,Dg,rA,KX,FY,Av,AB,mvL,lnL,mvE,lnE,Bw]
 have hx:x.length<2^62:=hx
 (repeat' first|(with_reducible first|rfl|exact True.intro|apply AK|apply And.intro|((first|apply Az|apply AI|apply AA|apply AJ)<;>intro _))|(apply Aw<;>intro _)|apply AH|refine Ae () ?_ ?_|((first|apply AO|apply AN|apply AM|apply AL|apply AG|apply AF|apply AE|apply AD|apply AC)<;>try dsimp only)|apply Ae|(refine Prod.forall.2 ?_;intro _;try dsimp only)|(intro _;try dsimp only))
 all_goals first|exact KS|(rename_i i hi hl e he y _ hp;exact(KP he hp).symm)|(rename_i i hi hl e he y _ hp;exact KT hi he hp)|(rename_i i hi hl;exact KU hi hl)|(obtain⟨_,_,_⟩:= ‹Em _ _ _›;(try simp only[AR] at*);omega)|skip)
def KY:Sig:= {X:=List Int,args:=fun x=>[AQ x,.clo (.func 128) []],pre:=fun x=>x.length<2^62,Y:=Unit,post:=fun x y=>True,res:=fun x y=> .bool (x.all FS),outs:=fun x y=>[.top,.top],keep:=false}
theorem a6Y:Aj G Tryz.prog 125 KY:=
 vcFun_okP [(128,0,Mr)] [] false (fun x=>[(2,Dg FS (.clo (.func 128) []) x)]) Tryz.func125 rfl (by decide) ⟨a6R,trivial⟩ (fun(x:List Int)=>(∀(y:Unit),True→True∧True∧True∧True)∧eA (Dg FS (AV.clo (.func 128) []) x) [AQ x,AV.clo (.func 128) [],AQ x,.int .i64 (↑(List.length x):Int),.int .i64 (0:Int)]∧∀(i:Int),Em FS x i→Aa (decide (i<(↑(List.length x):Int))) (((0:Int)≤i∧i<(↑(List.length x):Int))∧∀(e:Int),x[Int.toNat i]? =some e→cA Mr [.int .i64 e] fun x_1 y=>Aa (!FS x_1) (rA KY x [.bool false,.top,.top]) (inR IntKind.i64 (i+(1:Int))∧eN (Dg FS (AV.clo (.func 128) []) x) i [AQ x,AV.clo (.func 128) [],AQ x,.int .i64 (↑(List.length x):Int),.int .i64 (i+(1:Int))])) (rA KY x [.bool true,.top,.top])) (fun x=>by kernel_rfl) fun(x:List Int) (hx:x.length<2^62)=>(by
 dsimp only[cA,eA,eN,AQ,Dg,rA,KY,Mr,Av,AB,mvL,lnL,mvE,lnE,Bw]
 have hx:x.length<2^62:=hx
 (repeat' first|(with_reducible first|rfl|exact True.intro|apply AK|apply And.intro|((first|apply Az|apply AI|apply AA|apply AJ)<;>intro _))|(apply Aw<;>intro _)|apply AH|refine Ae () ?_ ?_|((first|apply AO|apply AN|apply AM|apply AL|apply AG|apply AF|apply AE|apply AD|apply AC)<;>try dsimp only)|apply Ae|(refine Prod.forall.2 ?_;intro _;try dsimp only)|(intro _;try dsimp only))
 all_goals first|exact KS|(rename_i i hi hl e he y _ hp;exact(KP he hp).symm)|(rename_i i hi hl e he y _ hp;exact KT hi he hp)|(rename_i i hi hl;exact KU hi hl)|(obtain⟨_,_,_⟩:= ‹Em _ _ _›;(try simp only[AR] at*);omega)|skip)
def KZ:Sig:= {X:=List Int,args:=fun x=>[AQ x,.clo (.func 130) []],pre:=fun x=>x.length<2^62,Y:=Unit,post:=fun x y=>True,res:=fun x y=> .bool (x.all ER),outs:=fun x y=>[.top,.top],keep:=false}
theorem a6Z:Aj G Tryz.prog 125 KZ:=
 vcFun_okP [(130,0,KQ)] [] false (fun x=>[(2,Dg ER (.clo (.func 130) []) x)]) Tryz.func125 rfl (by decide) ⟨a6S,trivial⟩ (fun(x:List Int)=>(∀(y:Unit),True→True∧True∧True∧True)∧eA (Dg ER (AV.clo (.func 130) []) x) [AQ x,AV.clo (.func 130) [],AQ x,.int .i64 (↑(List.length x):Int),.int .i64 (0:Int)]∧∀(i:Int),Em ER x i→Aa (decide (i<(↑(List.length x):Int))) (((0:Int)≤i∧i<(↑(List.length x):Int))∧∀(e:Int),x[Int.toNat i]? =some e→cA KQ [.int .i64 e] fun x_1 y=>Aa (!ER x_1) (rA KZ x [.bool false,.top,.top]) (inR IntKind.i64 (i+(1:Int))∧eN (Dg ER (AV.clo (.func 130) []) x) i [AQ x,AV.clo (.func 130) [],AQ x,.int .i64 (↑(List.length x):Int),.int .i64 (i+(1:Int))])) (rA KZ x [.bool true,.top,.top])) (fun x=>by kernel_rfl) fun(x:List Int) (hx:x.length<2^62)=>(by
 dsimp only[cA,eA,eN,AQ,Dg,rA,KZ,KQ,Av,AB,mvL,lnL,mvE,lnE,Bw]
 have hx:x.length<2^62:=hx
 (repeat' first|(with_reducible first|rfl|exact True.intro|apply AK|apply And.intro|((first|apply Az|apply AI|apply AA|apply AJ)<;>intro _))|(apply Aw<;>intro _)|apply AH|refine Ae () ?_ ?_|((first|apply AO|apply AN|apply AM|apply AL|apply AG|apply AF|apply AE|apply AD|apply AC)<;>try dsimp only)|apply Ae|(refine Prod.forall.2 ?_;intro _;try dsimp only)|(intro _;try dsimp only))
 all_goals first|exact KS|(rename_i i hi hl e he y _ hp;exact(KP he hp).symm)|(rename_i i hi hl e he y _ hp;exact KT hi he hp)|(rename_i i hi hl;exact KU hi hl)|(obtain⟨_,_,_⟩:= ‹Em _ _ _›;(try simp only[AR] at*);omega)|skip)
def La:Sig:= {X:=List Int,args:=fun x=>[AQ x,.clo (.func 131) []],pre:=fun x=>x.length<2^62,Y:=Unit,post:=fun x y=>True,res:=fun x y=> .bool (x.all GU),outs:=fun x y=>[.top,.top],keep:=false}
theorem a7a:Aj G Tryz.prog 125 La:=
 vcFun_okP [(131,0,KR)] [] false (fun x=>[(2,Dg GU (.clo (.func 131) []) x)]) Tryz.func125 rfl (by decide) ⟨a6T,trivial⟩ (fun(x:List Int)=>(∀(y:Unit),True→True∧True∧True∧True)∧eA (Dg GU (AV.clo (.func 131) []) x) [AQ x,AV.clo (.func 131) [],AQ x,.int .i64 (↑(List.length x):Int),.int .i64 (0:Int)]∧∀(i:Int),Em GU x i→Aa (decide (i<(↑(List.length x):Int))) (((0:Int)≤i∧i<(↑(List.length x):Int))∧∀(e:Int),x[Int.toNat i]? =some e→cA KR [.int .i64 e] fun x_1 y=>Aa (!GU x_1) (rA La x [.bool false,.top,.top]) (inR IntKind.i64 (i+(1:Int))∧eN (Dg GU (AV.clo (.func 131) []) x) i [AQ x,AV.clo (.func 131) [],AQ x,.int .i64 (↑(List.length x):Int),.int .i64 (i+(1:Int))])) (rA La x [.bool true,.top,.top])) (fun x=>by kernel_rfl) fun(x:List Int) (hx:x.length<2^62)=>(by
 dsimp only[cA,eA,eN,AQ,Dg,rA,La,KR,Av,AB,mvL,lnL,mvE,lnE,Bw]
 have hx:x.length<2^62:=hx
 (repeat' first|(with_reducible first|rfl|exact True.intro|apply AK|apply And.intro|((first|apply Az|apply AI|apply AA|apply AJ)<;>intro _))|(apply Aw<;>intro _)|apply AH|refine Ae () ?_ ?_|((first|apply AO|apply AN|apply AM|apply AL|apply AG|apply AF|apply AE|apply AD|apply AC)<;>try dsimp only)|apply Ae|(refine Prod.forall.2 ?_;intro _;try dsimp only)|(intro _;try dsimp only))
 all_goals first|exact KS|(rename_i i hi hl e he y _ hp;exact(KP he hp).symm)|(rename_i i hi hl e he y _ hp;exact KT hi he hp)|(rename_i i hi hl;exact KU hi hl)|(obtain⟨_,_,_⟩:= ‹Em _ _ _›;(try simp only[AR] at*);omega)|skip)
def Ik:Sig:= {X:=List Int,args:=fun x=>[AQ x,.clo (.func 161) []],pre:=fun x=>x.length<2^62,Y:=Unit,post:=fun x y=>True,res:=fun x y=> .bool (x.all EF),outs:=fun x y=>[.top,.top],keep:=false}
theorem YC:Aj G Tryz.prog 125 Ik:=
 vcFun_okP [(161,0,Ms)] [] false (fun x=>[(2,Dg EF (.clo (.func 161) []) x)]) Tryz.func125 rfl (by decide) ⟨a6U,trivial⟩ (fun(x:List Int)=>(∀(y:Unit),True→True∧True∧True∧True)∧eA (Dg EF (AV.clo (.func 161) []) x) [AQ x,AV.clo (.func 161) [],AQ x,.int .i64 (↑(List.length x):Int),.int .i64 (0:Int)]∧∀(i:Int),Em EF x i→Aa (decide (i<(↑(List.length x):Int))) (((0:Int)≤i∧i<(↑(List.length x):Int))∧∀(e:Int),x[Int.toNat i]? =some e→cA Ms [.int .i64 e] fun x_1 y=>Aa (!EF x_1) (rA Ik x [.bool false,.top,.top]) (inR IntKind.i64 (i+(1:Int))∧eN (Dg EF (AV.clo (.func 161) []) x) i [AQ x,AV.clo (.func 161) [],AQ x,.int .i64 (↑(List.length x):Int),.int .i64 (i+(1:Int))])) (rA Ik x [.bool true,.top,.top])) (fun x=>by kernel_rfl) fun(x:List Int) (hx:x.length<2^62)=>(by
 dsimp only[cA,eA,eN,AQ,Dg,rA,Ik,Ms,Av,AB,mvL,lnL,mvE,lnE,Bw]
 have hx:x.length<2^62:=hx
 (repeat' first|(with_reducible first|rfl|exact True.intro|apply AK|apply And.intro|((first|apply Az|apply AI|apply AA|apply AJ)<;>intro _))|(apply Aw<;>intro _)|apply AH|refine Ae () ?_ ?_|((first|apply AO|apply AN|apply AM|apply AL|apply AG|apply AF|apply AE|apply AD|apply AC)<;>try dsimp only)|apply Ae|(refine Prod.forall.2 ?_;intro _;try dsimp only)|(intro _;try dsimp only))
 all_goals first|exact KS|(rename_i i hi hl e he y _ hp;exact(KP he hp).symm)|(rename_i i hi hl e he y _ hp;exact KT hi he hp)|(rename_i i hi hl;exact KU hi hl)|(obtain⟨_,_,_⟩:= ‹Em _ _ _›;(try simp only[AR] at*);omega)|skip)
theorem YD{p:Int→Bool}{x:List Int}(h:¬(0:Int)<x.length):false=Hr p x:=by
 obtain rfl:x=[]:=List.length_eq_zero_iff.1 (by omega)
 rfl
theorem YE{p:Int→Bool}{x:List Int}{e:Int}(he:x[(x.length-1:Int).toNat]? =some e):Hr p x=(p e&&(x.take (x.length-1:Int).toNat).all EF):=by
 have e1:(x.length-1:Int).toNat=x.length-1:=by omega
 rw[e1] at he ⊢
 unfold Hr
 rw[List.getLast?_eq_getElem?,he,List.dropLast_eq_take]
def JQ:Sig:= {X:=List Int,args:=fun x=>[AQ x,.clo (.func 126) []],pre:=fun x=>x.length<2^62,Y:=Unit,post:=fun x y=>True,res:=fun x y=> .bool (Hr BM x),outs:=fun x y=>[.top,.top],keep:=false}
theorem a7b:Aj G Tryz.prog 127 JQ:=
 vcFun_okP [(126,0,FX),(125,161+1,Ik)] [] false (fun x=>[]) Tryz.func127 rfl (by decide) ⟨TQ,YC,trivial⟩ (fun(x:List Int)=>(∀(y:Unit),True→True∧True∧True∧True)∧Aa (decide ((↑(List.length x):Int)>(0:Int))) (inR IntKind.i64 ((↑(List.length x):Int)-(1:Int))∧((0:Int)≤(↑(List.length x):Int)-(1:Int)∧(↑(List.length x):Int)-(1:Int)<(↑(List.length x):Int))∧∀(e:Int),x[Int.toNat ((↑(List.length x):Int)-(1:Int))]? =some e→cA FX [.int .i64 e] fun x_1 y=>Aa (BM x_1) (inR IntKind.i64 ((↑(List.length x):Int)-(1:Int))∧((0:Int)≤(0:Int)∧(0:Int)≤(↑(List.length x):Int)-(1:Int)∧(↑(List.length x):Int)-(1:Int)≤(↑(List.length x):Int))∧cA Ik [AQ (List.take (Int.toNat ((↑(List.length x):Int)-(1:Int))) x),AV.clo (Fn.func (161:Nat)) []] fun x_2 y=>rA JQ x [.bool (List.all x_2 EF),.top,.top]) (rA JQ x [.bool false,.top,.top])) (rA JQ x [.bool false,.top,.top])) (fun x=>by kernel_rfl) fun(x:List Int) (hx:x.length<2^62)=>(by
 dsimp only[cA,AQ,rA,Ik,FX,JQ,Av,AB,mvL,lnL,mvE,lnE]
 have hx:x.length<2^62:=hx
 (repeat' first|(with_reducible first|rfl|exact True.intro|apply AK|apply And.intro|((first|apply Az|apply AI|apply AA|apply AJ)<;>intro _))|(apply Aw<;>intro _)|apply AH|refine Ae () ?_ ?_|((first|apply AO|apply AN|apply AM|apply AL|apply AG|apply AF|apply AE|apply AD|apply AC)<;>try dsimp only)|apply Ae|(refine Prod.forall.2 ?_;intro _;try dsimp only)|(intro _;try dsimp only))<;>(try dsimp only at*)<;>(try simp only[AR,List.length_cons,List.length_nil])<;>(try omega)
 all_goals first|exact YD (by omega)|(rw[YE ‹_›];simp [*];done)|(rw[List.length_take];omega)|skip)
def JR:Sig:= {X:=List Int,args:=fun x=>[AQ x,.clo (.func 129) []],pre:=fun x=>x.length<2^62,Y:=Unit,post:=fun x y=>True,res:=fun x y=> .bool (Hr Ea x),outs:=fun x y=>[.top,.top],keep:=false}
theorem a7c:Aj G Tryz.prog 127 JR:=
 vcFun_okP [(129,0,GX),(125,161+1,Ik)] [] false (fun x=>[]) Tryz.func127 rfl (by decide) ⟨TR,YC,trivial⟩ (fun(x:List Int)=>(∀(y:Unit),True→True∧True∧True∧True)∧Aa (decide ((↑(List.length x):Int)>(0:Int))) (inR IntKind.i64 ((↑(List.length x):Int)-(1:Int))∧((0:Int)≤(↑(List.length x):Int)-(1:Int)∧(↑(List.length x):Int)-(1:Int)<(↑(List.length x):Int))∧∀(e:Int),x[Int.toNat ((↑(List.length x):Int)-(1:Int))]? =some e→cA GX [.int .i64 e] fun x_1 y=>Aa (Ea x_1) (inR IntKind.i64 ((↑(List.length x):Int)-(1:Int))∧((0:Int)≤(0:Int)∧(0:Int)≤(↑(List.length x):Int)-(1:Int)∧(↑(List.length x):Int)-(1:Int)≤(↑(List.length x):Int))∧cA Ik [AQ (List.take (Int.toNat ((↑(List.length x):Int)-(1:Int))) x),AV.clo (Fn.func (161:Nat)) []] fun x_2 y=>rA JR x [.bool (List.all x_2 EF),.top,.top]) (rA JR x [.bool false,.top,.top])) (rA JR x [.bool false,.top,.top])) (fun x=>by kernel_rfl) fun(x:List Int) (hx:x.length<2^62)=>(by
 dsimp only[cA,AQ,rA,Ik,GX,JR,Av,AB,mvL,lnL,mvE,lnE]
 have hx:x.length<2^62:=hx
 (repeat' first|(with_reducible first|rfl|exact True.intro|apply AK|apply And.intro|((first|apply Az|apply AI|apply AA|apply AJ)<;>intro _))|(apply Aw<;>intro _)|apply AH|refine Ae () ?_ ?_|((first|apply AO|apply AN|apply AM|apply AL|apply AG|apply AF|apply AE|apply AD|apply AC)<;>try dsimp only)|apply Ae|(refine Prod.forall.2 ?_;intro _;try dsimp only)|(intro _;try dsimp only))<;>(try dsimp only at*)<;>(try simp only[AR,List.length_cons,List.length_nil])<;>(try omega)
 all_goals first|exact YD (by omega)|(rw[YE ‹_›];simp [*];done)|(rw[List.length_take];omega)|skip)
def BV:Sig:= {X:=Int×List Int,args:=fun x=>[.int .i64 x.1,AQ x.2],pre:=fun x=>x.2.length<2^62,Y:=Unit,post:=fun x y=>True,res:=fun x y=> .bool (El x.1 x.2),outs:=fun x y=>[.top,.top],keep:=false}
theorem a7d:Aj G Tryz.prog 100 BV:=
 vcFun_okP [(126,0,FX),(129,0,GX),(58,0,Fg),(125,126+1,KV),(125,129+1,KW),(125,99+1,KX),(125,128+1,KY),(125,130+1,KZ),(125,131+1,La),(127,126+1,JQ),(127,129+1,JR)] [] false (fun x=>[]) Tryz.func100 rfl (by decide) ⟨TQ,TR,PC,a6V,a6W,a6X,a6Y,a6Z,a7a,a7b,a7c,trivial⟩ (fun(x:Int×List Int)=>(∀(y:Unit),True→True∧True∧True∧True)∧cA KV [AQ x.2,AV.clo (Fn.func (126:Nat)) []] fun x_1 y=>Aa (x.1==(1:Int)) (rA BV x [.bool ((↑(List.length x.2):Int)==(0:Int)),.top,.top]) (Aa (x.1==(2:Int)) (rA BV x [.bool ((↑(List.length x.2):Int)==(0:Int)),.top,.top]) (Aa (x.1==(3:Int)) (rA BV x [.bool ((↑(List.length x.2):Int)==(0:Int)),.top,.top]) (Aa (x.1==(19:Int)) (rA BV x [.bool ((↑(List.length x.2):Int)==(0:Int)),.top,.top]) (Aa (x.1==(4:Int)) (rA BV x [.bool (List.all x_1 BM),.top,.top]) (Aa (x.1==(5:Int)) (Aa (decide ((↑(List.length x.2):Int)≥(1:Int))) (rA BV x [.bool (List.all x_1 BM),.top,.top]) (rA BV x [.bool false,.top,.top])) (Aa (x.1==(7:Int)) (Aa (decide ((↑(List.length x.2):Int)≥(2:Int))) (rA BV x [.bool (List.all x_1 BM),.top,.top]) (rA BV x [.bool false,.top,.top])) (Aa (x.1==(8:Int)) (Aa ((↑(List.length x.2):Int)==(3:Int)) (rA BV x [.bool (List.all x_1 BM),.top,.top]) (rA BV x [.bool false,.top,.top])) (Aa (x.1==(6:Int)) (Aa ((↑(List.length x.2):Int)==(1:Int)) (rA BV x [.bool (List.all x_1 BM),.top,.top]) (rA BV x [.bool false,.top,.top])) (Aa (x.1==(11:Int)) (Aa ((↑(List.length x.2):Int)==(1:Int)) (rA BV x [.bool (List.all x_1 BM),.top,.top]) (rA BV x [.bool false,.top,.top])) (Aa (x.1==(13:Int)) (Aa ((↑(List.length x.2):Int)==(1:Int)) (rA BV x [.bool (List.all x_1 BM),.top,.top]) (rA BV x [.bool false,.top,.top])) (Aa (x.1==(14:Int)) (Aa ((↑(List.length x.2):Int)==(1:Int)) (rA BV x [.bool (List.all x_1 BM),.top,.top]) (rA BV x [.bool false,.top,.top])) (Aa (x.1==(12:Int)) (Aa (decide ((↑(List.length x.2):Int)≤(1:Int))) (rA BV x [.bool (List.all x_1 BM),.top,.top]) (rA BV x [.bool false,.top,.top])) (Aa (x.1==(15:Int)) (Aa (decide ((↑(List.length x.2):Int)≤(1:Int))) (rA BV x [.bool (List.all x_1 BM),.top,.top]) (rA BV x [.bool false,.top,.top])) (Aa (x.1==(9:Int)) (cA JQ [AQ x.2,AV.clo (Fn.func (126:Nat)) []] fun x_2 y=>rA BV x [.bool (Hr BM x_2),.top,.top]) (Aa (x.1==(10:Int)) (Aa (decide ((↑(List.length x.2):Int)≥(2:Int))) (((0:Int)≤(0:Int)∧(0:Int)<(↑(List.length x.2):Int))∧∀(e:Int),x.2[(0:Nat)]? =some e→cA FX [.int .i64 e] fun x_2 y=>Aa (BM x_2) (((0:Int)≤(1:Int)∧(1:Int)≤(↑(List.length x.2):Int)∧(↑(List.length x.2):Int)≤(↑(List.length x.2):Int))∧cA KY [AQ (List.drop (1:Nat) x.2),AV.clo (Fn.func (128:Nat)) []] fun x_3 y=>rA BV x [.bool (List.all x_3 FS),.top,.top]) (rA BV x [.bool false,.top,.top])) (rA BV x [.bool false,.top,.top])) (Aa (x.1==(16:Int)) (cA Fg [.int .i64 (↑(List.length x.2):Int),.int .i64 (2:Int),.int .i64 (3:Int)] fun x_2 y=>Aa (inn x_2.1 x_2.2.1 x_2.2.2) (((0:Int)≤(0:Int)∧(0:Int)<(↑(List.length x.2):Int))∧∀(e:Int),x.2[(0:Nat)]? =some e→cA FX [.int .i64 e] fun x_3 y=>Aa (BM x_3) (((0:Int)≤(1:Int)∧(1:Int)≤(↑(List.length x.2):Int)∧(↑(List.length x.2):Int)≤(↑(List.length x.2):Int))∧cA KW [AQ (List.drop (1:Nat) x.2),AV.clo (Fn.func (129:Nat)) []] fun x_4 y=>rA BV x [.bool (List.all x_4 Ea),.top,.top]) (rA BV x [.bool false,.top,.top])) (rA BV x [.bool false,.top,.top])) (Aa (x.1==(17:Int)) (Aa ((↑(List.length x.2):Int)==(2:Int)) (((0:Int)≤(0:Int)∧(0:Int)<(↑(List.length x.2):Int))∧∀(e:Int),x.2[(0:Nat)]? =some e→cA FX [.int .i64 e] fun x_2 y=>Aa (BM x_2) (((0:Int)≤(1:Int)∧(1:Int)<(↑(List.length x.2):Int))∧∀(e:Int),x.2[(1:Nat)]? =some e→cA GX [.int .i64 e] fun x_3 y=>rA BV x [.bool (Ea x_3),.top,.top]) (rA BV x [.bool false,.top,.top])) (rA BV x [.bool false,.top,.top])) (Aa (x.1==(18:Int)) (cA KZ [AQ x.2,AV.clo (Fn.func (130:Nat)) []] fun x_2 y=>rA BV x [.bool (List.all x_2 ER),.top,.top]) (Aa (x.1==(20:Int)) (cA JR [AQ x.2,AV.clo (Fn.func (129:Nat)) []] fun x_2 y=>rA BV x [.bool (Hr Ea x_2),.top,.top]) (Aa (x.1==(21:Int)) (cA KX [AQ x.2,AV.clo (Fn.func (99:Nat)) []] fun x_2 y=>rA BV x [.bool (List.all x_2 EQ),.top,.top]) (Aa (x.1==(22:Int)) (cA La [AQ x.2,AV.clo (Fn.func (131:Nat)) []] fun x_2 y=>rA BV x [.bool (List.all x_2 GU),.top,.top]) (rA BV x [.bool false,.top,.top]))))))))))))))))))))))) (fun x=>by kernel_rfl) fun(x:Int×List Int) (hx:x.2.length<2^62)=>(by
 dsimp only[cA,AQ,rA,KW,KY,KX,KZ,La,KV,Fg,GX,FX,BV,JR,JQ,Av,AB,mvL,lnL,mvE,lnE]
 have hx:x.2.length<2^62:=hx
 obtain⟨k,l⟩:=x
 (repeat' first|(with_reducible first|rfl|exact True.intro|apply AK|apply And.intro|((first|apply Az|apply AI|apply AA|apply AJ)<;>intro _))|(apply Aw<;>intro _)|apply AH|refine Ae () ?_ ?_|((first|apply AO|apply AN|apply AM|apply AL|apply AG|apply AF|apply AE|apply AD|apply AC)<;>try dsimp only)|apply Ae|(refine Prod.forall.2 ?_;intro _;try dsimp only)|(intro _;try dsimp only))<;>(try dsimp only at*)<;>(try simp only[AR,List.length_cons,List.length_nil])<;>(try omega)
 all_goals try(simp only[List.length_drop];omega)
 all_goals try(simp [El,FW, *]<;>omega)
 all_goals(match l with
  |[]=>simp_all [El,inn]<;>omega
  |[a]=>simp_all [El,inn]<;>omega
  |[a,b]=>simp_all [El,inn]<;>omega
  |[a,b,c]=>simp_all [El,inn]<;>omega
  |a::b::c::d::m=>simp_all [El,inn]<;>omega))
def Gy:Sig:= {X:=List Nd×Int,args:=fun x=>[nds x.1,.int .i64 x.2],pre:=fun x=>x.1.length<2^62,Y:=Unit,post:=fun x y=>True,res:=fun x y=> .bool (BP x.1 x.2),outs:=fun x y=>[.top,.top],keep:=false}
theorem TT:Aj G Tryz.prog 56 Gy:=
 vcFun_okP [] [] false (fun x=>[]) Tryz.func56 rfl (by decide) trivial (fun(x:List Nd×Int)=>(∀(y:Unit),True→True∧True∧True∧True)∧Aa (decide (x.2≥(0:Int))) (rA Gy x [.bool (decide (x.2<(↑(List.length x.1):Int))),.top,.top]) (rA Gy x [.bool false,.top,.top])) (fun x=>by kernel_rfl) fun(x:List Nd×Int) (hx:x.1.length<2^62)=>(by
 dsimp only[Bg,nds,rA,Gy,Av,AB]
 have hx:x.1.length<2^62:=hx
 (repeat' first|(with_reducible first|rfl|exact True.intro|apply AK|apply And.intro|((first|apply Az|apply AI|apply AA|apply AJ)<;>intro _))|(apply Aw<;>intro _)|apply AH|refine Ae () ?_ ?_|((first|apply AO|apply AN|apply AM|apply AL|apply AG|apply AF|apply AE|apply AD|apply AC)<;>try dsimp only)|apply Ae|(refine Prod.forall.2 ?_;intro _;try dsimp only)|(intro _;try dsimp only))<;>(try dsimp only at*)<;>(try simp only[AR,List.length_cons,List.length_nil])<;>(try omega)
 all_goals simp [BP, *])
end Go.My
end
