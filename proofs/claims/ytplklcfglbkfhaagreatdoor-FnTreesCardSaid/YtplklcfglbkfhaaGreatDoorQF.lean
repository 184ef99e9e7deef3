/- A part of the proof: the engine and the contracts, joined. -/
import Derived.Test.YtplklcfglbkfhaaGreatDoorQE
section
set_option linter.unusedVariables false
set_option linter.unusedSimpArgs false
namespace Go.My
open Go.Eng
def KQ(x:List UInt8):SgR:=if Ck (x.take 2) then⟨4,x.take 2,(x.take 2).length,true⟩ else if Ck (x.take 1) then⟨4,x.take 1,1,true⟩ else⟨0,[],0,false⟩
def GC(x:List UInt8)(i:Int):Prop:=(0≤i∧i≤2∧i≤x.length)∧Bb x=KQ x∧∀j:Nat,i<j→j≤2→j≤x.length→Ck (x.take j)=false
theorem a0C{x:List UInt8}{i:Int}(h:GC x i)(hx:1≤x.length)(h0:i>0)(hm:Ck (x.take i.toNat)=true):Bb x=⟨4,x.take i.toNat,i,true⟩:=by
 obtain⟨⟨h1,h2,h3⟩,h4,h5⟩:=h
 rw[h4]
 have hi:i=1∨i=2:=by omega
 rcases hi with rfl|rfl
 ·by_cases hl:x.length=1
  ·have e:x.take 2=x.take 1:=by rw[List.take_of_length_le (by omega),List.take_of_length_le (by omega)]
   have hm':Ck (x.take 1)=true:=hm
   simp only[KQ,e,hm',if_true]
   have:(x.take 1).length=1:=by simp;omega
   rw[this];rfl
  ·have:=h5 2 (by omega) (by omega) (by omega)
   have hm':Ck (x.take 1)=true:=hm
   simp only[KQ,this,hm',Bool.false_eq_true,if_false,if_true];rfl
 ·have hm':Ck (x.take 2)=true:=hm
  simp only[KQ,hm',if_true]
  have:(x.take 2).length=2:=by simp;omega
  rw[this];rfl
theorem a0D{x:List UInt8}{i:Int}(h:GC x i)(hx:1≤x.length)(h0:¬i>0):Bb x=⟨0,[],0,false⟩:=by
 obtain⟨⟨h1,h2,h3⟩,h4,h5⟩:=h
 rw[h4]
 have a1:=h5 1 (by omega) (by omega) hx
 have a2:Ck (x.take 2)=false:=by
  by_cases hl:x.length=1
  ·have e:x.take 2=x.take 1:=by rw[List.take_of_length_le (by omega),List.take_of_length_le (by omega)]
   rw[e];exact a1
  ·exact h5 2 (by omega) (by omega) (by omega)
 simp only[KQ,a1,a2,Bool.false_eq_true,if_false]
theorem a0E{x:List UInt8}{i:Int}(h:GC x i)(h0:i>0)(hm:Ck (x.take i.toNat)=false):GC x (i-1):=by
 obtain⟨⟨h1,h2,h3⟩,h4,h5⟩:=h
 refine⟨⟨by omega,by omega,by omega⟩,h4,fun j a b c=> ?_⟩
 by_cases e:(j:Int)=i
 ·have:j=i.toNat:=by omega
  rw[this];exact hm
 ·exact h5 j (by omega) b c
theorem a0F{b:UInt8}{t:List UInt8}(h1:Ce b=false)(h2:Bl b=false)(h3:¬b.toNat=39)(h4:(b::t).take 2≠[47,47]):GC (b::t) (min 2 ((b::t).length:Int)):=by
 refine⟨⟨by omega,by omega,by omega⟩,?_,fun j a b c=>by omega⟩
 simp only[Bb,h1,h2,h3,h4,Bool.false_eq_true,if_false,KQ]
theorem a0G{b:UInt8}{t:List UInt8}(h:Ce b=true):Bb (b::t)=⟨1,(b::t).takeWhile BC,((b::t).takeWhile BC).length,decide ((((b::t).takeWhile BC).length:Int)≤30)⟩:=by
 have:decide ((((b::t).takeWhile BC).length:Int)≤30)=decide (((b::t).takeWhile BC).length≤30):=decide_eq_decide.2 (by omega)
 rw[this];simp [Bb,h]
theorem a0H{b:UInt8}{t:List UInt8}(h0:Ce b=false)(h:Bl b=true):Bb (b::t)=⟨2,(b::t).takeWhile Bl,((b::t).takeWhile Bl).length,decide ((((b::t).takeWhile Bl).length:Int)≤12)⟩:=by
 have:decide ((((b::t).takeWhile Bl).length:Int)≤12)=decide (((b::t).takeWhile Bl).length≤12):=decide_eq_decide.2 (by omega)
 rw[this];simp [Bb,h,h0]
theorem a0I{b:UInt8}{t:List UInt8}(h0:Ce b=false)(h1:Bl b=false)(h:(b.toNat:Int)=39):Bb (b::t)=⟨3,(CS (b::t)).1,(CS (b::t)).1.length,(CS (b::t)).2⟩:=by
 have h:b.toNat=39:=by omega
 simp [Bb,h0,h1,h]
theorem a0J{b:UInt8}{t:List UInt8}(h0:Ce b=false)(h1:Bl b=false)(h2:(b.toNat:Int)≠39)(h:(b::t).take 2=[47,47]):
 Bb (b::t)=⟨5,Cl ((b::t).takeWhile BS),((b::t).takeWhile BS).length,((b::t).takeWhile BS).all BT⟩:=by
 have h2:¬b.toNat=39:=by omega
 simp only[Bb,h0,h1,h2,h,Bool.false_eq_true,if_false,if_true]
theorem UP(s:List UInt8)(c:UInt8):Cl (s++[c])=if c.toNat=32 then Cl s else s++[c]:=by
 unfold Cl
 rw[List.reverse_append]
 simp only[List.reverse_cons,List.reverse_nil,List.nil_append,List.singleton_append,List.dropWhile_cons]
 by_cases h:c.toNat=32
 ·simp [h]
 ·simp [h]
theorem a0K{s:List UInt8}{c:UInt8}(h:s[s.length-1]? =some c):s=s.take (s.length-1)++[c]:=by
 have h1:=Fv h
 have:s.length-1+1=s.length:=by
  have:=(List.getElem?_eq_some_iff.1 h).1;omega
 rw[this,List.take_length] at h1
 exact h1
theorem UQ{s:List UInt8}{c:UInt8}(h:s[s.length-1]? =some c):Cl s=if c.toNat=32 then Cl (s.take (s.length-1)) else s:=by
 have h1:=a0K h
 rw[h1,UP]
 split
 ·rw[List.length_append];simp
 ·rfl
theorem UR{s:List UInt8}{n:Nat}{c:UInt8}(h:s[n]? =some c):Cl (s.take (n+1))=if c.toNat=32 then Cl (s.take n) else s.take (n+1):=by
 rw[Fv h,UP]
def isQ(c:UInt8):Bool:=decide (c.toNat=39)
def Ch(s:List UInt8):Nat:=match Dj isQ (s.drop 1) with
 |none=>0
 |some i=>if((s.drop 1).take i).all BT then i+2 else 0
def Cc(s:List UInt8):Nat:=if s.take 2=[47,47] then(if(s.takeWhile BS).all BT then(s.takeWhile BS).length else 0) else 0
theorem US(s:List UInt8):CS s=match Dj isQ (s.drop 1) with
 |none=>([],false)
 |some i=>(s.take (i+2),(s.take (i+2)).all BT):=rfl
theorem UT{c:UInt8}(h:isQ c=true):BT c=true:=by
 simp [isQ] at h;simp [BT,h]
theorem Rv{p:UInt8→Bool}{s:List UInt8}{i:Nat}(h:Dj p s=some i):i<s.length:=by
 obtain⟨_,e,he,_⟩:=Jc.1 h
 exact(List.getElem?_eq_some_iff.1 he).1
theorem NL{c:UInt8}{s:List UInt8}(hc:isQ c=true):(CS (c::s)).2=true↔Ch (c::s)≠0:=by
 rw[US];unfold Ch
 simp only[List.drop_succ_cons,List.drop_zero]
 cases h:Dj isQ s with
 |none=>simp
 |some i=>
  simp only[List.take_succ_cons,List.all_cons,UT hc,Bool.true_and]
  obtain⟨h1,e,he,hq⟩:=Jc.1 h
  rw[Fv he,List.all_append]
  simp [UT hq]
theorem UU{c:UInt8}{s:List UInt8}(hc:isQ c=true)(h:Ch (c::s)≠0):(CS (c::s)).1=(c::s).take (Ch (c::s))∧Ch (c::s)≤(c::s).length:=by
 rw[US];unfold Ch at h ⊢
 simp only[List.drop_succ_cons,List.drop_zero] at h ⊢
 cases hi:Dj isQ s with
 |none=>rw[hi] at h;simp at h
 |some i=>
  rw[hi] at h
  simp only at h ⊢
  split at h
  ·rename_i hp
   have:=Rv hi
   rw[if_pos hp]
   exact⟨rfl,by simp;omega⟩
  ·exact(h rfl).elim
theorem a0L{c:UInt8}(h:Ce c=true):Bl c=false:=by
 simp [Ce,Bl] at h ⊢;omega
theorem a0M(s:List UInt8):Cf s 1=match s with
 |[]=>false
 |c::_=>Ce c&&(s.all BC&&decide (s.length≤30)):=by
 cases s with
 |nil=>rfl
 |cons c t=>
  by_cases hc:Ce c=true
  ·simp only[Cf,Bb,hc,if_true,Bool.true_and]
   by_cases ha:(c::t).all BC=true
   ·have:=NH.2 ha
    rw[this,ha];simp
   ·have hn:¬(c::t).takeWhile BC=c::t:=fun e=>ha (NH.1 e)
    simp only[Bool.not_eq_true] at ha
    rw[ha]
    have:((c::t).takeWhile BC==c::t)=false:=by rw[beq_eq_false_iff_ne];exact hn
    rw[this];simp
  ·simp only[Bool.not_eq_true] at hc
   simp only[hc,Bool.false_and]
   rw[Bool.eq_false_iff]
   intro h
   simp only[Cf,Bb,hc,Bool.false_eq_true,if_false,Bool.and_eq_true,decide_eq_true_eq] at h
   have h1:=h.2.2.1
   repeat' split at h1
   all_goals simp at h1
theorem UV(s:List UInt8):Cf s 2=(s.all Bl&&(decide (1≤s.length)&&decide (s.length≤12))):=by
 cases s with
 |nil=>rfl
 |cons c t=>
  by_cases hc:Ce c=true
  ·have hf:=a0L hc
   simp only[List.all_cons,hf,Bool.false_and]
   simp [Cf,Bb,hc]
  ·simp only[Bool.not_eq_true] at hc
   by_cases hf:Bl c=true
   ·simp only[Cf,Bb,hc,hf,Bool.false_eq_true,if_false,if_true]
    by_cases ha:(c::t).all Bl=true
    ·have:=NH.2 ha
     rw[this,ha];simp
    ·have hn:¬(c::t).takeWhile Bl=c::t:=fun e=>ha (NH.1 e)
     simp only[Bool.not_eq_true] at ha
     rw[ha]
     have:((c::t).takeWhile Bl==c::t)=false:=by rw[beq_eq_false_iff_ne];exact hn
     rw[this];simp
   ·simp only[Bool.not_eq_true] at hf
    simp only[List.all_cons,hf,Bool.false_and]
    rw[Bool.eq_false_iff]
    intro h
    simp only[Cf,Bb,hc,hf,Bool.false_eq_true,if_false,Bool.and_eq_true,decide_eq_true_eq] at h
    have h1:=h.2.2.1
    repeat' split at h1
    all_goals simp at h1
theorem Rw(s:List UInt8):Cf s 3=match s with
 |[]=>false
 |c::_=>isQ c&&(decide (1<s.length)&&decide (Ch s=s.length)):=by
 cases s with
 |nil=>rfl
 |cons c t=>
  by_cases hq:isQ c=true
  ·have h39:c.toNat=39:=by simpa [isQ] using hq
   have hc:Ce c=false:=by simp [Ce];omega
   have hf:Bl c=false:=by simp [Bl];omega
   simp only[hq,Bool.true_and]
   simp only[Cf,Bb,hc,hf,h39,Bool.false_eq_true,if_false,if_true]
   by_cases h0:Ch (c::t)=0
   ·have h2:(CS (c::t)).2=false:=by
     rw[Bool.eq_false_iff];intro h;exact(NL hq).1 h h0
    rw[h2,h0];simp
   ·have h2:=(NL hq).2 h0
    obtain⟨h3,h4⟩:=UU hq h0
    have h5:1<Ch (c::t):=by
     unfold Ch at h0 ⊢
     split at h0
     ·exact(h0 rfl).elim
     ·split at h0
      ·rename_i hp;rw[if_pos hp];omega
      ·exact(h0 rfl).elim
    rw[h2,h3]
    rw[Bool.eq_iff_iff]
    simp only[Bool.and_eq_true,Bool.not_eq_true',decide_eq_true_eq,beq_iff_eq,List.length_take]
    constructor
    ·rintro⟨_,_,_,e,hl⟩
     have:=congrArg List.length e
     simp only[List.length_take] at this
     constructor<;>omega
    ·rintro⟨h6,h7⟩
     refine⟨by simp,trivial,trivial,?_,?_⟩
     ·rw[h7,List.take_length]
     ·omega
  ·simp only[Bool.not_eq_true] at hq
   have h39:¬c.toNat=39:=by simpa [isQ] using hq
   simp only[hq,Bool.false_and]
   rw[Bool.eq_false_iff]
   intro h
   simp only[Cf,Bb,h39,if_false,Bool.and_eq_true,decide_eq_true_eq] at h
   have h1:=h.2.2.1
   repeat' split at h1
   all_goals simp at h1
theorem Rx(s:List UInt8):Cf s 5=(decide (1<s.length)&&(decide (Cc s=s.length)&&(Cl s==s))):=by
 cases s with
 |nil=>rfl
 |cons c t=>
  by_cases hp:(c::t).take 2=[47,47]
  ·have h47:c=47:=by
    have:=congrArg (fun l:List UInt8=>l.head?) hp
    simpa using this
   subst h47
   have hl:1<(47::t).length:=by
    have:=congrArg List.length hp
    simp only[List.length_take,List.length_cons,List.length_nil] at this ⊢;omega
   have hc:Ce 47=false:=by decide
   have hf:Bl 47=false:=by decide
   have hq:¬(47:UInt8).toNat=39:=by decide
   simp only[Cf,Bb,hc,hf,hq,hp,Bool.false_eq_true,if_false,if_true,Cc]
   rw[Bool.eq_iff_iff]
   simp only[Bool.and_eq_true,Bool.not_eq_true',decide_eq_true_eq,beq_iff_eq,beq_eq_false_iff_ne]
   constructor
   ·rintro⟨_,h1,_,h2,h3⟩
    rw[if_pos h1]
    have h3:((47::t).takeWhile BS).length=(47::t).length:=by omega
    refine⟨hl,h3,?_⟩
    have e:(47::t).takeWhile BS=47::t:=by
     have:=List.takeWhile_prefix (p:=BS) (l:=47::t)
     exact List.IsPrefix.eq_of_length this h3
    rw[e] at h2;exact h2
   ·rintro⟨_,h1,h2⟩
    split at h1
    ·rename_i h3
     have e:(47::t).takeWhile BS=47::t:=by
      have:=List.takeWhile_prefix (p:=BS) (l:=47::t)
      exact List.IsPrefix.eq_of_length this h1
     rw[e] at h3 ⊢
     exact⟨by simp,h3,trivial,h2,rfl⟩
    ·simp at h1
  ·have h0:Cc (c::t)=0:=by simp only[Cc,if_neg hp]
   rw[h0]
   have:decide (0=(c::t).length)=false:=by simp
   rw[this]
   simp only[Bool.false_and,Bool.and_false]
   rw[Bool.eq_false_iff]
   intro h
   simp only[Cf,Bb,hp,if_false,Bool.and_eq_true,decide_eq_true_eq] at h
   have h1:=h.2.2.1
   repeat' split at h1
   all_goals simp at h1
theorem a0N{s:List UInt8}{m:Nat}{e:UInt8}(h:∀e∈(s.drop 1).take m,isQ e=false∧BT e=true)(he:(s.drop 1)[m]? =some e)(hq:isQ e=true):Ch s=m+2:=by
 unfold Ch
 rw[Jc.2 ⟨fun e he=>(h e he).1,e,he,hq⟩]
 simp only
 rw[if_pos (List.all_eq_true.2 fun e he=>(h e he).2)]
theorem a0O{s:List UInt8}{m:Nat}{e:UInt8}(h:∀e∈(s.drop 1).take m,isQ e=false∧BT e=true)(he:(s.drop 1)[m]? =some e)(hq:isQ e=false)(hp:BT e=false):Ch s=0:=by
 unfold Ch
 cases hi:Dj isQ (s.drop 1) with
 |none=>rfl
 |some i=>
  simp only
  obtain⟨h1,d,hd,hdq⟩:=Jc.1 hi
  rw[if_neg]
  intro hall
  have hmi:m<i:=by
   rcases Nat.lt_trichotomy m i with h'|h'|h'
   ·exact h'
   ·subst h';rw[he] at hd;cases hd;rw[hq] at hdq;cases hdq
   ·have:d∈(s.drop 1).take m:=by
     rw[List.mem_take_iff_getElem]
     obtain⟨a,b⟩:=List.getElem?_eq_some_iff.1 hd
     exact⟨i,by omega,b⟩
    rw[(h d this).1] at hdq;cases hdq
  have:e∈(s.drop 1).take i:=by
   rw[List.mem_take_iff_getElem]
   obtain⟨a,b⟩:=List.getElem?_eq_some_iff.1 he
   exact⟨m,by omega,b⟩
  rw[List.all_eq_true.1 hall e this] at hp;cases hp
theorem a0P{s:List UInt8}{m:Nat}(h:∀e∈(s.drop 1).take m,isQ e=false∧BT e=true)(hl:(s.drop 1).length≤m):Ch s=0:=by
 unfold Ch
 rw[List.take_of_length_le hl] at h
 rw[Rn.2 fun e he=>(h e he).1]
theorem UW{s:List UInt8}{m:Nat}(hp:s.take 2=[47,47])(h:∀e∈s.take m,BS e=true∧BT e=true)(he:s.length≤m∨∃e,s[m]? =some e∧BS e=false)(hm:m≤s.length):Cc s=m:=by
 have h1:=Ht (fun e he=>(h e he).1) he
 unfold Cc
 rw[if_pos hp,←h1,if_pos (List.all_eq_true.2 fun e he=>(h e he).2),List.length_take];omega
theorem a0Q{s:List UInt8}{m:Nat}{e:UInt8}(hp:s.take 2=[47,47])(h:∀e∈s.take m,BS e=true∧BT e=true)(he:s[m]? =some e)(hn:BS e=true)(hq:BT e=false):Cc s=0:=by
 unfold Cc
 rw[if_pos hp,if_neg]
 intro hall
 have:e∈s.takeWhile BS:=by
  have h2:s=s.take m++e::s.drop (m+1):=by rw[←KF he,List.take_append_drop]
  rw[h2,List.takeWhile_append_of_pos (fun e he=>(h e he).1),List.takeWhile_cons,if_pos hn]
  simp
 rw[List.all_eq_true.1 hall e this] at hq;cases hq
theorem UX{s:List UInt8}(hp:s.take 2≠[47,47]):Cc s=0:=by
 unfold Cc;rw[if_neg hp]
theorem Ry{s:List UInt8}{a n:Int}(h0:0≤a)(h:a+1≤n):((s.drop a.toNat).drop 1)[(n-a-1).toNat]? =s[n.toNat]? :=by
 rw[List.getElem?_drop,List.getElem?_drop];congr 1;omega
theorem Mq{s:List UInt8}{a n:Int}(h0:0≤a)(h:a≤n):(s.drop a.toNat)[(n-a).toNat]? =s[n.toNat]? :=by
 rw[List.getElem?_drop];congr 1;omega
theorem NM{p:UInt8→Prop}{s:List UInt8}{m k:Nat}{e:UInt8}(h:∀e∈s.take m,p e)(he:s[m]? =some e)(hp:p e)(hk:k=m+1):∀e∈s.take k,p e:=by
 subst hk
 rw[Fv he];intro x hx
 rcases List.mem_append.1 hx with hx|hx
 ·exact h x hx
 ·simp at hx;subst hx;exact hp
def qI(x:List UInt8×Int)(i:Int):Prop:=x.2+1≤i∧(i≤x.1.length∨i=x.2+1)∧∀e∈((x.1.drop x.2.toNat).drop 1).take (i-x.2-1).toNat,isQ e=false∧BT e=true
theorem a0R{x:List UInt8×Int}:qI x (x.2+1):=by
 refine⟨by omega,.inr rfl,fun e he=> ?_⟩
 rw[show(x.2+1-x.2-1).toNat=0 by omega] at he;simp at he
theorem a0S{x:List UInt8×Int}{i:Int}(h:qI x i):x.2+1≤i∧(i≤x.1.length∨i=x.2+1):=⟨h.1,h.2.1⟩
theorem a0T{x:List UInt8×Int}{i:Int}{c:UInt8}(h0:0≤x.2)(h:qI x i)(hq:(c.toNat:Int)=39)(hc:x.1[i.toNat]? =some c):i+1-x.2=Ch (x.1.drop x.2.toNat):=by
 have:=h.1
 rw[a0N h.2.2 (by rw[Ry h0 h.1];exact hc) (by simp [isQ];omega)];omega
theorem a0U{x:List UInt8×Int}{i:Int}{c d:UInt8}(h0:0≤x.2)(h:qI x i)(hq:(c.toNat:Int)≠39)(hc:x.1[i.toNat]? =some c)(hp:BT d=false)(hd:x.1[i.toNat]? =some d):0=(Ch (x.1.drop x.2.toNat):Int):=by
 rw[hc] at hd;cases hd
 rw[a0O h.2.2 (by rw[Ry h0 h.1];exact hc) (by simp [isQ];omega) hp];rfl
theorem a0V{x:List UInt8×Int}{i:Int}{c d:UInt8}(h0:0≤x.2)(h:qI x i)(hl:i<x.1.length)(hq:(c.toNat:Int)≠39)(hc:x.1[i.toNat]? =some c)(hp:BT d=true)(hd:x.1[i.toNat]? =some d):qI x (i+1):=by
 rw[hc] at hd;cases hd
 have:=h.1
 exact⟨by omega,.inl (by omega),NM (p:=fun e=>isQ e=false∧BT e=true) h.2.2 (by rw[Ry h0 h.1];exact hc) ⟨by simp [isQ];omega,hp⟩ (by omega)⟩
theorem a0W{x:List UInt8×Int}{i:Int}(h0:0≤x.2)(h:qI x i)(hl:¬i<x.1.length):0=(Ch (x.1.drop x.2.toNat):Int):=by
 rw[a0P h.2.2 (by simp;omega)];rfl
def nI(x:List UInt8×Int)(i:Int):Prop:=(x.2≤i∧i≤x.1.length)∧(x.1.drop x.2.toNat).take 2=[47,47]∧∀e∈(x.1.drop x.2.toNat).take (i-x.2).toNat,BS e=true∧BT e=true
theorem UY{x:List UInt8×Int}(h0:0≤x.2):List.drop x.2.toNat (List.take (x.2+2).toNat x.1)=(x.1.drop x.2.toNat).take 2:=by
 rw[List.drop_take];congr 1;omega
theorem a0X{x:List UInt8×Int}(h0:0≤x.2)(hl:x.2≤x.1.length)(h:(List.drop x.2.toNat (List.take (x.2+2).toNat x.1)==[47,47])=true):nI x x.2:=by
 rw[UY h0] at h
 refine⟨⟨by omega,hl⟩,by simpa using h,fun e he=> ?_⟩
 rw[show(x.2-x.2).toNat=0 by omega] at he;simp at he
theorem a0Y{x:List UInt8×Int}(h0:0≤x.2)(h:(List.drop x.2.toNat (List.take (x.2+2).toNat x.1)==[47,47])=false):0=(Cc (x.1.drop x.2.toNat):Int):=by
 rw[UY h0] at h
 rw[UX (by simpa using h)];rfl
theorem a0Z{x:List UInt8×Int}(h0:0≤x.2)(h:x.2+2>x.1.length):0=(Cc (x.1.drop x.2.toNat):Int):=by
 rw[UX]
 ·rfl
 ·intro e;have:=congrArg List.length e;simp at this;omega
theorem a1a{x:List UInt8×Int}{i:Int}{c d:UInt8}(h0:0≤x.2)(h:nI x i)(hn:(c.toNat:Int)≠10)(hc:x.1[i.toNat]? =some c)(hp:BT d=false)(hd:x.1[i.toNat]? =some d):0=(Cc (x.1.drop x.2.toNat):Int):=by
 rw[hc] at hd;cases hd
 rw[a0Q h.2.1 h.2.2 (by rw[Mq h0 h.1.1];exact hc) (by simp [BS];omega) hp];rfl
theorem a1b{x:List UInt8×Int}{i:Int}{c d:UInt8}(h0:0≤x.2)(h:nI x i)(hl:i<x.1.length)(hn:(c.toNat:Int)≠10)(hc:x.1[i.toNat]? =some c)(hp:BT d=true)(hd:x.1[i.toNat]? =some d):nI x (i+1):=by
 rw[hc] at hd;cases hd
 have:=h.1
 exact⟨by omega,h.2.1,NM (p:=fun e=>BS e=true∧BT e=true) h.2.2 (by rw[Mq h0 h.1.1];exact hc) ⟨by simp [BS];omega,hp⟩ (by omega)⟩
theorem a1c{x:List UInt8×Int}{i:Int}{c:UInt8}(h0:0≤x.2)(h:nI x i)(hn:(c.toNat:Int)=10)(hc:x.1[i.toNat]? =some c):i-x.2=(Cc (x.1.drop x.2.toNat):Int):=by
 have:=h.1
 have hl:=(List.getElem?_eq_some_iff.1 hc).1
 rw[UW h.2.1 h.2.2 (.inr ⟨c,by rw[Mq h0 h.1.1];exact hc,by simp [BS];omega⟩) (by simp;omega)];omega
theorem a1d{x:List UInt8×Int}{i:Int}(h0:0≤x.2)(h:nI x i)(hl:¬i<x.1.length):i-x.2=(Cc (x.1.drop x.2.toNat):Int):=by
 have:=h.1
 rw[UW h.2.1 h.2.2 (.inl (by simp;omega)) (by simp;omega)];omega
def nmI(x:List UInt8)(i:Int):Prop:=(0≤i∧i≤x.length)∧(inn x.length 1 30=true∧Ce (x.headD 0)=true∧kw x=false)∧∀e∈x.take i.toNat,BC e=true
theorem Rz{x:List UInt8}:Dk x=true↔(inn x.length 1 30=true∧Ce (x.headD 0)=true∧kw x=false)∧x.all BC=true:=by
 unfold Dk
 rw[a0M]
 cases x with
 |nil=>simp [inn]
 |cons c t=>
  simp only[inn,Bool.and_eq_true,decide_eq_true_eq,Bool.not_eq_true',List.headD_cons,List.length_cons]
  constructor
  ·rintro⟨⟨h1,h2,h3⟩,h4⟩;exact⟨⟨⟨by omega,by omega⟩,h1,h4⟩,h2⟩
  ·rintro⟨⟨⟨h1,h2⟩,h3,h4⟩,h5⟩;exact⟨⟨h3,h5,by omega⟩,h4⟩
theorem UZ{x:List UInt8}{c:UInt8}(h:x[0]? =some c):x.headD 0=c:=by cases x<;>simp_all
theorem RA{x:List UInt8}(h:¬(inn x.length 1 30=true∧Ce (x.headD 0)=true∧kw x=false)):false=Dk x:=by
 symm;rw[Bool.eq_false_iff];intro hn;exact h (Rz.1 hn).1
theorem a1e{x:List UInt8}(h:inn x.length 1 30=true)(h1:Ce (x.headD 0)=true)(h2:kw x=false):nmI x 0:=⟨by omega,⟨h,h1,h2⟩,fun e he=>by simp at he⟩
theorem Va{x:List UInt8}{i:Int}{c:UInt8}(h:nmI x i)(hc:x[i.toNat]? =some c)(hl:i<x.length)(hp:BC c=true):nmI x (i+1):=by
 have:=h.1
 exact⟨by omega,h.2.1,NM (p:=fun e=>BC e=true) h.2.2 hc hp (by omega)⟩
theorem a1f{x:List UInt8}{i:Int}{c:UInt8}(h:nmI x i)(hc:x[i.toNat]? =some c)(hp:BC c=false):false=Dk x:=by
 symm;rw[Bool.eq_false_iff];intro hn
 have:=(Rz.1 hn).2
 rw[NG hc hp] at this;cases this
theorem a1g{x:List UInt8}{i:Int}(h:nmI x i)(hl:¬i<x.length):true=Dk x:=by
 symm;rw[Rz];exact⟨h.2.1,Rm h.2.2 (by omega)⟩
theorem a1h{x:List UInt8}{c:UInt8}(h1:(x.length:Int)>1)(hq:(c.toNat:Int)=39)(h:x[0]? =some c):((Ch x:Int)==(x.length:Int))=Cf x 3:=by
 cases x with
 |nil=>cases h
 |cons d t=>
  have:d=c:=by simpa using h
  subst this
  have e:isQ d=true:=by simp [isQ];omega
  rw[Rw,Bool.eq_iff_iff]
  simp [e] at h1 ⊢;omega
theorem a1i{x:List UInt8}{c:UInt8}(hq:(c.toNat:Int)≠39)(h:x[0]? =some c):false=Cf x 3:=by
 cases x with
 |nil=>cases h
 |cons d t=>
  have:d=c:=by simpa using h
  subst this
  have e:isQ d=false:=by simp [isQ];omega
  rw[Rw];simp [e]
theorem a1j{x:List UInt8}(h1:¬(x.length:Int)>1):false=Cf x 3:=by
 rw[Rw]
 cases x with
 |nil=>rfl
 |cons d t=>
  have:decide (1<(d::t).length)=false:=decide_eq_false (by omega)
  simp only[this,Bool.false_and,Bool.and_false]
theorem a1k{x:List UInt8}(h1:(x.length:Int)>1)(h2:(Cc x:Int)=x.length):(Cl x==x)=Cf x 5:=by
 rw[Rx]
 have e1:decide (1<x.length)=true:=decide_eq_true (by omega)
 have e2:decide (Cc x=x.length)=true:=decide_eq_true (by omega)
 simp [e1,e2]
theorem a1l{x:List UInt8}(h2:(Cc x:Int)≠x.length):false=Cf x 5:=by
 rw[Rx]
 have e2:decide (Cc x=x.length)=false:=decide_eq_false (by omega)
 simp only[e2,Bool.false_and,Bool.and_false]
theorem a1m{x:List UInt8}(h1:¬(x.length:Int)>1):false=Cf x 5:=by
 rw[Rx]
 have e2:decide (1<x.length)=false:=decide_eq_false (by omega)
 simp only[e2,Bool.false_and]
end Go.My
end
section
set_option linter.unusedVariables false
set_option linter.unusedSimpArgs false
namespace Go.My
open Go.Eng Go.Proofs
variable {G:GInv}
def Gd:Sig:= {X:=List UInt8,args:=fun x=>[.str x],pre:=fun x=>True,Y:=Unit,post:=fun x y=>True,res:=fun x y=> .bool (kw x),outs:=fun x y=>[.top],keep:=false}
theorem a1n:Am G Tryz.prog 119 Gd:=
 vcFun_okP [] [] false (fun x=>[]) Tryz.func119 rfl (by decide) trivial (fun(x:List UInt8)=>(∀(y:Unit),True→True∧True∧True)∧Aa (x== #[(99:UInt8),(108:UInt8),(97:UInt8),(115:UInt8),(115:UInt8)].toList) (rA Gd x [.bool true,.top]) (Aa (x== #[(118:UInt8),(97:UInt8),(114:UInt8)].toList) (rA Gd x [.bool true,.top]) (Aa (x== #[(105:UInt8),(102:UInt8)].toList) (rA Gd x [.bool true,.top]) (Aa (x== #[(101:UInt8),(108:UInt8),(115:UInt8),(101:UInt8)].toList) (rA Gd x [.bool true,.top]) (Aa (x== #[(119:UInt8),(104:UInt8),(105:UInt8),(108:UInt8),(101:UInt8)].toList) (rA Gd x [.bool true,.top]) (Aa (x== #[(114:UInt8),(101:UInt8),(116:UInt8),(117:UInt8),(114:UInt8),(110:UInt8)].toList) (rA Gd x [.bool true,.top]) (rA Gd x [.bool false,.top]))))))) (fun x=>by kernel_rfl) fun(x:List UInt8) (hx:True)=>(by
 dsimp only[rA,Gd,Az,AC]
 (repeat' first|(with_reducible first|rfl|exact True.intro|apply AN|apply And.intro|((first|apply AD|apply AL|apply AE|apply AM)<;>intro _))|(apply AA<;>intro _)|apply AK|refine Ae () ?_ ?_|((first|apply AR|apply AQ|apply AP|apply AO|apply AJ|apply AI|apply AH|apply AG|apply AF)<;>try dsimp only)|apply Ae|(refine Prod.forall.2 ?_;intro _;try dsimp only)|(intro _;try dsimp only))<;>(try dsimp only at*)<;>(try simp only[AU,List.length_cons,List.length_nil])<;>(try omega)
 all_goals simp [kw, *])
def Fa:Sig:= {X:=List UInt8,args:=fun x=>[.str x],pre:=fun x=>True,Y:=Unit,post:=fun x y=>True,res:=fun x y=> .bool (kw x),outs:=fun x y=>[.top],keep:=false}
theorem RB:Am G Tryz.prog 125 Fa:=
 vcFun_okP [] [] false (fun x=>[]) Tryz.func125 rfl (by decide) trivial (fun(x:List UInt8)=>(∀(y:Unit),True→True∧True∧True)∧Aa (x== #[(99:UInt8),(108:UInt8),(97:UInt8),(115:UInt8),(115:UInt8)].toList) (rA Fa x [.bool true,.top]) (Aa (x== #[(118:UInt8),(97:UInt8),(114:UInt8)].toList) (rA Fa x [.bool true,.top]) (Aa (x== #[(105:UInt8),(102:UInt8)].toList) (rA Fa x [.bool true,.top]) (Aa (x== #[(101:UInt8),(108:UInt8),(115:UInt8),(101:UInt8)].toList) (rA Fa x [.bool true,.top]) (Aa (x== #[(119:UInt8),(104:UInt8),(105:UInt8),(108:UInt8),(101:UInt8)].toList) (rA Fa x [.bool true,.top]) (Aa (x== #[(114:UInt8),(101:UInt8),(116:UInt8),(117:UInt8),(114:UInt8),(110:UInt8)].toList) (rA Fa x [.bool true,.top]) (rA Fa x [.bool false,.top]))))))) (fun x=>by kernel_rfl) fun(x:List UInt8) (hx:True)=>(by
 dsimp only[rA,Fa,Az,AC]
 (repeat' first|(with_reducible first|rfl|exact True.intro|apply AN|apply And.intro|((first|apply AD|apply AL|apply AE|apply AM)<;>intro _))|(apply AA<;>intro _)|apply AK|refine Ae () ?_ ?_|((first|apply AR|apply AQ|apply AP|apply AO|apply AJ|apply AI|apply AH|apply AG|apply AF)<;>try dsimp only)|apply Ae|(refine Prod.forall.2 ?_;intro _;try dsimp only)|(intro _;try dsimp only))<;>(try dsimp only at*)<;>(try simp only[AU,List.length_cons,List.length_nil])<;>(try omega)
 all_goals simp [kw, *])
theorem a1o{c:UInt8}:decide (Cm mk1 c≥0)=mk1.elem c:=by
 unfold Cm
 cases h:Dj (fun d=>decide (d.toNat=c.toNat)) mk1 with
 |none=>
  have:=Rn.1 h
  symm
  simp only[Int.reduceNeg,ge_iff_le,Int.reduceLE,decide_false]
  rw[Bool.eq_false_iff]
  intro h2
  have h3:=this c (by simpa using h2)
  simp at h3
 |some i=>
  obtain⟨_,e,he,hq⟩:=Jc.1 h
  have h3:e=c:=by simpa [UInt8.toNat_inj] using hq
  subst h3
  have:=List.mem_of_getElem? he
  simp [this]
def Ge:Sig:= {X:=List UInt8,args:=fun x=>[.str x],pre:=fun x=>x.length<2^63,Y:=Unit,post:=fun x y=>True,res:=fun x y=> .bool (Ck x),outs:=fun x y=>[.top],keep:=false}
theorem a1p:Am G Tryz.prog 168 Ge:=
 vcFun_okP [(185,0,KJ)] [] false (fun x=>[]) Tryz.func168 rfl (by decide) ⟨a0k,trivial⟩ (fun(x:List UInt8)=>(∀(y:Unit),True→True∧True∧True)∧Aa (x== #[(38:UInt8),(38:UInt8)].toList) (rA Ge x [.bool true,.top]) (Aa (x== #[(124:UInt8),(124:UInt8)].toList) (rA Ge x [.bool true,.top]) (Aa (x== #[(61:UInt8),(61:UInt8)].toList) (rA Ge x [.bool true,.top]) (Aa (x== #[(61:UInt8),(62:UInt8)].toList) (rA Ge x [.bool true,.top]) (Aa (x== #[(46:UInt8),(46:UInt8)].toList) (rA Ge x [.bool true,.top]) (Aa ((↑(List.length x):Int)==(1:Int)) (cA KJ [.str #[(40:UInt8),(41:UInt8),(123:UInt8),(125:UInt8),(91:UInt8),(93:UInt8),(59:UInt8),(44:UInt8),(46:UInt8),(61:UInt8),(43:UInt8),(45:UInt8),(42:UInt8),(60:UInt8),(63:UInt8),(58:UInt8)].toList,.str x] fun x_1 y=>rA Ge x [.bool (decide (Cm x_1.1 (List.headD x_1.2 (0:UInt8))≥(0:Int))),.top]) (rA Ge x [.bool false,.top]))))))) (fun x=>by kernel_rfl) fun(x:List UInt8) (hx:x.length<2^63)=>(by
 dsimp only[cA,rA,Ge,KJ,Az,AC,mvL,lnL,mvE,lnE]
 (repeat' first|(with_reducible first|rfl|exact True.intro|apply AN|apply And.intro|((first|apply AD|apply AL|apply AE|apply AM)<;>intro _))|(apply AA<;>intro _)|apply AK|refine Ae () ?_ ?_|((first|apply AR|apply AQ|apply AP|apply AO|apply AJ|apply AI|apply AH|apply AG|apply AF)<;>try dsimp only)|apply Ae|(refine Prod.forall.2 ?_;intro _;try dsimp only)|(intro _;try dsimp only))<;>(try dsimp only at*)<;>(try simp only[AU,List.length_cons,List.length_nil])<;>(try omega)
 ·rename_i h;simp [Ck,mk2,h]
 ·rename_i h;simp [Ck,mk2,h]
 ·rename_i h;simp [Ck,mk2,h]
 ·rename_i h;simp [Ck,mk2,h]
 ·rename_i h;simp [Ck,mk2,h]
 ·rename_i h1 h2 h3 h4 h5 h _ _
  have h:x.length=1:=by omega
  match x,h with
  |[c],_=>exact a1o.trans (by simp [Ck,mk2])
 ·rename_i h1 h2 h3 h4 h5 h
  symm;simp only[Ck,mk2,Bool.or_eq_false_iff,beq_eq_false_iff_ne]
  refine⟨⟨h1,h2,h3,h4,h5⟩,?_⟩
  split
  ·simp at h
  ·rfl)
def Jk:Sig:= {X:=List UInt8,args:=fun x=>[.str x,.int .u8 32],pre:=fun x=>x.length<2^63,Y:=Unit,post:=fun x y=>True,res:=fun x y=> .str (Cl x),outs:=fun x y=>[.top,.top],keep:=false}
def NN(x:List UInt8):LS:= {ι:=List UInt8,inv:=fun s=>s.length≤x.length∧Cl s=Cl x,regs:=fun s=>[(0,.str s),(1,.int .u8 32)],als:=[],meas:=fun s=>s.length}
theorem a1q:Am G Tryz.prog 197 Jk:=
 vcFun_okP [] [] false (fun x=>[(1,NN x)]) Tryz.func197 rfl (by decide) trivial (fun(x:List UInt8)=>(∀(y:Unit),True→True∧True∧True∧True)∧eA (NN x) [.str x,AV.int IntKind.u8 (32:Int)]∧∀(i:List UInt8),List.length i≤List.length x∧Cl i=Cl x→Aa (decide ((↑(List.length i):Int)>(0:Int))) (inR IntKind.i64 ((↑(List.length i):Int)-(1:Int))∧((0:Int)≤(↑(List.length i):Int)-(1:Int)∧(↑(List.length i):Int)-(1:Int)<(↑(List.length i):Int))∧∀(c:UInt8),i[Int.toNat ((↑(List.length i):Int)-(1:Int))]? =some c→Aa ((↑(UInt8.toNat c):Int)==(32:Int)) (inR IntKind.i64 ((↑(List.length i):Int)-(1:Int))∧((0:Int)≤(0:Int)∧(0:Int)≤(↑(List.length i):Int)-(1:Int)∧(↑(List.length i):Int)-(1:Int)≤(↑(List.length i):Int))∧eN (NN x) i [.str (List.take (Int.toNat ((↑(List.length i):Int)-(1:Int))) i),AV.int IntKind.u8 (32:Int)]) (rA Jk x [.str i,.top,.top])) (rA Jk x [.str i,.top,.top])) (fun x=>by kernel_rfl) fun(x:List UInt8) (hx:x.length<2^63)=>(by
 dsimp only[eA,eN,NN,rA,Jk,Az,AC,Bt]
 (repeat' first|(with_reducible first|rfl|exact True.intro|apply AN|apply And.intro|((first|apply AD|apply AL|apply AE|apply AM)<;>intro _))|(apply AA<;>intro _)|apply AK|refine Ae () ?_ ?_|((first|apply AR|apply AQ|apply AP|apply AO|apply AJ|apply AI|apply AH|apply AG|apply AF)<;>try dsimp only)|apply Ae|(refine Prod.forall.2 ?_;intro _;try dsimp only)|(intro _;try dsimp only))<;>(try dsimp only at*)<;>(try simp only[AU,List.length_cons,List.length_nil])<;>(try omega)
 ·rename_i s hs h c hc h2;simp;omega
 ·rename_i s hs h c hc h2;simp;omega
 ·rename_i s hs h c hc h2
  have e:((s.length:Int)-1).toNat=s.length-1:=by omega
  rw[e] at hc ⊢
  rw[←hs.2,UQ hc,if_pos (by omega)]
 ·rename_i s hs h c hc h2
  have e:((s.length:Int)-1).toNat=s.length-1:=by omega
  rw[e] at hc
  rw[←hs.2,UQ hc,if_neg (by omega)]
 ·rename_i s hs h
  have:s=[]:=List.length_eq_zero_iff.1 (by omega)
  rw[←hs.2,this];rfl)
def Jl:Sig:= {X:=List UInt8,args:=fun x=>[.str x,.str [32]],pre:=fun x=>x.length<2^63,Y:=Unit,post:=fun x y=>True,res:=fun x y=> .str (Cl x),outs:=fun x y=>[.top,.top],keep:=false}
theorem a1r:Am G Tryz.prog 184 Jl:=
 vcFun_okP [(197,0,Jk)] [] false (fun x=>[]) Tryz.func184 rfl (by decide) ⟨a1q,trivial⟩ (fun(x:List UInt8)=>(∀(y:Unit),True→True∧True∧True∧True)∧Aa (x== #[].toList) (rA Jl x [.str x,.top,.top]) (((0:Int)≤(0:Int)∧(0:Int)<(↑(1:Nat):Int))∧∀(c:UInt8),[(32:UInt8)][(0:Nat)]? =some c→Aa (decide ((↑(UInt8.toNat c):Int)<(128:Int))) (((0:Int)≤(0:Int)∧(0:Int)<(↑(1:Nat):Int))∧∀(c:UInt8),[(32:UInt8)][(0:Nat)]? =some c→cA Jk [.str x,AV.int IntKind.u8 (↑(UInt8.toNat c):Int)] fun x_1 y=>rA Jl x [.str (Cl x_1),.top,.top]) False)) (fun x=>by kernel_rfl) fun(x:List UInt8) (hx:x.length<2^63)=>(by
 dsimp only[cA,rA,Jk,Jl,Az,AC,mvL,lnL,mvE,lnE]
 refine⟨fun _ _=>⟨trivial,trivial,trivial,trivial⟩,AE (fun h=>⟨(),trivial,by rw[h];rfl,trivial⟩) (fun h=>⟨by omega,fun c hc=> ?_⟩)⟩
 have hc:32=c:=by simpa using hc
 subst hc
 refine AD (fun _=>⟨by omega,fun c hc=> ?_⟩) (fun h=>(h (by decide)).elim)
 have hc:32=c:=by simpa using hc
 subst hc
 exact⟨x,hx,rfl,rfl,fun _ _=>⟨(),trivial,rfl,trivial⟩⟩)
def KR:Sig:= {X:=List UInt8,args:=fun x=>[.str x],pre:=fun x=>x.length<2^63,Y:=Unit,post:=fun x y=>True,res:=fun x y=> .str (Cl x),outs:=fun x y=>[.top],keep:=false}
theorem a1s:Am G Tryz.prog 166 KR:=
 vcFun_okP [(184,0,Jl)] [] false (fun x=>[]) Tryz.func166 rfl (by decide) ⟨a1r,trivial⟩ (fun(x:List UInt8)=>(∀(y:Unit),True→True∧True∧True)∧cA Jl [.str x,.str #[(32:UInt8)].toList] fun x_1 y=>rA KR x [.str (Cl x_1),.top]) (fun x=>by kernel_rfl) fun(x:List UInt8) (hx:x.length<2^63)=>(by
 dsimp only[cA,rA,KR,Jl,Az,AC,mvL,lnL,mvE,lnE]
 (repeat' first|(with_reducible first|rfl|exact True.intro|apply AN|apply And.intro|((first|apply AD|apply AL|apply AE|apply AM)<;>intro _))|(apply AA<;>intro _)|apply AK|refine Ae () ?_ ?_|((first|apply AR|apply AQ|apply AP|apply AO|apply AJ|apply AI|apply AH|apply AG|apply AF)<;>try dsimp only)|apply Ae|(refine Prod.forall.2 ?_;intro _;try dsimp only)|(intro _;try dsimp only))<;>(try dsimp only at*)<;>(try simp only[AU,List.length_cons,List.length_nil])<;>(try omega))
def Hd:Sig:= {X:=List UInt8,args:=fun x=>[.str x],pre:=fun x=>x.length<2^63,Y:=Unit,post:=fun x y=>True,res:=fun x y=> .str (Cl x),outs:=fun x y=>[.top],keep:=false}
def NO(x:List UInt8):LS:= {ι:=Int,inv:=fun i=>0≤i∧i≤x.length∧Cl (x.take i.toNat)=Cl x,regs:=fun i=>[(0,.str x),(3,.int .i64 i)],als:=[],meas:=fun i=>i.toNat}
theorem Vb:Am G Tryz.prog 135 Hd:=
 vcFun_okP [] [] false (fun x=>[(2,NO x)]) Tryz.func135 rfl (by decide) trivial (fun(x:List UInt8)=>(∀(y:Unit),True→True∧True∧True)∧eA (NO x) [.str x,.int .i64 (↑(List.length x):Int)]∧∀(i:Int),(0:Int)≤i∧i≤(↑(List.length x):Int)∧Cl (List.take (Int.toNat i) x)=Cl x→Aa (decide (i>(0:Int))) (inR IntKind.i64 (i-(1:Int))∧((0:Int)≤i-(1:Int)∧i-(1:Int)<(↑(List.length x):Int))∧∀(c:UInt8),x[Int.toNat (i-(1:Int))]? =some c→Aa ((↑(UInt8.toNat c):Int)==(32:Int)) (inR IntKind.i64 (i-(1:Int))∧eN (NO x) i [.str x,.int .i64 (i-(1:Int))]) (((0:Int)≤(0:Int)∧(0:Int)≤i∧i≤(↑(List.length x):Int))∧rA Hd x [.str (List.take (Int.toNat i) x),.top])) (((0:Int)≤(0:Int)∧(0:Int)≤i∧i≤(↑(List.length x):Int))∧rA Hd x [.str (List.take (Int.toNat i) x),.top])) (fun x=>by kernel_rfl) fun(x:List UInt8) (hx:x.length<2^63)=>(by
 dsimp only[eA,eN,NO,rA,Hd,Az,AC,Bt]
 (repeat' first|(with_reducible first|rfl|exact True.intro|apply AN|apply And.intro|((first|apply AD|apply AL|apply AE|apply AM)<;>intro _))|(apply AA<;>intro _)|apply AK|refine Ae () ?_ ?_|((first|apply AR|apply AQ|apply AP|apply AO|apply AJ|apply AI|apply AH|apply AG|apply AF)<;>try dsimp only)|apply Ae|(refine Prod.forall.2 ?_;intro _;try dsimp only)|(intro _;try dsimp only))<;>(try dsimp only at*)<;>(try simp only[AU,List.length_cons,List.length_nil])<;>(try omega)
 ·simp
 ·rename_i i hi h c hc h2
  rw[←hi.2.2,show i.toNat=(i-1).toNat+1 by omega,UR hc,if_pos (by omega)]
 ·rename_i i hi h c hc h2
  have:=hi.2.2
  rw[show i.toNat=(i-1).toNat+1 by omega,UR hc,if_neg (by omega)] at this
  rw[←this,show i.toNat=(i-1).toNat+1 by omega]
 ·rename_i i hi h
  rw[←hi.2.2,show i.toNat=0 by omega];rfl)
theorem a1t(s:List UInt8)(c:UInt8):Cm s c= -1∨(0≤Cm s c∧Cm s c<s.length):=by
 unfold Cm
 split
 ·exact .inl rfl
 ·rename_i i h;have:=Rv h;omega
theorem Vc{s:List UInt8}:CS s=if Cm (s.drop 1) 39<0 then([],false) else(s.take (Cm (s.drop 1) 39+2).toNat,(s.take (Cm (s.drop 1) 39+2).toNat).all BT):=by
 unfold CS Cm
 have e:(fun c:UInt8=>decide (c.toNat=39))=fun d:UInt8=>decide (d.toNat=(39:UInt8).toNat):=rfl
 rw[e]
 cases Dj (fun d:UInt8=>decide (d.toNat=(39:UInt8).toNat)) (s.drop 1) with
 |none=>simp
 |some i=>
  have h1:¬(i:Int)<0:=by omega
  have h2:((i:Int)+2).toNat=i+2:=by omega
  simp only[if_neg h1,h2]
def Jm:Sig:= {X:=List UInt8,args:=fun x=>[.str x],pre:=fun x=>1≤x.length∧x.length<2^62,Y:=Unit,post:=fun x y=>True,res:=fun x y=> .tup [.str (CS x).1,.bool (CS x).2],outs:=fun x y=>[.top],keep:=false}
theorem a1u:Am G Tryz.prog 163 Jm:=
 vcFun_okP [(182,0,KH),(167,0,GB)] [] false (fun x=>[]) Tryz.func163 rfl (by decide) ⟨a0h,UL,trivial⟩ (fun(x:List UInt8)=>(∀(y:Unit),True→(True∧True∧True)∧True∧True)∧((0:Int)≤(1:Int)∧(1:Int)≤(↑(List.length x):Int)∧(↑(List.length x):Int)≤(↑(List.length x):Int))∧cA KH [.str (List.drop (1:Nat) x),AV.int IntKind.u8 (39:Int)] fun x_1 y=>Aa (decide (Cm x_1 (39:UInt8)<(0:Int))) (rA Jm x [.tup [.str #[].toList,.bool false],.top]) (inR IntKind.i64 (Cm x_1 (39:UInt8)+(2:Int))∧((0:Int)≤(0:Int)∧(0:Int)≤Cm x_1 (39:UInt8)+(2:Int)∧Cm x_1 (39:UInt8)+(2:Int)≤(↑(List.length x):Int))∧cA GB [.str (List.take (Int.toNat (Cm x_1 (39:UInt8)+(2:Int))) x)] fun x_2 y=>rA Jm x [.tup [.str (List.take (Int.toNat (Cm x_1 (39:UInt8)+(2:Int))) x),.bool (List.all x_2 BT)],.top])) (fun x=>by kernel_rfl) fun(x:List UInt8) (hx:1≤x.length∧x.length<2^62)=>(by
 dsimp only[cA,rA,GB,Jm,KH,Az,AC,mvL,lnL,mvE,lnE]
 obtain⟨h1,h2⟩:=hx
 have hq:=a1t (x.drop 1) 39;have hl:(x.drop 1).length=x.length-1:=by simp
 (repeat' first|(with_reducible first|rfl|exact True.intro|apply AN|apply And.intro|((first|apply AD|apply AL|apply AE|apply AM)<;>intro _))|(apply AA<;>intro _)|apply AK|refine Ae () ?_ ?_|((first|apply AR|apply AQ|apply AP|apply AO|apply AJ|apply AI|apply AH|apply AG|apply AF)<;>try dsimp only)|apply Ae|(refine Prod.forall.2 ?_;intro _;try dsimp only)|(intro _;try dsimp only))<;>(try dsimp only at*)<;>(try simp only[AU,List.length_cons,List.length_nil])<;>(try omega)
 all_goals first
  |omega
  |(rw[Vc,if_neg ‹¬Cm _ 39<0›];done)
  |(rw[Vc,if_pos ‹Cm _ 39<0›];done)
  |(simp;omega))
def GD:Sig:= {X:=List UInt8,args:=fun x=>[.str x],pre:=fun x=>1≤x.length∧x.length<2^62,Y:=Unit,post:=fun x y=>True,res:=fun x y=> .tup [.int .i64 (Bb x).kind,.str (Bb x).text,.int .i64 (Bb x).size,.bool (Bb x).ok],outs:=fun x y=>[.top],keep:=false}
def NP(x:List UInt8):LS:= {ι:=Int,inv:=fun i=>GC x i,regs:=fun i=>[(0,.str x),(12,.int .i64 i)],als:=[],meas:=fun i=>i.toNat}
theorem a1v:Am G Tryz.prog 131 GD:=
 vcFun_okP [(159,0,EH),(160,161+1,Jg),(162,0,Fw),(160,162+1,Jh),(163,0,Jm),(164,0,KK),(160,165+1,Ji),(166,0,KR),(167,0,GB),(168,0,Ge)] [] false (fun x=>[(15,NP x)]) Tryz.func131 rfl (by decide) ⟨UI,a0p,Rp,a0q,a1u,a0m,a0r,a1s,UL,a1p,trivial⟩ (fun(x:List UInt8)=>(∀(y:Unit),True→(True∧True∧True∧True∧True)∧True∧True)∧((0:Int)≤(0:Int)∧(0:Int)<(↑(List.length x):Int))∧∀(c:UInt8),x[(0:Nat)]? =some c→cA EH [AV.int IntKind.u8 (↑(UInt8.toNat c):Int)] fun x_1 y=>Aa (Ce x_1) (cA Jg [.str x,AV.clo (Fn.func (84:Nat)) []] fun x_2 y=>rA GD x [.tup [.int .i64 (1:Int),.str (List.takeWhile BC x_2),.int .i64 (↑(List.length (List.takeWhile BC x_2)):Int),.bool (decide ((↑(List.length (List.takeWhile BC x_2)):Int)≤(30:Int)))],.top]) (cA Fw [AV.int IntKind.u8 (↑(UInt8.toNat c):Int)] fun x_2 y=>Aa (Bl x_2) (cA Jh [.str x,AV.clo (Fn.func (85:Nat)) []] fun x_3 y=>rA GD x [.tup [.int .i64 (2:Int),.str (List.takeWhile Bl x_3),.int .i64 (↑(List.length (List.takeWhile Bl x_3)):Int),.bool (decide ((↑(List.length (List.takeWhile Bl x_3)):Int)≤(12:Int)))],.top]) (Aa ((↑(UInt8.toNat c):Int)==(39:Int)) (cA Jm [.str x] fun x_3 y=>rA GD x [.tup [.int .i64 (3:Int),.str (CS x_3).1,.int .i64 (↑(List.length (CS x_3).1):Int),.bool (CS x_3).2],.top]) (cA KK [.str x,.str #[(47:UInt8),(47:UInt8)].toList] fun x_3 y=>Aa (List.take (List.length x_3.2) x_3.1==x_3.2) (cA Ji [.str x,AV.clo (Fn.func (88:Nat)) []] fun x_4 y=>cA KR [.str (List.takeWhile BS x_4)] fun x_5 y=>cA GB [.str (List.takeWhile BS x_4)] fun x_6 y=>rA GD x [.tup [.int .i64 (5:Int),.str (Cl x_5),.int .i64 (↑(List.length (List.takeWhile BS x_4)):Int),.bool (List.all x_6 BT)],.top]) (eA (NP x) [.str x,.int .i64 (min (2:Int) (↑(List.length x):Int))]∧∀(i:Int),GC x i→Aa (decide (i>(0:Int))) (((0:Int)≤(0:Int)∧(0:Int)≤i∧i≤(↑(List.length x):Int))∧cA Ge [.str (List.take (Int.toNat i) x)] fun x_4 y=>Aa (Ck x_4) (true=true∧true=true∧((0:Int)≤(0:Int)∧(0:Int)≤i∧i≤(↑(List.length x):Int))∧rA GD x [.tup [.int .i64 (4:Int),.str (List.take (Int.toNat i) x),.int .i64 i,.bool true],.top]) (inR IntKind.i64 (i-(1:Int))∧eN (NP x) i [.str x,.int .i64 (i-(1:Int))])) (rA GD x [.tup [.int .i64 (0:Int),.str #[].toList,.int .i64 (0:Int),.bool false],.top])))))) (fun x=>by kernel_rfl) fun(x:List UInt8) (hx:1≤x.length∧x.length<2^62)=>(by
 dsimp only[cA,eA,eN,NP,rA,KR,Fw,EH,GB,Ge,Jm,Jh,Jg,Ji,KK,GD,Az,AC,mvL,lnL,mvE,lnE,Bt]
 obtain⟨h1,h2⟩:=hx
 have h3:x.length<9223372036854775808:=by omega
 match x,h1,h2,h3 with
 |b::t,h1,h2,h3=>
 (repeat' first|(with_reducible first|rfl|exact True.intro|apply AN|apply And.intro|((first|apply AD|apply AL|apply AE|apply AM)<;>intro _))|(apply AA<;>intro _)|apply AK|refine Ae () ?_ ?_|((first|apply AR|apply AQ|apply AP|apply AO|apply AJ|apply AI|apply AH|apply AG|apply AF)<;>try dsimp only)|apply Ae|(refine Prod.forall.2 ?_;intro _;try dsimp only)|(intro _;try dsimp only))<;>(try dsimp only at*)<;>(try simp only[AU,List.length_cons,List.length_nil])<;>(try omega)
 all_goals(try simp only[List.getElem?_cons_zero,Option.some.injEq] at*)
 all_goals(try subst_vars)
 all_goals first
  |exact h3
  |(rw[a0G ‹_›];done)
  |(rw[a0H ‹_› ‹_›];done)
  |(rw[a0I ‹_› ‹_› ‹_›];done)
  |(rw[a0J ‹_› ‹_› ‹_› ‹_›];done)
  |(rw[a0C ‹_› h1 ‹_› ‹_›];done)
  |(rw[a0D ‹_› h1 ‹_›];done)
  |exact a0E ‹_› ‹_› ‹_›
  |exact a0F ‹_› ‹_› (by omega) ‹_›
  |exact Nat.lt_of_le_of_lt (List.takeWhile_prefix _).length_le h3
  |(have hI:=(‹GC _ _› :GC _ _).1;rw[List.length_cons] at hI;omega)
  |(have hI:=(‹GC _ _› :GC _ _).1;rw[List.length_take];omega)
  |trace_state)
def EI:Sig:= {X:=List UInt8×Int,args:=fun x=>[.str x.1,.int .i64 x.2],pre:=fun x=>x.1.length<2^62,Y:=Unit,post:=fun x y=>True,res:=fun x y=> .bool (Cf x.1 x.2),outs:=fun x y=>[.top,.top],keep:=false}
theorem Vd:Am G Tryz.prog 99 EI:=
 vcFun_okP [(131,0,GD)] [] false (fun x=>[]) Tryz.func99 rfl (by decide) ⟨a1v,trivial⟩ (fun(x:List UInt8×Int)=>(∀(y:Unit),True→True∧True∧True∧True)∧Aa (x.1== #[].toList) (rA EI x [.bool false,.top,.top]) (cA GD [.str x.1] fun x_1 y=>Aa (Bb x_1).ok (Aa ((Bb x_1).kind==x.2) (Aa ((Bb x_1).text==x.1) (rA EI x [.bool ((Bb x_1).size==(↑(List.length x.1):Int)),.top,.top]) (rA EI x [.bool false,.top,.top])) (rA EI x [.bool false,.top,.top])) (rA EI x [.bool false,.top,.top]))) (fun x=>by kernel_rfl) fun(x:List UInt8×Int) (hx:x.1.length<2^62)=>(by
 dsimp only[cA,rA,EI,GD,Az,AC,mvL,lnL,mvE,lnE]
 (repeat' first|(with_reducible first|rfl|exact True.intro|apply AN|apply And.intro|((first|apply AD|apply AL|apply AE|apply AM)<;>intro _))|(apply AA<;>intro _)|apply AK|refine Ae () ?_ ?_|((first|apply AR|apply AQ|apply AP|apply AO|apply AJ|apply AI|apply AH|apply AG|apply AF)<;>try dsimp only)|apply Ae|(refine Prod.forall.2 ?_;intro _;try dsimp only)|(intro _;try dsimp only))<;>(try dsimp only at*)<;>(try simp only[AU,List.length_cons,List.length_nil])<;>(try omega)
 all_goals first
  |exact List.length_pos_iff.2 ‹_›
  |(simp [Cf, *];done)
  |(rw[Bool.eq_iff_iff];simp [Cf, *];done))
def Gf:Sig:= {X:=List UInt8,args:=fun x=>[.str x],pre:=fun x=>x.length<2^62,Y:=Unit,post:=fun x y=>True,res:=fun x y=> .bool (Dk x),outs:=fun x y=>[.top],keep:=false}
theorem a1w:Am G Tryz.prog 80 Gf:=
 vcFun_okP [(99,0,EI),(119,0,Gd)] [] false (fun x=>[]) Tryz.func80 rfl (by decide) ⟨Vd,a1n,trivial⟩ (fun(x:List UInt8)=>(∀(y:Unit),True→True∧True∧True)∧cA EI [.str x,.int .i64 (1:Int)] fun x_1 y=>Aa (Cf x_1.1 x_1.2) (cA Gd [.str x] fun x_2 y=>rA Gf x [.bool !kw x_2,.top]) (rA Gf x [.bool false,.top])) (fun x=>by kernel_rfl) fun(x:List UInt8) (hx:x.length<2^62)=>(by
 dsimp only[cA,rA,Gd,Gf,EI,Az,AC,mvL,lnL,mvE,lnE]
 (repeat' first|(with_reducible first|rfl|exact True.intro|apply AN|apply And.intro|((first|apply AD|apply AL|apply AE|apply AM)<;>intro _))|(apply AA<;>intro _)|apply AK|refine Ae () ?_ ?_|((first|apply AR|apply AQ|apply AP|apply AO|apply AJ|apply AI|apply AH|apply AG|apply AF)<;>try dsimp only)|apply Ae|(refine Prod.forall.2 ?_;intro _;try dsimp only)|(intro _;try dsimp only))<;>(try dsimp only at*)<;>(try simp only[AU,List.length_cons,List.length_nil])<;>(try omega)
 all_goals simp [Dk, *])
def Db:Sig:= {X:=Nd,args:=fun x=>[.agg (ndA false x)],pre:=fun x=>x.text.length<2^62,Y:=Unit,post:=fun x y=>True,res:=fun x y=> .bool (EF x.kind x.text),outs:=fun x y=>[.top],keep:=false}
theorem a1x:Am G Tryz.prog 58 Db:=
 vcFun_okP [(99,0,EI),(80,0,Gf)] [] false (fun x=>[]) Tryz.func58 rfl (by decide) ⟨Vd,a1w,trivial⟩ (fun(x:Nd)=>(∀(y:Unit),True→True∧True∧True)∧Aa (x.kind==(1:Int)) (cA Gf [.str x.text] fun x_1 y=>rA Db x [.bool (Dk x_1),.top]) (Aa (x.kind==(6:Int)) (cA Gf [.str x.text] fun x_1 y=>rA Db x [.bool (Dk x_1),.top]) (Aa (x.kind==(12:Int)) (cA Gf [.str x.text] fun x_1 y=>rA Db x [.bool (Dk x_1),.top]) (Aa (x.kind==(13:Int)) (cA Gf [.str x.text] fun x_1 y=>rA Db x [.bool (Dk x_1),.top]) (Aa (x.kind==(20:Int)) (cA Gf [.str x.text] fun x_1 y=>rA Db x [.bool (Dk x_1),.top]) (Aa (x.kind==(21:Int)) (cA Gf [.str x.text] fun x_1 y=>rA Db x [.bool (Dk x_1),.top]) (Aa (x.kind==(2:Int)) (cA EI [.str x.text,.int .i64 (2:Int)] fun x_1 y=>rA Db x [.bool (Cf x_1.1 x_1.2),.top]) (Aa (x.kind==(3:Int)) (cA EI [.str x.text,.int .i64 (3:Int)] fun x_1 y=>rA Db x [.bool (Cf x_1.1 x_1.2),.top]) (Aa (x.kind==(19:Int)) (cA EI [.str x.text,.int .i64 (5:Int)] fun x_1 y=>rA Db x [.bool (Cf x_1.1 x_1.2),.top]) (Aa (x.kind==(7:Int)) (Aa (x.text== #[(38:UInt8),(38:UInt8)].toList) (rA Db x [.bool true,.top]) (Aa (x.text== #[(124:UInt8),(124:UInt8)].toList) (rA Db x [.bool true,.top]) (Aa (x.text== #[(61:UInt8),(61:UInt8)].toList) (rA Db x [.bool true,.top]) (Aa (x.text== #[(60:UInt8)].toList) (rA Db x [.bool true,.top]) (Aa (x.text== #[(43:UInt8)].toList) (rA Db x [.bool true,.top]) (Aa (x.text== #[(45:UInt8)].toList) (rA Db x [.bool true,.top]) (Aa (x.text== #[(42:UInt8)].toList) (rA Db x [.bool true,.top]) (rA Db x [.bool false,.top])))))))) (rA Db x [.bool (x.text== #[].toList),.top]))))))))))) (fun x=>by kernel_rfl) fun(x:Nd) (hx:x.text.length<2^62)=>(by
 dsimp only[cA,Bx,rA,Gf,EI,Db,Az,AC,mvL,lnL,mvE,lnE]
 (repeat' first|(with_reducible first|rfl|exact True.intro|apply AN|apply And.intro|((first|apply AD|apply AL|apply AE|apply AM)<;>intro _))|(apply AA<;>intro _)|apply AK|refine Ae () ?_ ?_|((first|apply AR|apply AQ|apply AP|apply AO|apply AJ|apply AI|apply AH|apply AG|apply AF)<;>try dsimp only)|apply Ae|(refine Prod.forall.2 ?_;intro _;try dsimp only)|(intro _;try dsimp only))<;>(try dsimp only at*)<;>(try simp only[AU,List.length_cons,List.length_nil])<;>(try omega)
 all_goals simp [EF,Ml, *])
def GE:Sig:= {X:=List UInt8×Int,args:=fun x=>[.str x.1,.int .i64 x.2],pre:=fun x=>0≤x.2∧x.2≤x.1.length∧x.1.length<2^62,Y:=Unit,post:=fun x y=>True,res:=fun x y=> .int .i64 (Ch (x.1.drop x.2.toNat)),outs:=fun x y=>[.top,.top],keep:=false}
def NQ(x:List UInt8×Int):LS:= {ι:=Int,inv:=fun i=>qI x i,regs:=fun i=>[(0,.str x.1),(1,.int .i64 x.2),(5,.int .i64 i)],als:=[],meas:=fun i=>x.1.length-i.toNat}
theorem Ve:Am G Tryz.prog 133 GE:=
 vcFun_okP [(169,0,Hb)] [] false (fun x=>[(2,NQ x)]) Tryz.func133 rfl (by decide) ⟨UK,trivial⟩ (fun(x:List UInt8×Int)=>(∀(y:Unit),True→True∧True∧True∧True)∧inR IntKind.i64 (x.2+(1:Int))∧eA (NQ x) [.str x.1,.int .i64 x.2,.int .i64 (x.2+(1:Int))]∧∀(i:Int),qI x i→Aa (decide (i<(↑(List.length x.1):Int))) (((0:Int)≤i∧i<(↑(List.length x.1):Int))∧∀(c:UInt8),x.1[Int.toNat i]? =some c→Aa ((↑(UInt8.toNat c):Int)==(39:Int)) (inR IntKind.i64 (i+(1:Int))∧inR IntKind.i64 (i+(1:Int)-x.2)∧rA GE x [.int .i64 (i+(1:Int)-x.2),.top,.top]) (((0:Int)≤i∧i<(↑(List.length x.1):Int))∧∀(c:UInt8),x.1[Int.toNat i]? =some c→cA Hb [AV.int IntKind.u8 (↑(UInt8.toNat c):Int)] fun x_1 y=>Aa (!BT x_1) (rA GE x [.int .i64 (0:Int),.top,.top]) (inR IntKind.i64 (i+(1:Int))∧eN (NQ x) i [.str x.1,.int .i64 x.2,.int .i64 (i+(1:Int))]))) (rA GE x [.int .i64 (0:Int),.top,.top])) (fun x=>by kernel_rfl) fun(x:List UInt8×Int) (hx:0≤x.2∧x.2≤x.1.length∧x.1.length<2^62)=>(by
 dsimp only[cA,eA,eN,NQ,rA,Hb,GE,Az,AC,mvL,lnL,mvE,lnE,Bt]
 obtain⟨h1,h2,h3⟩:=hx
 (repeat' first|(with_reducible first|rfl|exact True.intro|apply AN|apply And.intro|((first|apply AD|apply AL|apply AE|apply AM)<;>intro _))|(apply AA<;>intro _)|apply AK|refine Ae () ?_ ?_|((first|apply AR|apply AQ|apply AP|apply AO|apply AJ|apply AI|apply AH|apply AG|apply AF)<;>try dsimp only)|apply Ae|(refine Prod.forall.2 ?_;intro _;try dsimp only)|(intro _;try dsimp only))<;>(try dsimp only at*)<;>(try simp only[AU,List.length_cons,List.length_nil])<;>(try omega)
 all_goals first
  |exact a0R
  |exact a0T h1 ‹_› ‹_› ‹_›
  |exact a0U h1 ‹_› ‹_› ‹_› ‹_› ‹_›
  |exact a0V h1 ‹_› ‹_› ‹_› ‹_› ‹_› ‹_›
  |exact a0W h1 ‹_› ‹_›
  |(have hI:=a0S ‹_›;omega))
def Fx:Sig:= {X:=List UInt8×Int,args:=fun x=>[.str x.1,.int .i64 x.2],pre:=fun x=>0≤x.2∧x.2≤x.1.length∧x.1.length<2^62,Y:=Unit,post:=fun x y=>True,res:=fun x y=> .int .i64 (Cc (x.1.drop x.2.toNat)),outs:=fun x y=>[.top,.top],keep:=false}
def NR(x:List UInt8×Int):LS:= {ι:=Int,inv:=fun i=>nI x i,regs:=fun i=>[(0,.str x.1),(1,.int .i64 x.2),(5,.int .i64 i)],als:=[],meas:=fun i=>x.1.length-i.toNat}
theorem Vf:Am G Tryz.prog 134 Fx:=
 vcFun_okP [(169,0,Hb)] [] false (fun x=>[(4,NR x)]) Tryz.func134 rfl (by decide) ⟨UK,trivial⟩ (fun(x:List UInt8×Int)=>(∀(y:Unit),True→True∧True∧True∧True)∧inR IntKind.i64 (x.2+(2:Int))∧Aa (decide (x.2+(2:Int)>(↑(List.length x.1):Int))) (rA Fx x [.int .i64 (0:Int),.top,.top]) (inR IntKind.i64 (x.2+(2:Int))∧((0:Int)≤x.2∧x.2≤x.2+(2:Int)∧x.2+(2:Int)≤(↑(List.length x.1):Int))∧Aa (!List.drop (Int.toNat x.2) (List.take (Int.toNat (x.2+(2:Int))) x.1)== #[(47:UInt8),(47:UInt8)].toList) (rA Fx x [.int .i64 (0:Int),.top,.top]) (eA (NR x) [.str x.1,.int .i64 x.2,.int .i64 x.2]∧∀(i:Int),nI x i→Aa (decide (i<(↑(List.length x.1):Int))) (((0:Int)≤i∧i<(↑(List.length x.1):Int))∧∀(c:UInt8),x.1[Int.toNat i]? =some c→Aa ((↑(UInt8.toNat c):Int) != (10:Int)) (((0:Int)≤i∧i<(↑(List.length x.1):Int))∧∀(c:UInt8),x.1[Int.toNat i]? =some c→cA Hb [AV.int IntKind.u8 (↑(UInt8.toNat c):Int)] fun x_1 y=>Aa (!BT x_1) (rA Fx x [.int .i64 (0:Int),.top,.top]) (inR IntKind.i64 (i+(1:Int))∧eN (NR x) i [.str x.1,.int .i64 x.2,.int .i64 (i+(1:Int))])) (inR IntKind.i64 (i-x.2)∧rA Fx x [.int .i64 (i-x.2),.top,.top])) (inR IntKind.i64 (i-x.2)∧rA Fx x [.int .i64 (i-x.2),.top,.top])))) (fun x=>by kernel_rfl) fun(x:List UInt8×Int) (hx:0≤x.2∧x.2≤x.1.length∧x.1.length<2^62)=>(by
 dsimp only[cA,eA,eN,NR,rA,Fx,Hb,Az,AC,mvL,lnL,mvE,lnE,Bt]
 obtain⟨h1,h2,h3⟩:=hx
 (repeat' first|(with_reducible first|rfl|exact True.intro|apply AN|apply And.intro|((first|apply AD|apply AL|apply AE|apply AM)<;>intro _))|(apply AA<;>intro _)|apply AK|refine Ae () ?_ ?_|((first|apply AR|apply AQ|apply AP|apply AO|apply AJ|apply AI|apply AH|apply AG|apply AF)<;>try dsimp only)|apply Ae|(refine Prod.forall.2 ?_;intro _;try dsimp only)|(intro _;try dsimp only))<;>(try dsimp only at*)<;>(try simp only[AU,List.length_cons,List.length_nil])<;>(try omega)
 all_goals first
  |exact a0Z h1 ‹_›
  |exact a0Y h1 ‹_›
  |exact a0X h1 h2 ‹_›
  |exact a1a h1 ‹_› ‹_› ‹_› ‹_› ‹_›
  |exact a1b h1 ‹_› ‹_› ‹_› ‹_› ‹_› ‹_›
  |exact a1c h1 ‹_› ‹_› ‹_›
  |exact a1d h1 ‹_› ‹_›
  |(have hI:=(‹nI _ _› :nI _ _).1;omega))
def EJ:Sig:= {X:=List UInt8,args:=fun x=>[.str x],pre:=fun x=>x.length<2^62,Y:=Unit,post:=fun x y=>True,res:=fun x y=> .bool (Dk x),outs:=fun x y=>[.top],keep:=false}
def Mr(x:List UInt8):LS:= {ι:=Int,inv:=fun i=>nmI x i,regs:=fun i=>[(0,.str x),(3,.int .i64 i)],als:=[],meas:=fun i=>x.length-i.toNat}
theorem a1y:Am G Tryz.prog 92 EJ:=
 vcFun_okP [(64,0,Cy),(124,0,Eh),(125,0,Fa),(126,0,EG)] [] false (fun x=>[(4,Mr x)]) Tryz.func92 rfl (by decide) ⟨Je,UJ,RB,Rq,trivial⟩ (fun(x:List UInt8)=>(∀(y:Unit),True→True∧True∧True)∧cA Cy [.int .i64 (↑(List.length x):Int),.int .i64 (1:Int),.int .i64 (30:Int)] fun x_1 y=>Aa (!inn x_1.1 x_1.2.1 x_1.2.2) (rA EJ x [.bool false,.top]) (((0:Int)≤(0:Int)∧(0:Int)<(↑(List.length x):Int))∧∀(c:UInt8),x[(0:Nat)]? =some c→cA Eh [AV.int IntKind.u8 (↑(UInt8.toNat c):Int)] fun x_2 y=>Aa (!Ce x_2) (rA EJ x [.bool false,.top]) (cA Fa [.str x] fun x_3 y=>Aa (kw x_3) (rA EJ x [.bool false,.top]) (eA (Mr x) [.str x,.int .i64 (0:Int)]∧∀(i:Int),nmI x i→Aa (decide (i<(↑(List.length x):Int))) (((0:Int)≤i∧i<(↑(List.length x):Int))∧∀(c:UInt8),x[Int.toNat i]? =some c→cA Eh [AV.int IntKind.u8 (↑(UInt8.toNat c):Int)] fun x_4 y=>Aa (!Ce x_4) (((0:Int)≤i∧i<(↑(List.length x):Int))∧∀(c:UInt8),x[Int.toNat i]? =some c→cA EG [AV.int IntKind.u8 (↑(UInt8.toNat c):Int)] fun x_5 y=>Aa (!Bl x_5) (rA EJ x [.bool false,.top]) (inR IntKind.i64 (i+(1:Int))∧eN (Mr x) i [.str x,.int .i64 (i+(1:Int))])) (inR IntKind.i64 (i+(1:Int))∧eN (Mr x) i [.str x,.int .i64 (i+(1:Int))])) (rA EJ x [.bool true,.top]))))) (fun x=>by kernel_rfl) fun(x:List UInt8) (hx:x.length<2^62)=>(by
 dsimp only[cA,eA,eN,Mr,rA,Cy,EG,Eh,EJ,Fa,Az,AC,mvL,lnL,mvE,lnE,Bt]
 have hp:∀h:inn x.length 1 30=true,1≤x.length:=fun h=>by simp [inn] at h;omega
 (repeat' first|(with_reducible first|rfl|exact True.intro|apply AN|apply And.intro|((first|apply AD|apply AL|apply AE|apply AM)<;>intro _))|(apply AA<;>intro _)|apply AK|refine Ae () ?_ ?_|((first|apply AR|apply AQ|apply AP|apply AO|apply AJ|apply AI|apply AH|apply AG|apply AF)<;>try dsimp only)|apply Ae|(refine Prod.forall.2 ?_;intro _;try dsimp only)|(intro _;try dsimp only))<;>(try dsimp only at*)<;>(try simp only[AU,List.length_cons,List.length_nil])<;>(try omega)
 all_goals(try(have:=hp ‹_›;omega))
 all_goals(try(have hI:=(‹nmI _ _› :nmI _ _).1;omega))
 ·rename_i h;exact RA (fun hh=>by rw[hh.1] at h;cases h)
 ·rename_i c hc _ _ h;exact RA (fun hh=>by rw[UZ hc,h] at hh;cases hh.2.1)
 ·rename_i h;exact RA (fun hh=>by rw[hh.2.2] at h;cases h)
 ·rename_i h1 c hc _ _ h2 _ _ h3;exact a1e h1 (by rw[UZ hc];exact h2) h3
 ·rename_i i hi hl c hc _ _ h1 d hd _ _ h2
  rw[hc] at hd;cases hd
  exact a1f hi hc (by simp [BC,h1,h2])
 ·rename_i i hi hl c hc _ _ h1 d hd _ _ h2
  rw[hc] at hd;cases hd
  exact Va hi hc hl (by simp [BC,h2])
 ·rename_i i hi hl c hc _ _ h1
  exact Va hi hc hl (by simp [BC,h1])
 ·exact a1g ‹_› ‹_›)
def Jn:Sig:= {X:=List UInt8,args:=fun x=>[.str x],pre:=fun x=>x.length<2^62,Y:=Unit,post:=fun x y=>True,res:=fun x y=> .bool (Cf x 2),outs:=fun x y=>[.top],keep:=false}
theorem a1z:Am G Tryz.prog 108 Jn:=
 vcFun_okP [(64,0,Cy),(126,0,EG)] [] false (fun x=>[(2,Dx Bl x fun i=>[(0,.str x),(3,.int .i64 i)])]) Tryz.func108 rfl (by decide) ⟨Je,Rq,trivial⟩ (fun(x:List UInt8)=>(∀(y:Unit),True→True∧True∧True)∧eA (Dx Bl x fun(i:Int)=>[((0:Nat),.str x),((3:Nat),.int .i64 i)]) [.str x,.int .i64 (0:Int)]∧∀(i:Int),((0:Int)≤i∧i≤(↑(List.length x):Int)∧∀(e:UInt8),e∈List.take (Int.toNat i) x→Bl e=true)→Aa (decide (i<(↑(List.length x):Int))) (((0:Int)≤i∧i<(↑(List.length x):Int))∧∀(c:UInt8),x[Int.toNat i]? =some c→cA EG [AV.int IntKind.u8 (↑(UInt8.toNat c):Int)] fun x_1 y=>Aa (!Bl x_1) (rA Jn x [.bool false,.top]) (inR IntKind.i64 (i+(1:Int))∧eN (Dx Bl x fun(i:Int)=>[((0:Nat),.str x),((3:Nat),.int .i64 i)]) i [.str x,.int .i64 (i+(1:Int))])) (cA Cy [.int .i64 (↑(List.length x):Int),.int .i64 (1:Int),.int .i64 (12:Int)] fun x_1 y=>rA Jn x [.bool (inn x_1.1 x_1.2.1 x_1.2.2),.top])) (fun x=>by kernel_rfl) fun(x:List UInt8) (hx:x.length<2^62)=>(by
 dsimp only[cA,eA,eN,Dx,rA,Cy,EG,Jn,Az,AC,mvL,lnL,mvE,lnE,Bt]
 (repeat' first|(with_reducible first|rfl|exact True.intro|apply AN|apply And.intro|((first|apply AD|apply AL|apply AE|apply AM)<;>intro _))|(apply AA<;>intro _)|apply AK|refine Ae () ?_ ?_|((first|apply AR|apply AQ|apply AP|apply AO|apply AJ|apply AI|apply AH|apply AG|apply AF)<;>try dsimp only)|apply Ae|(refine Prod.forall.2 ?_;intro _;try dsimp only)|(intro _;try dsimp only))<;>(try dsimp only at*)<;>(try simp only[AU,List.length_cons,List.length_nil])<;>(try omega)
 ·rename_i h;simp at h
 ·rename_i i hi hl c hc _ _ h;rw[UV,NG hc h];rfl
 ·rename_i i hi hl c hc _ _ h e he
  rw[DF hi.1] at he;exact Mm hi.2.2 hc h e he
 ·rename_i i hi hl _ _;rw[UV,Rm hi.2.2 (by omega)];simp only[Bool.true_and,inn];rw[Bool.eq_iff_iff];simp;omega)
def Ip:Sig:= {X:=List UInt8,args:=fun x=>[.str x],pre:=fun x=>x.length<2^62,Y:=Unit,post:=fun x y=>True,res:=fun x y=> .bool (Cf x 3),outs:=fun x y=>[.top],keep:=false}
theorem a1A:Am G Tryz.prog 109 Ip:=
 vcFun_okP [(133,0,GE)] [] false (fun x=>[]) Tryz.func109 rfl (by decide) ⟨Ve,trivial⟩ (fun(x:List UInt8)=>(∀(y:Unit),True→True∧True∧True)∧Aa (decide ((↑(List.length x):Int)>(1:Int))) (((0:Int)≤(0:Int)∧(0:Int)<(↑(List.length x):Int))∧∀(c:UInt8),x[(0:Nat)]? =some c→Aa ((↑(UInt8.toNat c):Int)==(39:Int)) (cA GE [.str x,.int .i64 (0:Int)] fun x_1 y=>rA Ip x [.bool ((↑(Ch (List.drop (Int.toNat x_1.2) x_1.1)):Int)==(↑(List.length x):Int)),.top]) (rA Ip x [.bool false,.top])) (rA Ip x [.bool false,.top])) (fun x=>by kernel_rfl) fun(x:List UInt8) (hx:x.length<2^62)=>(by
 dsimp only[cA,rA,GE,Ip,Az,AC,mvL,lnL,mvE,lnE]
 (repeat' first|(with_reducible first|rfl|exact True.intro|apply AN|apply And.intro|((first|apply AD|apply AL|apply AE|apply AM)<;>intro _))|(apply AA<;>intro _)|apply AK|refine Ae () ?_ ?_|((first|apply AR|apply AQ|apply AP|apply AO|apply AJ|apply AI|apply AH|apply AG|apply AF)<;>try dsimp only)|apply Ae|(refine Prod.forall.2 ?_;intro _;try dsimp only)|(intro _;try dsimp only))<;>(try dsimp only at*)<;>(try simp only[AU,List.length_cons,List.length_nil])<;>(try omega)
 ·exact a1h ‹_› ‹_› ‹_›
 ·exact a1i ‹_› ‹_›
 ·exact a1j ‹_›)
def Iq:Sig:= {X:=List UInt8,args:=fun x=>[.str x],pre:=fun x=>x.length<2^62,Y:=Unit,post:=fun x y=>True,res:=fun x y=> .bool (Cf x 5),outs:=fun x y=>[.top],keep:=false}
theorem a1B:Am G Tryz.prog 110 Iq:=
 vcFun_okP [(134,0,Fx),(135,0,Hd)] [] false (fun x=>[]) Tryz.func110 rfl (by decide) ⟨Vf,Vb,trivial⟩ (fun(x:List UInt8)=>(∀(y:Unit),True→True∧True∧True)∧Aa (decide ((↑(List.length x):Int)>(1:Int))) (cA Fx [.str x,.int .i64 (0:Int)] fun x_1 y=>Aa ((↑(Cc (List.drop (Int.toNat x_1.2) x_1.1)):Int)==(↑(List.length x):Int)) (cA Hd [.str x] fun x_2 y=>rA Iq x [.bool (Cl x_2==x),.top]) (rA Iq x [.bool false,.top])) (rA Iq x [.bool false,.top])) (fun x=>by kernel_rfl) fun(x:List UInt8) (hx:x.length<2^62)=>(by
 dsimp only[cA,rA,Fx,Iq,Hd,Az,AC,mvL,lnL,mvE,lnE]
 (repeat' first|(with_reducible first|rfl|exact True.intro|apply AN|apply And.intro|((first|apply AD|apply AL|apply AE|apply AM)<;>intro _))|(apply AA<;>intro _)|apply AK|refine Ae () ?_ ?_|((first|apply AR|apply AQ|apply AP|apply AO|apply AJ|apply AI|apply AH|apply AG|apply AF)<;>try dsimp only)|apply Ae|(refine Prod.forall.2 ?_;intro _;try dsimp only)|(intro _;try dsimp only))<;>(try dsimp only at*)<;>(try simp only[AU,List.length_cons,List.length_nil])<;>(try omega)
 ·exact a1k ‹_› ‹_›
 ·exact a1l ‹_›
 ·exact a1m ‹_›)
def Fy:Sig:= {X:=List UInt8,args:=fun x=>[.str x],pre:=fun x=>x.length<2^62,Y:=Unit,post:=fun x y=>True,res:=fun x y=> .bool (Ml x),outs:=fun x y=>[.top],keep:=false}
theorem a1C:Am G Tryz.prog 111 Fy:=
 vcFun_okP [] [] false (fun x=>[]) Tryz.func111 rfl (by decide) trivial (fun(x:List UInt8)=>(∀(y:Unit),True→True∧True∧True)∧Aa (x== #[(38:UInt8),(38:UInt8)].toList) (rA Fy x [.bool true,.top]) (Aa (x== #[(124:UInt8),(124:UInt8)].toList) (rA Fy x [.bool true,.top]) (Aa (x== #[(61:UInt8),(61:UInt8)].toList) (rA Fy x [.bool true,.top]) (Aa (x== #[(60:UInt8)].toList) (rA Fy x [.bool true,.top]) (Aa (x== #[(43:UInt8)].toList) (rA Fy x [.bool true,.top]) (Aa (x== #[(45:UInt8)].toList) (rA Fy x [.bool true,.top]) (Aa (x== #[(42:UInt8)].toList) (rA Fy x [.bool true,.top]) (rA Fy x [.bool false,.top])))))))) (fun x=>by kernel_rfl) fun(x:List UInt8) (hx:x.length<2^62)=>(by
 dsimp only[rA,Fy,Az,AC]
 (repeat' first|(with_reducible first|rfl|exact True.intro|apply AN|apply And.intro|((first|apply AD|apply AL|apply AE|apply AM)<;>intro _))|(apply AA<;>intro _)|apply AK|refine Ae () ?_ ?_|((first|apply AR|apply AQ|apply AP|apply AO|apply AJ|apply AI|apply AH|apply AG|apply AF)<;>try dsimp only)|apply Ae|(refine Prod.forall.2 ?_;intro _;try dsimp only)|(intro _;try dsimp only))<;>(try dsimp only at*)<;>(try simp only[AU,List.length_cons,List.length_nil])<;>(try omega)
 all_goals simp [Ml, *])
def Es:Sig:= {X:=Int×List UInt8,args:=fun x=>[.int .i64 x.1,.str x.2],pre:=fun x=>x.2.length<2^62,Y:=Unit,post:=fun x y=>True,res:=fun x y=> .bool (EF x.1 x.2),outs:=fun x y=>[.top,.top],keep:=false}
theorem a1D:Am G Tryz.prog 66 Es:=
 vcFun_okP [(92,0,EJ),(108,0,Jn),(109,0,Ip),(110,0,Iq),(111,0,Fy)] [] false (fun x=>[]) Tryz.func66 rfl (by decide) ⟨a1y,a1z,a1A,a1B,a1C,trivial⟩ (fun(x:Int×List UInt8)=>(∀(y:Unit),True→True∧True∧True∧True)∧Aa (x.1==(1:Int)) (cA EJ [.str x.2] fun x_1 y=>rA Es x [.bool (Dk x_1),.top,.top]) (Aa (x.1==(6:Int)) (cA EJ [.str x.2] fun x_1 y=>rA Es x [.bool (Dk x_1),.top,.top]) (Aa (x.1==(12:Int)) (cA EJ [.str x.2] fun x_1 y=>rA Es x [.bool (Dk x_1),.top,.top]) (Aa (x.1==(13:Int)) (cA EJ [.str x.2] fun x_1 y=>rA Es x [.bool (Dk x_1),.top,.top]) (Aa (x.1==(20:Int)) (cA EJ [.str x.2] fun x_1 y=>rA Es x [.bool (Dk x_1),.top,.top]) (Aa (x.1==(21:Int)) (cA EJ [.str x.2] fun x_1 y=>rA Es x [.bool (Dk x_1),.top,.top]) (Aa (x.1==(2:Int)) (cA Jn [.str x.2] fun x_1 y=>rA Es x [.bool (Cf x_1 (2:Int)),.top,.top]) (Aa (x.1==(3:Int)) (cA Ip [.str x.2] fun x_1 y=>rA Es x [.bool (Cf x_1 (3:Int)),.top,.top]) (Aa (x.1==(19:Int)) (cA Iq [.str x.2] fun x_1 y=>rA Es x [.bool (Cf x_1 (5:Int)),.top,.top]) (Aa (x.1==(7:Int)) (cA Fy [.str x.2] fun x_1 y=>rA Es x [.bool (Ml x_1),.top,.top]) (rA Es x [.bool (x.2== #[].toList),.top,.top]))))))))))) (fun x=>by kernel_rfl) fun(x:Int×List UInt8) (hx:x.2.length<2^62)=>(by
 dsimp only[cA,rA,Fy,EJ,Iq,Jn,Ip,Es,Az,AC,mvL,lnL,mvE,lnE]
 (repeat' first|(with_reducible first|rfl|exact True.intro|apply AN|apply And.intro|((first|apply AD|apply AL|apply AE|apply AM)<;>intro _))|(apply AA<;>intro _)|apply AK|refine Ae () ?_ ?_|((first|apply AR|apply AQ|apply AP|apply AO|apply AJ|apply AI|apply AH|apply AG|apply AF)<;>try dsimp only)|apply Ae|(refine Prod.forall.2 ?_;intro _;try dsimp only)|(intro _;try dsimp only))<;>(try dsimp only at*)<;>(try simp only[AU,List.length_cons,List.length_nil])<;>(try omega)
 all_goals simp [EF, *])
end Go.My
end
section
set_option linter.unusedVariables false
set_option linter.unusedSimpArgs false
namespace Go.My
open Go.Eng
def Et(k:Int):Int×Int:=
 if k=4∨k=18∨k=21∨k=22 then(0,12)
 else if k=5∨k=9∨k=20 then(1,12)
 else if k=6∨k=11∨k=13∨k=14 then(1,1)
 else if k=7∨k=10 then(2,12)
 else if k=8 then(3,3)
 else if k=12∨k=15 then(0,1)
 else if k=16 then(2,3)
 else if k=17 then(2,2)
 else(0,0)
def Fz(k n i y:Int):Bool:=
 if k=9 then(if i+1<n then DV y else BA y)
 else if k=20 then(if i+1<n then DV y else Dw y)
 else if k=10 then(if 0<i then EY y else BA y)
 else if k=16∨k=17 then(if 0<i then Dw y else BA y)
 else if k=18 then Eg y
 else if k=21 then Ef y
 else if k=22 then Ga y
 else BA y
def Jo(ns:List Nd)(x:Nd)(i c:Int):Bool:=
 Fz x.kind x.kids.length i (BX ns c)&&(if x.kind=10∧0<i then decide (BX ns ((Ai ns c).kids.headD 0)=1) else true)
def Dn(ns:List Nd)(x:Nd)(i c:Int):Bool:=
 (!(decide (BX ns c=5)&&(decide ((Ai ns c).kids.length=0)|| !Bz ns ((Ai ns c).kids.headD 0))))&&Jo ns x i c
def BJ(f:Int→Int→Bool):List Int→Int→Bool
 |[],_=>true
 |c::l,i=>f i c&&BJ f l (i+1)
theorem RC{f g:Int→Int→Bool}:∀ {l:List Int} {i:Int},(∀j c,i≤j→j<i+l.length→c∈l→f j c=g j c)→BJ f l i=BJ g l i
 |[],i,h=>rfl
 |c::l,i,h=>by
  simp only[BJ]
  rw[h i c (Int.le_refl i) (by simp;omega) (by simp),RC (fun j c hj hl hc=>h j c (by omega) (by simp;omega) (by simp [hc]))]
theorem Vg{f g:Int→Int→Bool}:∀ {l:List Int} {i:Int},BJ (fun i c=>f i c&&g i c) l i=(BJ f l i&&BJ g l i)
 |[],i=>rfl
 |c::l,i=>by
  simp only[BJ];rw[Vg]
  cases f i c<;>cases g i c<;>cases BJ f l (i+1)<;>cases BJ g l (i+1)<;>rfl
theorem NS{f:Int→Bool}:∀ {l:List Int} {i:Int},BJ (fun _ c=>f c) l i=l.all f
 |[],i=>rfl
 |c::l,i=>by simp only[BJ,List.all_cons];rw[NS]
theorem Vh{f:Int→Int→Bool}{g:Int→Int}:∀ {l:List Int} {i:Int},BJ f (l.map g) i=BJ (fun i c=>f i (g c)) l i
 |[],i=>rfl
 |c::l,i=>by simp only[BJ,List.map_cons];rw[Vh]
theorem Vi{f:Int→Int→Bool}:∀ {l m:List Int} {i:Int},BJ f (l++m) i=(BJ f l i&&BJ f m (i+l.length))
 |[],m,i=>by simp [BJ]
 |c::l,m,i=>by
  simp only[List.cons_append,BJ];rw[Vi,Bool.and_assoc]
  congr 2;congr 1;simp;omega
theorem RD{f:Int→Int→Bool}:∀ {l:List Int} {i:Nat},((l.zipIdx i).all fun p=>f p.2 p.1)=BJ f l i
 |[],i=>rfl
 |c::l,i=>by
  simp only[List.zipIdx_cons,List.all_cons,BJ];rw[RD];congr 2
theorem RE{f:Int→Int→Bool}{l:List Int}:BJ f l 0=true↔∀(j:Nat) c,l[j]? =some c→f j c=true:=by
 have:∀(l:List Int) (i:Nat),BJ f l i=true↔∀(j:Nat) c,l[j]? =some c→f (i+j:Nat) c=true:=by
  intro l
  induction l with
  |nil=>intro i;simp [BJ]
  |cons c l ih=>
   intro i
   simp only[BJ,Bool.and_eq_true]
   have:=ih (i+1)
   rw[show((i:Int)+1)=((i+1:Nat):Int) from by omega,this]
   constructor
   ·rintro⟨h1,h2⟩ j d hd
    cases j with
    |zero=>simp at hd;subst hd;simpa using h1
    |succ j=>have:=h2 j d (by simpa using hd);rwa [show i+1+j=i+(j+1) by omega] at this
   ·intro h
    refine⟨by simpa using h 0 c rfl,fun j d hd=> ?_⟩
    have:=h (j+1) d (by simpa using hd)
    rwa [show i+(j+1)=i+1+j by omega] at this
 have:=this l 0
 simpa using this
theorem a1E{l:List Int}{k:Int}(h:l.getLast? =some k):l=l.dropLast++[k]:=by
 have hne:l≠[]:=by intro e;rw[e] at h;cases h
 rw[List.getLast?_eq_some_getLast hne] at h
 have:=List.dropLast_concat_getLast hne
 rw[Option.some.inj h] at this;exact this.symm
theorem Vj{p:Int→Bool}{l:List Int}:(decide (1≤l.length)&&BJ (fun i y=>if i+1<(l.length:Int) then DV y else p y) l 0)=Gz p l:=by
 unfold Gz
 cases h:l.getLast? with
 |none=>have:l=[]:=by simpa using h
        subst this;rfl
 |some k=>
  have e:=a1E h
  generalize hd:l.dropLast=m at e ⊢
  subst e
  rw[Vi]
  have h1:BJ (fun i y=>if i+1<((m++[k]).length:Int) then DV y else p y) m 0=m.all DV:=by
   rw[←NS (i:=0)]
   exact RC fun j c h0 hj hc=>if_pos (by simp;omega)
  rw[h1]
  simp only[BJ]
  have h2:¬((0:Int)+m.length+1<((m++[k]).length:Int)):=by simp
  rw[if_neg h2]
  have:decide (1≤(m++[k]).length)=true:=by simp
  rw[this];simp [Bool.and_comm]
theorem Vk{p q:Int→Bool}{c:Int}{l:List Int}:BJ (fun i y=>if 0<i then q y else p y) (c::l) 0=(p c&&l.all q):=by
 simp only[BJ]
 have h1:¬((0:Int)<0):=by omega
 rw[if_neg h1]
 congr 1
 rw[←NS (i:=0+1)]
 exact RC fun j c h0 hj hc=>if_pos (by omega)
theorem a1F{k:Int}{l:List Int}(h1:1≤k)(h2:k≤22):(inn l.length (Et k).1 (Et k).2&&BJ (fun i y=>Fz k l.length i y) l 0)=(decide (l.length≤12)&&DG k l):=by
 have hk:k=1∨k=2∨k=3∨k=4∨k=5∨k=6∨k=7∨k=8∨k=9∨k=10∨k=11∨k=12∨k=13∨k=14∨k=15∨k=16∨k=17∨k=18∨k=19∨k=20∨k=21∨k=22:=by omega
 have len0:∀ {b c:Bool},l.length=0→(l=[]):=fun h=>List.length_eq_zero_iff.1 h
 rcases hk with rfl|rfl|rfl|rfl|rfl|rfl|rfl|rfl|rfl|rfl|rfl|rfl|rfl|rfl|rfl|rfl|rfl|rfl|rfl|rfl|rfl|rfl
 all_goals simp only[Et,Fz,DG,inn,Int.reduceEq,or_self,or_false,false_or,or_true,true_or,if_true,if_false,reduceIte]
 all_goals try(
  by_cases h:l.length=0
  ·have:=List.length_eq_zero_iff.1 h;subst this;rfl
  ·have e1:decide ((l.length:Int)≤0)=false:=decide_eq_false (by omega)
   have e2:decide (l.length=0)=false:=decide_eq_false h
   simp only[e1,e2,Bool.and_false,Bool.false_and];done)
 all_goals try rw[NS]
 all_goals try(
  generalize l.all _=b
  rw[Bool.eq_iff_iff];cases b<;>simp only[Bool.and_eq_true,decide_eq_true_eq,Bool.false_eq_true,and_false,and_true]<;>omega)
 ·rw[show decide (1≤(l.length:Int))=decide (1≤l.length) from decide_eq_decide.2 (by omega),show decide ((l.length:Int)≤12)=decide (l.length≤12) from decide_eq_decide.2 (by omega),←Vj (p:=BA)]
  generalize BJ _ l 0=b
  cases decide (1≤l.length)<;>cases decide (l.length≤12)<;>cases b<;>rfl
 ·cases l with
  |nil=>rfl
  |cons c l=>
   rw[Vk]
   simp only[List.headD_cons,List.drop_succ_cons,List.drop_zero]
   generalize BA c=b;generalize l.all _=d
   rw[Bool.eq_iff_iff];cases b<;>cases d<;>simp only[Bool.and_eq_true,decide_eq_true_eq,Bool.false_eq_true,and_false,and_true]<;>omega
 ·cases l with
  |nil=>rfl
  |cons c l=>
   rw[Vk]
   simp only[List.headD_cons,List.drop_succ_cons,List.drop_zero]
   generalize BA c=b;generalize l.all _=d
   rw[Bool.eq_iff_iff];cases b<;>cases d<;>simp only[Bool.and_eq_true,decide_eq_true_eq,Bool.false_eq_true,and_false,and_true]<;>omega
 ·match l with
  |[]=>rfl
  |[c]=>rfl
  |[c,d]=>simp [BJ]
  |c::d::e::l=>
   have e1:decide (((c::d::e::l).length:Int)≤2)=false:=decide_eq_false (by simp;omega)
   have e2:decide ((c::d::e::l).length=2)=false:=decide_eq_false (by simp)
   rw[e1,e2];simp
 ·rw[show decide (1≤(l.length:Int))=decide (1≤l.length) from decide_eq_decide.2 (by omega),show decide ((l.length:Int)≤12)=decide (l.length≤12) from decide_eq_decide.2 (by omega),←Vj (p:=Dw)]
  generalize BJ _ l 0=b
  cases decide (1≤l.length)<;>cases decide (l.length≤12)<;>cases b<;>rfl
theorem a1G{k:Int}{l:List Int}(h:inn k 1 22=false):DG k l=false:=by
 have h:¬(1≤k∧k≤22):=by intro hh;simp [inn] at h;omega
 unfold DG
 have e:∀j:Int,1≤j→j≤22→k≠j:=fun j h1 h2 e=>h (by omega)
 simp [e]
theorem a1H{ns:List Nd}{x:Nd}{i c:Int}:Dn ns x i c=(Fz x.kind x.kids.length i (BX ns c)&&Cw ns x i.toNat c):=by
 unfold Dn Jo Cw BX
 generalize hy:Ai ns c=y
 by_cases h5:y.kind=5
 ·simp only[h5,if_true,decide_true,Bool.true_and]
  cases hk:y.kids with
  |nil=>simp
  |cons h t=>
   simp only[List.length_cons,List.headD_cons]
   have e0:decide (t.length+1=0)=false:=by simp
   rw[e0]
   by_cases hx:x.kind=10∧0<i
   ·have hi:0<i.toNat:=by omega
    simp only[hx,and_self,if_true,decide_true,Bool.true_and,hi]
    generalize Fz 10 _ _ _=a;generalize Bz ns h=b
    by_cases hd:(Ai ns h).kind=1<;>cases a<;>cases b<;>simp [hd]
   ·rw[if_neg hx]
    have:(decide (x.kind=10)&&(decide (0<i.toNat)&& !decide ((Ai ns h).kind=1)))=false:=by
     by_cases h1:x.kind=10
     ·have:¬0<i.toNat:=by omega
      simp [this]
     ·simp [h1]
    rw[this]
    generalize Fz _ _ _ _=a;generalize Bz ns h=b
    cases a<;>cases b<;>rfl
 ·simp only[h5,if_false,decide_false,Bool.false_and,Bool.not_false,Bool.true_and,Bool.and_true]
  by_cases hx:x.kind=10∧0<i
  ·rw[if_pos hx]
   have:Fz x.kind x.kids.length i y.kind=false:=by
    simp [Fz,hx,EY,h5]
   rw[this];rfl
  ·rw[if_neg hx];simp
theorem a1I{ns:List Nd}{k:Int}{x:Nd}:Ha ns k x=
 (inn x.kind 1 22&&(inn x.kids.length (Et x.kind).1 (Et x.kind).2&&(EF x.kind x.text&&((GA x.kind|| !x.blank)&&((Dl x.kids k&&decide x.kids.Nodup)&&BJ (Dn ns x) x.kids 0))))):=by
 have e1:BJ (Dn ns x) x.kids 0=(BJ (fun i y=>Fz x.kind (x.kids.map (BX ns)).length i y) (x.kids.map (BX ns)) 0&&Ep ns x):=by
  have:(Dn ns x)=fun i c=>(Fz x.kind x.kids.length i (BX ns c)&&Cw ns x i.toNat c):=by
   funext i c;exact a1H
  rw[this,Vg,Vh,List.length_map]
  congr 1
  unfold Ep
  have:(fun p:Int×Nat=>Cw ns x p.2 p.1)=fun p:Int×Nat=>(fun(i c:Int)=>Cw ns x i.toNat c) p.2 p.1:=by
   funext p;simp
  rw[this]
  exact(RD (f:=fun i c=>Cw ns x i.toNat c) (i:=0)).symm
 unfold Ha
 by_cases h:inn x.kind 1 22=true
 ·have hb:= @a1F x.kind (x.kids.map (BX ns)) (by simp [inn] at h;omega) (by simp [inn] at h;omega)
  rw[List.length_map] at hb
  rw[e1,List.length_map,h]
  generalize decide (x.kids.length≤12)=a at hb ⊢;generalize DG x.kind _=b at hb ⊢;generalize inn _ _ _=c at hb ⊢
  generalize BJ _ _ 0=d at hb ⊢;generalize EF _ _=e;generalize GA _=f;generalize Ep _ _=g;generalize Dl _ _=h1;generalize decide x.kids.Nodup=h2
  cases a<;>cases b<;>cases c<;>cases d<;>simp at hb<;>cases e<;>cases f<;>cases g<;>cases h1<;>cases h2<;>simp
 ·simp only[Bool.not_eq_true] at h
  rw[a1G h,h];simp
end Go.My
end
section
set_option linter.unusedVariables false
set_option linter.unusedSimpArgs false
namespace Go.My
open Go.Eng Go.Proofs
variable {G:GInv}
theorem Fb{a b:Int}:(a==b)=decide (a=b):=by rw[Bool.eq_iff_iff];simp
theorem a1J{α:Type}{p:α→Bool}{x:List α}{n:Nat}{e:α}(he:x[n]? =some e)(hp:p e=true)(h:∀e∈x.take n,p e=true):∀e∈x.take (n+1),p e=true:=by
 rw[Fv he];intro d hd
 rcases List.mem_append.1 hd with hd|hd
 ·exact h d hd
 ·simp at hd;subst hd;exact hp
theorem a1K{α:Type}{p:α→Bool}{x:List α}{n:Nat}(h:∀e∈x.take n,p e=true)(hn:x.length≤n):x.all p=true:=by
 rw[List.take_of_length_le hn] at h;exact List.all_eq_true.2 h
theorem Jp{α:Type}{p:α→Bool}{x:List α}{n:Nat}{e:α}(he:x[n]? =some e)(hp:p e=false):x.all p=false:=by
 rw[Bool.eq_false_iff];intro h
 rw[List.all_eq_true.1 h e (List.mem_of_getElem? he)] at hp;cases hp
def Fc:Sig:= {X:=Int,args:=fun x=>[.int .i64 x],pre:=fun x=>True,Y:=Unit,post:=fun x y=>True,res:=fun x y=> .bool (BA x),outs:=fun x y=>[.top],keep:=false}
theorem RF:Am G Tryz.prog 102 Fc:=
 vcFun_okP [(57,0,Er)] [] false (fun x=>[]) Tryz.func102 rfl (by decide) ⟨NK,trivial⟩ (fun(x:Int)=>(∀(y:Unit),True→True∧True∧True)∧cA Er [.int .i64 x,.int .i64 (1:Int),.int .i64 (11:Int)] fun x_1 y=>rA Fc x [.bool (inn x_1.1 x_1.2.1 x_1.2.2),.top]) (fun x=>by kernel_rfl) fun(x:Int) (hx:True)=>(by
 dsimp only[cA,rA,Er,Fc,Az,AC,mvL,lnL,mvE,lnE]
 (repeat' first|(with_reducible first|rfl|exact True.intro|apply AN|apply And.intro|((first|apply AD|apply AL|apply AE|apply AM)<;>intro _))|(apply AA<;>intro _)|apply AK|refine Ae () ?_ ?_|((first|apply AR|apply AQ|apply AP|apply AO|apply AJ|apply AI|apply AH|apply AG|apply AF)<;>try dsimp only)|apply Ae|(refine Prod.forall.2 ?_;intro _;try dsimp only)|(intro _;try dsimp only))<;>(try dsimp only at*)<;>(try simp only[AU,List.length_cons,List.length_nil])<;>(try omega)
 all_goals simp [BA,Fb, *])
def Hx:Sig:= {X:=Int,args:=fun x=>[.int .i64 x],pre:=fun x=>True,Y:=Unit,post:=fun x y=>True,res:=fun x y=> .bool (Ik x),outs:=fun x y=>[.top],keep:=false}
theorem Vl:Am G Tryz.prog 60 Hx:=
 vcFun_okP [(57,0,Er)] [] false (fun x=>[]) Tryz.func60 rfl (by decide) ⟨NK,trivial⟩ (fun(x:Int)=>(∀(y:Unit),True→True∧True∧True)∧cA Er [.int .i64 x,.int .i64 (12:Int),.int .i64 (17:Int)] fun x_1 y=>rA Hx x [.bool (inn x_1.1 x_1.2.1 x_1.2.2),.top]) (fun x=>by kernel_rfl) fun(x:Int) (hx:True)=>(by
 dsimp only[cA,rA,Er,Hx,Az,AC,mvL,lnL,mvE,lnE]
 (repeat' first|(with_reducible first|rfl|exact True.intro|apply AN|apply And.intro|((first|apply AD|apply AL|apply AE|apply AM)<;>intro _))|(apply AA<;>intro _)|apply AK|refine Ae () ?_ ?_|((first|apply AR|apply AQ|apply AP|apply AO|apply AJ|apply AI|apply AH|apply AG|apply AF)<;>try dsimp only)|apply Ae|(refine Prod.forall.2 ?_;intro _;try dsimp only)|(intro _;try dsimp only))<;>(try dsimp only at*)<;>(try simp only[AU,List.length_cons,List.length_nil])<;>(try omega)
 all_goals simp [Ik,Fb, *])
def Gg:Sig:= {X:=Int,args:=fun x=>[.int .i64 x],pre:=fun x=>True,Y:=Unit,post:=fun x y=>True,res:=fun x y=> .bool (Dw x),outs:=fun x y=>[.top],keep:=false}
theorem RG:Am G Tryz.prog 105 Gg:=
 vcFun_okP [] [] false (fun x=>[]) Tryz.func105 rfl (by decide) trivial (fun(x:Int)=>(∀(y:Unit),True→True∧True∧True)∧rA Gg x [.bool (x==(18:Int)),.top]) (fun x=>by kernel_rfl) fun(x:Int) (hx:True)=>(by
 dsimp only[rA,Gg,Az,AC]
 (repeat' first|(with_reducible first|rfl|exact True.intro|apply AN|apply And.intro|((first|apply AD|apply AL|apply AE|apply AM)<;>intro _))|(apply AA<;>intro _)|apply AK|refine Ae () ?_ ?_|((first|apply AR|apply AQ|apply AP|apply AO|apply AJ|apply AI|apply AH|apply AG|apply AF)<;>try dsimp only)|apply Ae|(refine Prod.forall.2 ?_;intro _;try dsimp only)|(intro _;try dsimp only))<;>(try dsimp only at*)<;>(try simp only[AU,List.length_cons,List.length_nil])<;>(try omega)
 all_goals simp [Dw,Fb, *])
def Fd:Sig:= {X:=Int,args:=fun x=>[.int .i64 x],pre:=fun x=>True,Y:=Unit,post:=fun x y=>True,res:=fun x y=> .bool (Ef x),outs:=fun x y=>[.top],keep:=false}
theorem RH:Am G Tryz.prog 61 Fd:=
 vcFun_okP [] [] false (fun x=>[]) Tryz.func61 rfl (by decide) trivial (fun(x:Int)=>(∀(y:Unit),True→True∧True∧True)∧Aa (x==(12:Int)) (rA Fd x [.bool true,.top]) (Aa (x==(20:Int)) (rA Fd x [.bool true,.top]) (rA Fd x [.bool (x==(19:Int)),.top]))) (fun x=>by kernel_rfl) fun(x:Int) (hx:True)=>(by
 dsimp only[rA,Fd,Az,AC]
 (repeat' first|(with_reducible first|rfl|exact True.intro|apply AN|apply And.intro|((first|apply AD|apply AL|apply AE|apply AM)<;>intro _))|(apply AA<;>intro _)|apply AK|refine Ae () ?_ ?_|((first|apply AR|apply AQ|apply AP|apply AO|apply AJ|apply AI|apply AH|apply AG|apply AF)<;>try dsimp only)|apply Ae|(refine Prod.forall.2 ?_;intro _;try dsimp only)|(intro _;try dsimp only))<;>(try dsimp only at*)<;>(try simp only[AU,List.length_cons,List.length_nil])<;>(try omega)
 all_goals simp [Ef,Fb, *])
def KS:Sig:= {X:=Int,args:=fun x=>[.int .i64 x],pre:=fun x=>True,Y:=Unit,post:=fun x y=>True,res:=fun x y=> .bool (EY x),outs:=fun x y=>[.top],keep:=false}
theorem a1L:Am G Tryz.prog 104 KS:=
 vcFun_okP [] [] false (fun x=>[]) Tryz.func104 rfl (by decide) trivial (fun(x:Int)=>(∀(y:Unit),True→True∧True∧True)∧rA KS x [.bool (x==(5:Int)),.top]) (fun x=>by kernel_rfl) fun(x:Int) (hx:True)=>(by
 dsimp only[rA,KS,Az,AC]
 (repeat' first|(with_reducible first|rfl|exact True.intro|apply AN|apply And.intro|((first|apply AD|apply AL|apply AE|apply AM)<;>intro _))|(apply AA<;>intro _)|apply AK|refine Ae () ?_ ?_|((first|apply AR|apply AQ|apply AP|apply AO|apply AJ|apply AI|apply AH|apply AG|apply AF)<;>try dsimp only)|apply Ae|(refine Prod.forall.2 ?_;intro _;try dsimp only)|(intro _;try dsimp only))<;>(try dsimp only at*)<;>(try simp only[AU,List.length_cons,List.length_nil])<;>(try omega)
 all_goals simp [EY,Fb, *])
def Jq:Sig:= {X:=Int,args:=fun x=>[.int .i64 x],pre:=fun x=>True,Y:=Unit,post:=fun x y=>True,res:=fun x y=> .bool (Eg x),outs:=fun x y=>[.top],keep:=false}
theorem a1M:Am G Tryz.prog 106 Jq:=
 vcFun_okP [(60,0,Hx)] [] false (fun x=>[]) Tryz.func106 rfl (by decide) ⟨Vl,trivial⟩ (fun(x:Int)=>(∀(y:Unit),True→True∧True∧True)∧cA Hx [.int .i64 x] fun x_1 y=>Aa (Ik x_1) (rA Jq x [.bool true,.top]) (rA Jq x [.bool (x==(19:Int)),.top])) (fun x=>by kernel_rfl) fun(x:Int) (hx:True)=>(by
 dsimp only[cA,rA,Hx,Jq,Az,AC,mvL,lnL,mvE,lnE]
 (repeat' first|(with_reducible first|rfl|exact True.intro|apply AN|apply And.intro|((first|apply AD|apply AL|apply AE|apply AM)<;>intro _))|(apply AA<;>intro _)|apply AK|refine Ae () ?_ ?_|((first|apply AR|apply AQ|apply AP|apply AO|apply AJ|apply AI|apply AH|apply AG|apply AF)<;>try dsimp only)|apply Ae|(refine Prod.forall.2 ?_;intro _;try dsimp only)|(intro _;try dsimp only))<;>(try dsimp only at*)<;>(try simp only[AU,List.length_cons,List.length_nil])<;>(try omega)
 all_goals simp [Eg,Fb, *])
def Jr:Sig:= {X:=Int,args:=fun x=>[.int .i64 x],pre:=fun x=>True,Y:=Unit,post:=fun x y=>True,res:=fun x y=> .bool (Ga x),outs:=fun x y=>[.top],keep:=false}
theorem a1N:Am G Tryz.prog 107 Jr:=
 vcFun_okP [(61,0,Fd)] [] false (fun x=>[]) Tryz.func107 rfl (by decide) ⟨RH,trivial⟩ (fun(x:Int)=>(∀(y:Unit),True→True∧True∧True)∧cA Fd [.int .i64 x] fun x_1 y=>Aa (Ef x_1) (rA Jr x [.bool true,.top]) (rA Jr x [.bool (x==(21:Int)),.top])) (fun x=>by kernel_rfl) fun(x:Int) (hx:True)=>(by
 dsimp only[cA,rA,Fd,Jr,Az,AC,mvL,lnL,mvE,lnE]
 (repeat' first|(with_reducible first|rfl|exact True.intro|apply AN|apply And.intro|((first|apply AD|apply AL|apply AE|apply AM)<;>intro _))|(apply AA<;>intro _)|apply AK|refine Ae () ?_ ?_|((first|apply AR|apply AQ|apply AP|apply AO|apply AJ|apply AI|apply AH|apply AG|apply AF)<;>try dsimp only)|apply Ae|(refine Prod.forall.2 ?_;intro _;try dsimp only)|(intro _;try dsimp only))<;>(try dsimp only at*)<;>(try simp only[AU,List.length_cons,List.length_nil])<;>(try omega)
 all_goals simp [Ga,Fb, *])
def KT:Sig:= {X:=Int,args:=fun x=>[.int .i64 x],pre:=fun x=>True,Y:=Unit,post:=fun x y=>True,res:=fun x y=> .bool (DV x),outs:=fun x y=>[.top],keep:=false}
theorem a1O:Am G Tryz.prog 132 KT:=
 vcFun_okP [] [] false (fun x=>[]) Tryz.func132 rfl (by decide) trivial (fun(x:Int)=>(∀(y:Unit),True→True∧True∧True)∧rA KT x [.bool (x==(1:Int)),.top]) (fun x=>by kernel_rfl) fun(x:Int) (hx:True)=>(by
 dsimp only[rA,KT,Az,AC]
 (repeat' first|(with_reducible first|rfl|exact True.intro|apply AN|apply And.intro|((first|apply AD|apply AL|apply AE|apply AM)<;>intro _))|(apply AA<;>intro _)|apply AK|refine Ae () ?_ ?_|((first|apply AR|apply AQ|apply AP|apply AO|apply AJ|apply AI|apply AH|apply AG|apply AF)<;>try dsimp only)|apply Ae|(refine Prod.forall.2 ?_;intro _;try dsimp only)|(intro _;try dsimp only))<;>(try dsimp only at*)<;>(try simp only[AU,List.length_cons,List.length_nil])<;>(try omega)
 all_goals simp [DV,Fb, *])
def DI(p:Int→Bool)(x:List Int)(i:Int):Prop:=0≤i∧i≤x.length∧∀e∈x.take i.toNat,p e=true
theorem Js{p:Int→Bool}{x:List Int}:DI p x 0:=⟨by omega,by omega,by simp⟩
theorem Jt{p:Int→Bool}{x:List Int}{i:Int}{e:Int}(h:DI p x i)(he:x[i.toNat]? =some e)(hp:p e=true):DI p x (i+1):=by
 obtain⟨h1,h2,h3⟩:=h
 have:=(EE he).1
 exact⟨by omega,by omega,by rw[DF h1];exact a1J he hp h3⟩
theorem Ju{p:Int→Bool}{x:List Int}{i:Int}(h:DI p x i)(hl:¬i<x.length):true=x.all p:=(a1K h.2.2 (by omega)).symm
def CB(p:Int→Bool)(c:AV)(x:List Int):LS:= {
 ι:=Int,inv:=DI p x,regs:=fun i=>[(0,AW x),(1,c),(7,AW x),(8,.int .i64 x.length),(9,.int .i64 i)],als:=[],meas:=fun i=>x.length-i.toNat}
def Jv:Sig:= {X:=List Int,args:=fun x=>[AW x,.clo (.func 102) []],pre:=fun x=>x.length<2^62,Y:=Unit,post:=fun x y=>True,res:=fun x y=> .bool (x.all BA),outs:=fun x y=>[.top,.top],keep:=false}
theorem a1P:Am G Tryz.prog 101 Jv:=
 vcFun_okP [(102,0,Fc)] [] false (fun x=>[(2,CB BA (.clo (.func 102) []) x)]) Tryz.func101 rfl (by decide) ⟨RF,trivial⟩ (fun(x:List Int)=>(∀(y:Unit),True→True∧True∧True∧True)∧eA (CB BA (AV.clo (.func 102) []) x) [AW x,AV.clo (.func 102) [],AW x,.int .i64 (↑(List.length x):Int),.int .i64 (0:Int)]∧∀(i:Int),DI BA x i→Aa (decide (i<(↑(List.length x):Int))) (((0:Int)≤i∧i<(↑(List.length x):Int))∧∀(e:Int),x[Int.toNat i]? =some e→cA Fc [.int .i64 e] fun x_1 y=>Aa (!BA x_1) (rA Jv x [.bool false,.top,.top]) (inR IntKind.i64 (i+(1:Int))∧eN (CB BA (AV.clo (.func 102) []) x) i [AW x,AV.clo (.func 102) [],AW x,.int .i64 (↑(List.length x):Int),.int .i64 (i+(1:Int))])) (rA Jv x [.bool true,.top,.top])) (fun x=>by kernel_rfl) fun(x:List Int) (hx:x.length<2^62)=>(by
 dsimp only[cA,eA,eN,AW,CB,rA,Jv,Fc,Az,AC,mvL,lnL,mvE,lnE,Bt]
 have hx:x.length<2^62:=hx
 (repeat' first|(with_reducible first|rfl|exact True.intro|apply AN|apply And.intro|((first|apply AD|apply AL|apply AE|apply AM)<;>intro _))|(apply AA<;>intro _)|apply AK|refine Ae () ?_ ?_|((first|apply AR|apply AQ|apply AP|apply AO|apply AJ|apply AI|apply AH|apply AG|apply AF)<;>try dsimp only)|apply Ae|(refine Prod.forall.2 ?_;intro _;try dsimp only)|(intro _;try dsimp only))
 all_goals first|exact Js|(rename_i i hi hl e he y _ hp;exact(Jp he hp).symm)|(rename_i i hi hl e he y _ hp;exact Jt hi he hp)|(rename_i i hi hl;exact Ju hi hl)|(obtain⟨_,_,_⟩:= ‹DI _ _ _›;(try simp only[AU] at*);omega)|skip)
def Jw:Sig:= {X:=List Int,args:=fun x=>[AW x,.clo (.func 105) []],pre:=fun x=>x.length<2^62,Y:=Unit,post:=fun x y=>True,res:=fun x y=> .bool (x.all Dw),outs:=fun x y=>[.top,.top],keep:=false}
theorem a1Q:Am G Tryz.prog 101 Jw:=
 vcFun_okP [(105,0,Gg)] [] false (fun x=>[(2,CB Dw (.clo (.func 105) []) x)]) Tryz.func101 rfl (by decide) ⟨RG,trivial⟩ (fun(x:List Int)=>(∀(y:Unit),True→True∧True∧True∧True)∧eA (CB Dw (AV.clo (.func 105) []) x) [AW x,AV.clo (.func 105) [],AW x,.int .i64 (↑(List.length x):Int),.int .i64 (0:Int)]∧∀(i:Int),DI Dw x i→Aa (decide (i<(↑(List.length x):Int))) (((0:Int)≤i∧i<(↑(List.length x):Int))∧∀(e:Int),x[Int.toNat i]? =some e→cA Gg [.int .i64 e] fun x_1 y=>Aa (!Dw x_1) (rA Jw x [.bool false,.top,.top]) (inR IntKind.i64 (i+(1:Int))∧eN (CB Dw (AV.clo (.func 105) []) x) i [AW x,AV.clo (.func 105) [],AW x,.int .i64 (↑(List.length x):Int),.int .i64 (i+(1:Int))])) (rA Jw x [.bool true,.top,.top])) (fun x=>by kernel_rfl) fun(x:List Int) (hx:x.length<2^62)=>(by
 dsimp only[cA,eA,eN,AW,CB,rA,Jw,Gg,Az,AC,mvL,lnL,mvE,lnE,Bt]
 have hx:x.length<2^62:=hx
 (repeat' first|(with_reducible first|rfl|exact True.intro|apply AN|apply And.intro|((first|apply AD|apply AL|apply AE|apply AM)<;>intro _))|(apply AA<;>intro _)|apply AK|refine Ae () ?_ ?_|((first|apply AR|apply AQ|apply AP|apply AO|apply AJ|apply AI|apply AH|apply AG|apply AF)<;>try dsimp only)|apply Ae|(refine Prod.forall.2 ?_;intro _;try dsimp only)|(intro _;try dsimp only))
 all_goals first|exact Js|(rename_i i hi hl e he y _ hp;exact(Jp he hp).symm)|(rename_i i hi hl e he y _ hp;exact Jt hi he hp)|(rename_i i hi hl;exact Ju hi hl)|(obtain⟨_,_,_⟩:= ‹DI _ _ _›;(try simp only[AU] at*);omega)|skip)
def Jx:Sig:= {X:=List Int,args:=fun x=>[AW x,.clo (.func 61) []],pre:=fun x=>x.length<2^62,Y:=Unit,post:=fun x y=>True,res:=fun x y=> .bool (x.all Ef),outs:=fun x y=>[.top,.top],keep:=false}
theorem a1R:Am G Tryz.prog 101 Jx:=
 vcFun_okP [(61,0,Fd)] [] false (fun x=>[(2,CB Ef (.clo (.func 61) []) x)]) Tryz.func101 rfl (by decide) ⟨RH,trivial⟩ (fun(x:List Int)=>(∀(y:Unit),True→True∧True∧True∧True)∧eA (CB Ef (AV.clo (.func 61) []) x) [AW x,AV.clo (.func 61) [],AW x,.int .i64 (↑(List.length x):Int),.int .i64 (0:Int)]∧∀(i:Int),DI Ef x i→Aa (decide (i<(↑(List.length x):Int))) (((0:Int)≤i∧i<(↑(List.length x):Int))∧∀(e:Int),x[Int.toNat i]? =some e→cA Fd [.int .i64 e] fun x_1 y=>Aa (!Ef x_1) (rA Jx x [.bool false,.top,.top]) (inR IntKind.i64 (i+(1:Int))∧eN (CB Ef (AV.clo (.func 61) []) x) i [AW x,AV.clo (.func 61) [],AW x,.int .i64 (↑(List.length x):Int),.int .i64 (i+(1:Int))])) (rA Jx x [.bool true,.top,.top])) (fun x=>by kernel_rfl) fun(x:List Int) (hx:x.length<2^62)=>(by
 dsimp only[cA,eA,eN,AW,CB,rA,Jx,Fd,Az,AC,mvL,lnL,mvE,lnE,Bt]
 have hx:x.length<2^62:=hx
 (repeat' first|(with_reducible first|rfl|exact True.intro|apply AN|apply And.intro|((first|apply AD|apply AL|apply AE|apply AM)<;>intro _))|(apply AA<;>intro _)|apply AK|refine Ae () ?_ ?_|((first|apply AR|apply AQ|apply AP|apply AO|apply AJ|apply AI|apply AH|apply AG|apply AF)<;>try dsimp only)|apply Ae|(refine Prod.forall.2 ?_;intro _;try dsimp only)|(intro _;try dsimp only))
 all_goals first|exact Js|(rename_i i hi hl e he y _ hp;exact(Jp he hp).symm)|(rename_i i hi hl e he y _ hp;exact Jt hi he hp)|(rename_i i hi hl;exact Ju hi hl)|(obtain⟨_,_,_⟩:= ‹DI _ _ _›;(try simp only[AU] at*);omega)|skip)
def Jy:Sig:= {X:=List Int,args:=fun x=>[AW x,.clo (.func 104) []],pre:=fun x=>x.length<2^62,Y:=Unit,post:=fun x y=>True,res:=fun x y=> .bool (x.all EY),outs:=fun x y=>[.top,.top],keep:=false}
theorem a1S:Am G Tryz.prog 101 Jy:=
 vcFun_okP [(104,0,KS)] [] false (fun x=>[(2,CB EY (.clo (.func 104) []) x)]) Tryz.func101 rfl (by decide) ⟨a1L,trivial⟩ (fun(x:List Int)=>(∀(y:Unit),True→True∧True∧True∧True)∧eA (CB EY (AV.clo (.func 104) []) x) [AW x,AV.clo (.func 104) [],AW x,.int .i64 (↑(List.length x):Int),.int .i64 (0:Int)]∧∀(i:Int),DI EY x i→Aa (decide (i<(↑(List.length x):Int))) (((0:Int)≤i∧i<(↑(List.length x):Int))∧∀(e:Int),x[Int.toNat i]? =some e→cA KS [.int .i64 e] fun x_1 y=>Aa (!EY x_1) (rA Jy x [.bool false,.top,.top]) (inR IntKind.i64 (i+(1:Int))∧eN (CB EY (AV.clo (.func 104) []) x) i [AW x,AV.clo (.func 104) [],AW x,.int .i64 (↑(List.length x):Int),.int .i64 (i+(1:Int))])) (rA Jy x [.bool true,.top,.top])) (fun x=>by kernel_rfl) fun(x:List Int) (hx:x.length<2^62)=>(by
 dsimp only[cA,eA,eN,AW,CB,rA,Jy,KS,Az,AC,mvL,lnL,mvE,lnE,Bt]
 have hx:x.length<2^62:=hx
 (repeat' first|(with_reducible first|rfl|exact True.intro|apply AN|apply And.intro|((first|apply AD|apply AL|apply AE|apply AM)<;>intro _))|(apply AA<;>intro _)|apply AK|refine Ae () ?_ ?_|((first|apply AR|apply AQ|apply AP|apply AO|apply AJ|apply AI|apply AH|apply AG|apply AF)<;>try dsimp only)|apply Ae|(refine Prod.forall.2 ?_;intro _;try dsimp only)|(intro _;try dsimp only))
 all_goals first|exact Js|(rename_i i hi hl e he y _ hp;exact(Jp he hp).symm)|(rename_i i hi hl e he y _ hp;exact Jt hi he hp)|(rename_i i hi hl;exact Ju hi hl)|(obtain⟨_,_,_⟩:= ‹DI _ _ _›;(try simp only[AU] at*);omega)|skip)
def Jz:Sig:= {X:=List Int,args:=fun x=>[AW x,.clo (.func 106) []],pre:=fun x=>x.length<2^62,Y:=Unit,post:=fun x y=>True,res:=fun x y=> .bool (x.all Eg),outs:=fun x y=>[.top,.top],keep:=false}
theorem a1T:Am G Tryz.prog 101 Jz:=
 vcFun_okP [(106,0,Jq)] [] false (fun x=>[(2,CB Eg (.clo (.func 106) []) x)]) Tryz.func101 rfl (by decide) ⟨a1M,trivial⟩ (fun(x:List Int)=>(∀(y:Unit),True→True∧True∧True∧True)∧eA (CB Eg (AV.clo (.func 106) []) x) [AW x,AV.clo (.func 106) [],AW x,.int .i64 (↑(List.length x):Int),.int .i64 (0:Int)]∧∀(i:Int),DI Eg x i→Aa (decide (i<(↑(List.length x):Int))) (((0:Int)≤i∧i<(↑(List.length x):Int))∧∀(e:Int),x[Int.toNat i]? =some e→cA Jq [.int .i64 e] fun x_1 y=>Aa (!Eg x_1) (rA Jz x [.bool false,.top,.top]) (inR IntKind.i64 (i+(1:Int))∧eN (CB Eg (AV.clo (.func 106) []) x) i [AW x,AV.clo (.func 106) [],AW x,.int .i64 (↑(List.length x):Int),.int .i64 (i+(1:Int))])) (rA Jz x [.bool true,.top,.top])) (fun x=>by kernel_rfl) fun(x:List Int) (hx:x.length<2^62)=>(by
 dsimp only[cA,eA,eN,AW,CB,rA,Jz,Jq,Az,AC,mvL,lnL,mvE,lnE,Bt]
 have hx:x.length<2^62:=hx
 (repeat' first|(with_reducible first|rfl|exact True.intro|apply AN|apply And.intro|((first|apply AD|apply AL|apply AE|apply AM)<;>intro _))|(apply AA<;>intro _)|apply AK|refine Ae () ?_ ?_|((first|apply AR|apply AQ|apply AP|apply AO|apply AJ|apply AI|apply AH|apply AG|apply AF)<;>try dsimp only)|apply Ae|(refine Prod.forall.2 ?_;intro _;try dsimp only)|(intro _;try dsimp only))
 all_goals first|exact Js|(rename_i i hi hl e he y _ hp;exact(Jp he hp).symm)|(rename_i i hi hl e he y _ hp;exact Jt hi he hp)|(rename_i i hi hl;exact Ju hi hl)|(obtain⟨_,_,_⟩:= ‹DI _ _ _›;(try simp only[AU] at*);omega)|skip)
def JA:Sig:= {X:=List Int,args:=fun x=>[AW x,.clo (.func 107) []],pre:=fun x=>x.length<2^62,Y:=Unit,post:=fun x y=>True,res:=fun x y=> .bool (x.all Ga),outs:=fun x y=>[.top,.top],keep:=false}
theorem a1U:Am G Tryz.prog 101 JA:=
 vcFun_okP [(107,0,Jr)] [] false (fun x=>[(2,CB Ga (.clo (.func 107) []) x)]) Tryz.func101 rfl (by decide) ⟨a1N,trivial⟩ (fun(x:List Int)=>(∀(y:Unit),True→True∧True∧True∧True)∧eA (CB Ga (AV.clo (.func 107) []) x) [AW x,AV.clo (.func 107) [],AW x,.int .i64 (↑(List.length x):Int),.int .i64 (0:Int)]∧∀(i:Int),DI Ga x i→Aa (decide (i<(↑(List.length x):Int))) (((0:Int)≤i∧i<(↑(List.length x):Int))∧∀(e:Int),x[Int.toNat i]? =some e→cA Jr [.int .i64 e] fun x_1 y=>Aa (!Ga x_1) (rA JA x [.bool false,.top,.top]) (inR IntKind.i64 (i+(1:Int))∧eN (CB Ga (AV.clo (.func 107) []) x) i [AW x,AV.clo (.func 107) [],AW x,.int .i64 (↑(List.length x):Int),.int .i64 (i+(1:Int))])) (rA JA x [.bool true,.top,.top])) (fun x=>by kernel_rfl) fun(x:List Int) (hx:x.length<2^62)=>(by
 dsimp only[cA,eA,eN,AW,CB,rA,JA,Jr,Az,AC,mvL,lnL,mvE,lnE,Bt]
 have hx:x.length<2^62:=hx
 (repeat' first|(with_reducible first|rfl|exact True.intro|apply AN|apply And.intro|((first|apply AD|apply AL|apply AE|apply AM)<;>intro _))|(apply AA<;>intro _)|apply AK|refine Ae () ?_ ?_|((first|apply AR|apply AQ|apply AP|apply AO|apply AJ|apply AI|apply AH|apply AG|apply AF)<;>try dsimp only)|apply Ae|(refine Prod.forall.2 ?_;intro _;try dsimp only)|(intro _;try dsimp only))
 all_goals first|exact Js|(rename_i i hi hl e he y _ hp;exact(Jp he hp).symm)|(rename_i i hi hl e he y _ hp;exact Jt hi he hp)|(rename_i i hi hl;exact Ju hi hl)|(obtain⟨_,_,_⟩:= ‹DI _ _ _›;(try simp only[AU] at*);omega)|skip)
def He:Sig:= {X:=List Int,args:=fun x=>[AW x,.clo (.func 132) []],pre:=fun x=>x.length<2^62,Y:=Unit,post:=fun x y=>True,res:=fun x y=> .bool (x.all DV),outs:=fun x y=>[.top,.top],keep:=false}
theorem Vm:Am G Tryz.prog 101 He:=
 vcFun_okP [(132,0,KT)] [] false (fun x=>[(2,CB DV (.clo (.func 132) []) x)]) Tryz.func101 rfl (by decide) ⟨a1O,trivial⟩ (fun(x:List Int)=>(∀(y:Unit),True→True∧True∧True∧True)∧eA (CB DV (AV.clo (.func 132) []) x) [AW x,AV.clo (.func 132) [],AW x,.int .i64 (↑(List.length x):Int),.int .i64 (0:Int)]∧∀(i:Int),DI DV x i→Aa (decide (i<(↑(List.length x):Int))) (((0:Int)≤i∧i<(↑(List.length x):Int))∧∀(e:Int),x[Int.toNat i]? =some e→cA KT [.int .i64 e] fun x_1 y=>Aa (!DV x_1) (rA He x [.bool false,.top,.top]) (inR IntKind.i64 (i+(1:Int))∧eN (CB DV (AV.clo (.func 132) []) x) i [AW x,AV.clo (.func 132) [],AW x,.int .i64 (↑(List.length x):Int),.int .i64 (i+(1:Int))])) (rA He x [.bool true,.top,.top])) (fun x=>by kernel_rfl) fun(x:List Int) (hx:x.length<2^62)=>(by
 dsimp only[cA,eA,eN,AW,CB,rA,He,KT,Az,AC,mvL,lnL,mvE,lnE,Bt]
 have hx:x.length<2^62:=hx
 (repeat' first|(with_reducible first|rfl|exact True.intro|apply AN|apply And.intro|((first|apply AD|apply AL|apply AE|apply AM)<;>intro _))|(apply AA<;>intro _)|apply AK|refine Ae () ?_ ?_|((first|apply AR|apply AQ|apply AP|apply AO|apply AJ|apply AI|apply AH|apply AG|apply AF)<;>try dsimp only)|apply Ae|(refine Prod.forall.2 ?_;intro _;try dsimp only)|(intro _;try dsimp only))
 all_goals first|exact Js|(rename_i i hi hl e he y _ hp;exact(Jp he hp).symm)|(rename_i i hi hl e he y _ hp;exact Jt hi he hp)|(rename_i i hi hl;exact Ju hi hl)|(obtain⟨_,_,_⟩:= ‹DI _ _ _›;(try simp only[AU] at*);omega)|skip)
theorem Vn{p:Int→Bool}{x:List Int}(h:¬(0:Int)<x.length):false=Gz p x:=by
 obtain rfl:x=[]:=List.length_eq_zero_iff.1 (by omega)
 rfl
theorem Vo{p:Int→Bool}{x:List Int}{e:Int}(he:x[(x.length-1:Int).toNat]? =some e):Gz p x=(p e&&(x.take (x.length-1:Int).toNat).all DV):=by
 have e1:(x.length-1:Int).toNat=x.length-1:=by omega
 rw[e1] at he ⊢
 unfold Gz
 rw[List.getLast?_eq_getElem?,he,List.dropLast_eq_take]
def Ir:Sig:= {X:=List Int,args:=fun x=>[AW x,.clo (.func 102) []],pre:=fun x=>x.length<2^62,Y:=Unit,post:=fun x y=>True,res:=fun x y=> .bool (Gz BA x),outs:=fun x y=>[.top,.top],keep:=false}
theorem a1V:Am G Tryz.prog 103 Ir:=
 vcFun_okP [(102,0,Fc),(101,132+1,He)] [] false (fun x=>[]) Tryz.func103 rfl (by decide) ⟨RF,Vm,trivial⟩ (fun(x:List Int)=>(∀(y:Unit),True→True∧True∧True∧True)∧Aa (decide ((↑(List.length x):Int)>(0:Int))) (inR IntKind.i64 ((↑(List.length x):Int)-(1:Int))∧((0:Int)≤(↑(List.length x):Int)-(1:Int)∧(↑(List.length x):Int)-(1:Int)<(↑(List.length x):Int))∧∀(e:Int),x[Int.toNat ((↑(List.length x):Int)-(1:Int))]? =some e→cA Fc [.int .i64 e] fun x_1 y=>Aa (BA x_1) (inR IntKind.i64 ((↑(List.length x):Int)-(1:Int))∧((0:Int)≤(0:Int)∧(0:Int)≤(↑(List.length x):Int)-(1:Int)∧(↑(List.length x):Int)-(1:Int)≤(↑(List.length x):Int))∧cA He [AW (List.take (Int.toNat ((↑(List.length x):Int)-(1:Int))) x),AV.clo (Fn.func (161:Nat)) []] fun x_2 y=>rA Ir x [.bool (List.all x_2 DV),.top,.top]) (rA Ir x [.bool false,.top,.top])) (rA Ir x [.bool false,.top,.top])) (fun x=>by kernel_rfl) fun(x:List Int) (hx:x.length<2^62)=>(by
 dsimp only[cA,AW,rA,He,Fc,Ir,Az,AC,mvL,lnL,mvE,lnE]
 have hx:x.length<2^62:=hx
 (repeat' first|(with_reducible first|rfl|exact True.intro|apply AN|apply And.intro|((first|apply AD|apply AL|apply AE|apply AM)<;>intro _))|(apply AA<;>intro _)|apply AK|refine Ae () ?_ ?_|((first|apply AR|apply AQ|apply AP|apply AO|apply AJ|apply AI|apply AH|apply AG|apply AF)<;>try dsimp only)|apply Ae|(refine Prod.forall.2 ?_;intro _;try dsimp only)|(intro _;try dsimp only))<;>(try dsimp only at*)<;>(try simp only[AU,List.length_cons,List.length_nil])<;>(try omega)
 all_goals first|exact Vn (by omega)|(rw[Vo ‹_›];simp [*];done)|(rw[List.length_take];omega)|skip)
def It:Sig:= {X:=List Int,args:=fun x=>[AW x,.clo (.func 105) []],pre:=fun x=>x.length<2^62,Y:=Unit,post:=fun x y=>True,res:=fun x y=> .bool (Gz Dw x),outs:=fun x y=>[.top,.top],keep:=false}
theorem a1W:Am G Tryz.prog 103 It:=
 vcFun_okP [(105,0,Gg),(101,132+1,He)] [] false (fun x=>[]) Tryz.func103 rfl (by decide) ⟨RG,Vm,trivial⟩ (fun(x:List Int)=>(∀(y:Unit),True→True∧True∧True∧True)∧Aa (decide ((↑(List.length x):Int)>(0:Int))) (inR IntKind.i64 ((↑(List.length x):Int)-(1:Int))∧((0:Int)≤(↑(List.length x):Int)-(1:Int)∧(↑(List.length x):Int)-(1:Int)<(↑(List.length x):Int))∧∀(e:Int),x[Int.toNat ((↑(List.length x):Int)-(1:Int))]? =some e→cA Gg [.int .i64 e] fun x_1 y=>Aa (Dw x_1) (inR IntKind.i64 ((↑(List.length x):Int)-(1:Int))∧((0:Int)≤(0:Int)∧(0:Int)≤(↑(List.length x):Int)-(1:Int)∧(↑(List.length x):Int)-(1:Int)≤(↑(List.length x):Int))∧cA He [AW (List.take (Int.toNat ((↑(List.length x):Int)-(1:Int))) x),AV.clo (Fn.func (161:Nat)) []] fun x_2 y=>rA It x [.bool (List.all x_2 DV),.top,.top]) (rA It x [.bool false,.top,.top])) (rA It x [.bool false,.top,.top])) (fun x=>by kernel_rfl) fun(x:List Int) (hx:x.length<2^62)=>(by
 dsimp only[cA,AW,rA,He,Gg,It,Az,AC,mvL,lnL,mvE,lnE]
 have hx:x.length<2^62:=hx
 (repeat' first|(with_reducible first|rfl|exact True.intro|apply AN|apply And.intro|((first|apply AD|apply AL|apply AE|apply AM)<;>intro _))|(apply AA<;>intro _)|apply AK|refine Ae () ?_ ?_|((first|apply AR|apply AQ|apply AP|apply AO|apply AJ|apply AI|apply AH|apply AG|apply AF)<;>try dsimp only)|apply Ae|(refine Prod.forall.2 ?_;intro _;try dsimp only)|(intro _;try dsimp only))<;>(try dsimp only at*)<;>(try simp only[AU,List.length_cons,List.length_nil])<;>(try omega)
 all_goals first|exact Vn (by omega)|(rw[Vo ‹_›];simp [*];done)|(rw[List.length_take];omega)|skip)
def BK:Sig:= {X:=Int×List Int,args:=fun x=>[.int .i64 x.1,AW x.2],pre:=fun x=>x.2.length<2^62,Y:=Unit,post:=fun x y=>True,res:=fun x y=> .bool (DG x.1 x.2),outs:=fun x y=>[.top,.top],keep:=false}
theorem a1X:Am G Tryz.prog 62 BK:=
 vcFun_okP [(102,0,Fc),(105,0,Gg),(57,0,Er),(101,102+1,Jv),(101,105+1,Jw),(101,61+1,Jx),(101,104+1,Jy),(101,106+1,Jz),(101,107+1,JA),(103,102+1,Ir),(103,105+1,It)] [] false (fun x=>[]) Tryz.func62 rfl (by decide) ⟨RF,RG,NK,a1P,a1Q,a1R,a1S,a1T,a1U,a1V,a1W,trivial⟩ (fun(x:Int×List Int)=>(∀(y:Unit),True→True∧True∧True∧True)∧cA Jv [AW x.2,AV.clo (Fn.func (126:Nat)) []] fun x_1 y=>Aa (x.1==(1:Int)) (rA BK x [.bool ((↑(List.length x.2):Int)==(0:Int)),.top,.top]) (Aa (x.1==(2:Int)) (rA BK x [.bool ((↑(List.length x.2):Int)==(0:Int)),.top,.top]) (Aa (x.1==(3:Int)) (rA BK x [.bool ((↑(List.length x.2):Int)==(0:Int)),.top,.top]) (Aa (x.1==(19:Int)) (rA BK x [.bool ((↑(List.length x.2):Int)==(0:Int)),.top,.top]) (Aa (x.1==(4:Int)) (rA BK x [.bool (List.all x_1 BA),.top,.top]) (Aa (x.1==(5:Int)) (Aa (decide ((↑(List.length x.2):Int)≥(1:Int))) (rA BK x [.bool (List.all x_1 BA),.top,.top]) (rA BK x [.bool false,.top,.top])) (Aa (x.1==(7:Int)) (Aa (decide ((↑(List.length x.2):Int)≥(2:Int))) (rA BK x [.bool (List.all x_1 BA),.top,.top]) (rA BK x [.bool false,.top,.top])) (Aa (x.1==(8:Int)) (Aa ((↑(List.length x.2):Int)==(3:Int)) (rA BK x [.bool (List.all x_1 BA),.top,.top]) (rA BK x [.bool false,.top,.top])) (Aa (x.1==(6:Int)) (Aa ((↑(List.length x.2):Int)==(1:Int)) (rA BK x [.bool (List.all x_1 BA),.top,.top]) (rA BK x [.bool false,.top,.top])) (Aa (x.1==(11:Int)) (Aa ((↑(List.length x.2):Int)==(1:Int)) (rA BK x [.bool (List.all x_1 BA),.top,.top]) (rA BK x [.bool false,.top,.top])) (Aa (x.1==(13:Int)) (Aa ((↑(List.length x.2):Int)==(1:Int)) (rA BK x [.bool (List.all x_1 BA),.top,.top]) (rA BK x [.bool false,.top,.top])) (Aa (x.1==(14:Int)) (Aa ((↑(List.length x.2):Int)==(1:Int)) (rA BK x [.bool (List.all x_1 BA),.top,.top]) (rA BK x [.bool false,.top,.top])) (Aa (x.1==(12:Int)) (Aa (decide ((↑(List.length x.2):Int)≤(1:Int))) (rA BK x [.bool (List.all x_1 BA),.top,.top]) (rA BK x [.bool false,.top,.top])) (Aa (x.1==(15:Int)) (Aa (decide ((↑(List.length x.2):Int)≤(1:Int))) (rA BK x [.bool (List.all x_1 BA),.top,.top]) (rA BK x [.bool false,.top,.top])) (Aa (x.1==(9:Int)) (cA Ir [AW x.2,AV.clo (Fn.func (126:Nat)) []] fun x_2 y=>rA BK x [.bool (Gz BA x_2),.top,.top]) (Aa (x.1==(10:Int)) (Aa (decide ((↑(List.length x.2):Int)≥(2:Int))) (((0:Int)≤(0:Int)∧(0:Int)<(↑(List.length x.2):Int))∧∀(e:Int),x.2[(0:Nat)]? =some e→cA Fc [.int .i64 e] fun x_2 y=>Aa (BA x_2) (((0:Int)≤(1:Int)∧(1:Int)≤(↑(List.length x.2):Int)∧(↑(List.length x.2):Int)≤(↑(List.length x.2):Int))∧cA Jy [AW (List.drop (1:Nat) x.2),AV.clo (Fn.func (128:Nat)) []] fun x_3 y=>rA BK x [.bool (List.all x_3 EY),.top,.top]) (rA BK x [.bool false,.top,.top])) (rA BK x [.bool false,.top,.top])) (Aa (x.1==(16:Int)) (cA Er [.int .i64 (↑(List.length x.2):Int),.int .i64 (2:Int),.int .i64 (3:Int)] fun x_2 y=>Aa (inn x_2.1 x_2.2.1 x_2.2.2) (((0:Int)≤(0:Int)∧(0:Int)<(↑(List.length x.2):Int))∧∀(e:Int),x.2[(0:Nat)]? =some e→cA Fc [.int .i64 e] fun x_3 y=>Aa (BA x_3) (((0:Int)≤(1:Int)∧(1:Int)≤(↑(List.length x.2):Int)∧(↑(List.length x.2):Int)≤(↑(List.length x.2):Int))∧cA Jw [AW (List.drop (1:Nat) x.2),AV.clo (Fn.func (129:Nat)) []] fun x_4 y=>rA BK x [.bool (List.all x_4 Dw),.top,.top]) (rA BK x [.bool false,.top,.top])) (rA BK x [.bool false,.top,.top])) (Aa (x.1==(17:Int)) (Aa ((↑(List.length x.2):Int)==(2:Int)) (((0:Int)≤(0:Int)∧(0:Int)<(↑(List.length x.2):Int))∧∀(e:Int),x.2[(0:Nat)]? =some e→cA Fc [.int .i64 e] fun x_2 y=>Aa (BA x_2) (((0:Int)≤(1:Int)∧(1:Int)<(↑(List.length x.2):Int))∧∀(e:Int),x.2[(1:Nat)]? =some e→cA Gg [.int .i64 e] fun x_3 y=>rA BK x [.bool (Dw x_3),.top,.top]) (rA BK x [.bool false,.top,.top])) (rA BK x [.bool false,.top,.top])) (Aa (x.1==(18:Int)) (cA Jz [AW x.2,AV.clo (Fn.func (130:Nat)) []] fun x_2 y=>rA BK x [.bool (List.all x_2 Eg),.top,.top]) (Aa (x.1==(20:Int)) (cA It [AW x.2,AV.clo (Fn.func (129:Nat)) []] fun x_2 y=>rA BK x [.bool (Gz Dw x_2),.top,.top]) (Aa (x.1==(21:Int)) (cA Jx [AW x.2,AV.clo (Fn.func (99:Nat)) []] fun x_2 y=>rA BK x [.bool (List.all x_2 Ef),.top,.top]) (Aa (x.1==(22:Int)) (cA JA [AW x.2,AV.clo (Fn.func (131:Nat)) []] fun x_2 y=>rA BK x [.bool (List.all x_2 Ga),.top,.top]) (rA BK x [.bool false,.top,.top]))))))))))))))))))))))) (fun x=>by kernel_rfl) fun(x:Int×List Int) (hx:x.2.length<2^62)=>(by
 dsimp only[cA,AW,rA,Jw,Jy,Jx,Jz,JA,Jv,Er,Gg,Fc,BK,It,Ir,Az,AC,mvL,lnL,mvE,lnE]
 have hx:x.2.length<2^62:=hx
 obtain⟨k,l⟩:=x
 (repeat' first|(with_reducible first|rfl|exact True.intro|apply AN|apply And.intro|((first|apply AD|apply AL|apply AE|apply AM)<;>intro _))|(apply AA<;>intro _)|apply AK|refine Ae () ?_ ?_|((first|apply AR|apply AQ|apply AP|apply AO|apply AJ|apply AI|apply AH|apply AG|apply AF)<;>try dsimp only)|apply Ae|(refine Prod.forall.2 ?_;intro _;try dsimp only)|(intro _;try dsimp only))<;>(try dsimp only at*)<;>(try simp only[AU,List.length_cons,List.length_nil])<;>(try omega)
 all_goals try(simp only[List.length_drop];omega)
 all_goals try(simp [DG,Fb, *]<;>omega)
 all_goals(match l with
  |[]=>simp_all [DG,inn]<;>omega
  |[a]=>simp_all [DG,inn]<;>omega
  |[a,b]=>simp_all [DG,inn]<;>omega
  |[a,b,c]=>simp_all [DG,inn]<;>omega
  |a::b::c::d::m=>simp_all [DG,inn]<;>omega))
def FA:Sig:= {X:=List Nd×Int,args:=fun x=>[nds x.1,.int .i64 x.2],pre:=fun x=>x.1.length<2^62,Y:=Unit,post:=fun x y=>True,res:=fun x y=> .bool (Bz x.1 x.2),outs:=fun x y=>[.top,.top],keep:=false}
theorem RI:Am G Tryz.prog 52 FA:=
 vcFun_okP [] [] false (fun x=>[]) Tryz.func52 rfl (by decide) trivial (fun(x:List Nd×Int)=>(∀(y:Unit),True→True∧True∧True∧True)∧Aa (decide (x.2≥(0:Int))) (rA FA x [.bool (decide (x.2<(↑(List.length x.1):Int))),.top,.top]) (rA FA x [.bool false,.top,.top])) (fun x=>by kernel_rfl) fun(x:List Nd×Int) (hx:x.1.length<2^62)=>(by
 dsimp only[Bx,nds,rA,FA,Az,AC]
 have hx:x.1.length<2^62:=hx
 (repeat' first|(with_reducible first|rfl|exact True.intro|apply AN|apply And.intro|((first|apply AD|apply AL|apply AE|apply AM)<;>intro _))|(apply AA<;>intro _)|apply AK|refine Ae () ?_ ?_|((first|apply AR|apply AQ|apply AP|apply AO|apply AJ|apply AI|apply AH|apply AG|apply AF)<;>try dsimp only)|apply Ae|(refine Prod.forall.2 ?_;intro _;try dsimp only)|(intro _;try dsimp only))<;>(try dsimp only at*)<;>(try simp only[AU,List.length_cons,List.length_nil])<;>(try omega)
 all_goals simp [Bz, *])
end Go.My
end
