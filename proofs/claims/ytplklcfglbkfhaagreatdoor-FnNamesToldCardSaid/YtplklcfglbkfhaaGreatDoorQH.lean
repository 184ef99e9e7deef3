/- A part of the proof: the engine and the contracts, joined. -/
import Derived.Test.YtplklcfglbkfhaaGreatDoorQG
import Derived.Shelf.Sort.Plain
import Derived.Shelf.Slices.In.SortNone
import Derived.Test.YtplklcfglbkfhaaGreatDoorProg
import Derived.ProofKit
import Derived.Lib.ItoaNum
section
set_option linter.unusedVariables false
set_option linter.unusedSimpArgs false
namespace Go.My
open Go.Eng Go.Proofs
variable {G:GInv}
def ltI(x:List Nd×Int)(m:List Bool)(i:Int)(o:List (List UInt8)):Prop:=(((0≤i∧i≤(Ah x.1 x.2).length)∧x.1.length≤2^30)∧MK x.1.length (fun j=>CK x.1 (Ah x.1 x.2) j=true) m)∧o=fdl (ltF x.1 (Ah x.1 x.2)) [] (Ah x.1 x.2) i
theorem a0f{x:List Nd×Int}{m:List Bool}(hm:MK x.1.length (fun j=>CK x.1 (Ah x.1 x.2) j=true) m)(h:x.1.length≤2^30):ltI x m 0 []:=⟨⟨⟨by omega,h⟩,hm⟩,QU.symm⟩
theorem a0g{x:List Nd×Int}{m:List Bool}{i:Int}{o:List (List UInt8)}(h:ltI x m i o):((0≤i∧i≤(Ah x.1 x.2).length)∧((Ah x.1 x.2).length≤2^30∧m.length=x.1.length))∧o.length≤2^30:=by
 have h1:= @Hz x.1 x.2;have h2:=h.1.1.2
 refine⟨⟨h.1.1.1,by omega,h.1.2.1⟩,?_⟩
 rw[h.2];have:=UK (Zz x.1 (Ah x.1 x.2)) (l:=Ah x.1 x.2) (i:=i);omega
theorem a0h{x:List Nd×Int}{m:List Bool}{i c:Int}{o:List (List UInt8)}{b:Bool}(h:ltI x m i o)(h0:0≤c)(hb:m[c.toNat]? =some b):b=true↔CK x.1 (Ah x.1 x.2) c=true:=OB h.1.2 h0 hb
theorem a0i{x:List Nd×Int}{m:List Bool}{i c:Int}{e:Nd}{o:List (List UInt8)}(h:ltI x m i o)(hc:(Ah x.1 x.2)[i.toNat]? =some c)(he:x.1[c.toNat]? =some e)(hk:e.kind=12):ltI x m (i+1) (CY o e.text):=by
 have hl:=(List.getElem?_eq_some_iff.1 hc).1
 obtain⟨⟨⟨h1,h2⟩,h3⟩,h4⟩:=h
 exact⟨⟨⟨by omega,h2⟩,h3⟩,by rw[Il h1.1 hc,←h4,ltF,Bd,Bg he,if_pos (.inl hk)]⟩
theorem a0j{x:List Nd×Int}{m:List Bool}{i c:Int}{e:Nd}{b:Bool}{o:List (List UInt8)}(h:ltI x m i o)(hc:(Ah x.1 x.2)[i.toNat]? =some c)(he:x.1[c.toNat]? =some e)(hb:m[c.toNat]? =some b)(ht:b=true):ltI x m (i+1) (CY o e.text):=by
 have hp:=(a0h h (JL (List.mem_of_getElem? hc)).1.1 hb).1 ht
 have hl:=(List.getElem?_eq_some_iff.1 hc).1
 obtain⟨⟨⟨h1,h2⟩,h3⟩,h4⟩:=h
 exact⟨⟨⟨by omega,h2⟩,h3⟩,by rw[Il h1.1 hc,←h4,ltF,Bd,Bg he,if_pos (.inr hp)]⟩
theorem a0k{x:List Nd×Int}{m:List Bool}{i c:Int}{e:Nd}{b:Bool}{o:List (List UInt8)}(h:ltI x m i o)(hc:(Ah x.1 x.2)[i.toNat]? =some c)(he:x.1[c.toNat]? =some e)(hk:¬e.kind=12)(hb:m[c.toNat]? =some b)(hf:b=false):ltI x m (i+1) o:=by
 have hp:¬CK x.1 (Ah x.1 x.2) c=true:=fun hh=>by have:=(a0h h (JL (List.mem_of_getElem? hc)).1.1 hb).2 hh;rw[hf] at this;cases this
 have hl:=(List.getElem?_eq_some_iff.1 hc).1
 obtain⟨⟨⟨h1,h2⟩,h3⟩,h4⟩:=h
 exact⟨⟨⟨by omega,h2⟩,h3⟩,by rw[Il h1.1 hc,←h4,ltF,Bd,Bg he,if_neg (fun hh=>hh.elim hk hp)]⟩
theorem a0l{x:List Nd×Int}{m:List Bool}{i:Int}{o:List (List UInt8)}(h:ltI x m i o)(hl:¬i<((Ah x.1 x.2).length:Int)):o=Bh x.1 x.2:=by rw[h.2,QV hl];rfl
def fiI(p:List UInt8→Bool)(l:List (List UInt8))(i:Int)(o:List (List UInt8)):Prop:=((0≤i∧i≤l.length)∧l.length≤2^30)∧o=(l.take i.toNat).filter p
theorem Rd{p:List UInt8→Bool}{l:List (List UInt8)}(h:l.length≤2^30):fiI p l 0 []:=⟨⟨by omega,h⟩,by simp⟩
theorem OP{p:List UInt8→Bool}{l:List (List UInt8)}{i:Int}{o:List (List UInt8)}(h:fiI p l i o):((0≤i∧i≤l.length)∧l.length≤2^30)∧o.length≤2^30:=by
 refine⟨h.1,?_⟩
 rw[h.2];have:=List.length_filter_le p (l.take i.toNat);have h1:=h.1.2;rw[List.length_take] at this;omega
theorem Re{p:List UInt8→Bool}{l:List (List UInt8)}{i:Int}{e:List UInt8}{o:List (List UInt8)}(h:fiI p l i o)(he:l[i.toNat]? =some e)(hp:p e=true):fiI p l (i+1) (o++[e]):=by
 have hl:=(List.getElem?_eq_some_iff.1 he).1
 obtain⟨⟨h1,h2⟩,h3⟩:=h
 exact⟨⟨by omega,h2⟩,by rw[show(i+1).toNat=i.toNat+1 by omega,List.take_add_one,he,h3];simp [hp]⟩
theorem Rf{p:List UInt8→Bool}{l:List (List UInt8)}{i:Int}{e:List UInt8}{o:List (List UInt8)}(h:fiI p l i o)(he:l[i.toNat]? =some e)(hp:p e=false):fiI p l (i+1) o:=by
 have hl:=(List.getElem?_eq_some_iff.1 he).1
 obtain⟨⟨h1,h2⟩,h3⟩:=h
 exact⟨⟨by omega,h2⟩,by rw[show(i+1).toNat=i.toNat+1 by omega,List.take_add_one,he,h3];simp [hp]⟩
theorem a0m{p:List UInt8→Bool}{l:List (List UInt8)}{i:Int}{o:List (List UInt8)}(h:fiI p l i o)(hl:¬i<(l.length:Int)):o=l.filter p:=by rw[h.2,List.take_of_length_le (by omega)]
noncomputable def frP (x:List Nd×Int) (s:List UInt8):Bool:= !(Bh x.1 x.2).elem s
theorem a0n{x:List Nd×Int}{s:List UInt8}(h:(Bh x.1 x.2).elem s=false):frP x s=true:=by rw[frP,h];rfl
theorem a0o{x:List Nd×Int}{s:List UInt8}(h:(Bh x.1 x.2).elem s=true):frP x s=false:=by rw[frP,h];rfl
noncomputable def unP (x:List Nd×Int) (s:List UInt8):Bool:= !(DT x.1 x.2).elem s
theorem a0p{x:List Nd×Int}{s:List UInt8}(h:(DT x.1 x.2).elem s=false):unP x s=true:=by rw[unP,h];rfl
theorem a0q{x:List Nd×Int}{s:List UInt8}(h:(DT x.1 x.2).elem s=true):unP x s=false:=by rw[unP,h];rfl
theorem a0r{x:List Nd×Int}{i:Int}{o:List (List UInt8)}(h:fiI (frP x) (Bz x.1 x.2) i o)(hl:¬i<((Bz x.1 x.2).length:Int)):o=FL x.1 x.2:=a0m h hl
theorem a0s{x:List Nd×Int}{i:Int}{o:List (List UInt8)}(h:fiI (unP x) (Bh x.1 x.2) i o)(hl:¬i<((Bh x.1 x.2).length:Int)):o=FM x.1 x.2:=a0m h hl
def cnI(x:List Nd×Int×List UInt8)(i n:Int):Prop:=((0≤i∧i≤(Ah x.1 x.2.1).length)∧x.1.length≤2^30)∧n=fdl (cnF x.1 x.2.2) 0 (Ah x.1 x.2.1) i
theorem a0t{x:List Nd×Int×List UInt8}(h:x.1.length≤2^30):cnI x 0 0:=⟨⟨by omega,h⟩,QU.symm⟩
theorem UO(ns:List Nd)(s:List UInt8):∀(l:List Int) (n:Int),n≤l.foldl (cnF ns s) n∧l.foldl (cnF ns s) n≤n+l.length
 |[],n=>by simp
 |e::l,n=>by
  rw[List.foldl_cons]
  have:=UO ns s l (cnF ns s n e)
  have h2:n≤cnF ns s n e∧cnF ns s n e≤n+1:=by unfold cnF;split<;>omega
  simp only[List.length_cons];omega
theorem a0u{x:List Nd×Int×List UInt8}{i n:Int}(h:cnI x i n):((0≤i∧i≤(Ah x.1 x.2.1).length)∧(Ah x.1 x.2.1).length≤2^30)∧0≤n∧n≤2^30:=by
 have h1:= @Hz x.1 x.2.1;have h2:=h.1.2
 refine⟨⟨h.1.1,by omega⟩,?_⟩
 have:=UO x.1 x.2.2 ((Ah x.1 x.2.1).take i.toNat) 0
 rw[h.2,fdl];rw[List.length_take] at this;omega
theorem a0v{x:List Nd×Int×List UInt8}{i n c:Int}{e:Nd}(h:cnI x i n)(hc:(Ah x.1 x.2.1)[i.toNat]? =some c)(he:x.1[c.toNat]? =some e)(hp:(Dg e.kind&&e.text==x.2.2)=true):cnI x (i+1) (n+1):=by
 have hl:=(List.getElem?_eq_some_iff.1 hc).1
 obtain⟨⟨h1,h2⟩,h3⟩:=h
 exact⟨⟨by omega,h2⟩,by rw[Il h1.1 hc,←h3,cnF,Bd,Bg he,if_pos hp]⟩
theorem a0w{x:List Nd×Int×List UInt8}{i n c:Int}{e:Nd}(h:cnI x i n)(hc:(Ah x.1 x.2.1)[i.toNat]? =some c)(he:x.1[c.toNat]? =some e)(hp:(Dg e.kind&&e.text==x.2.2)=false):cnI x (i+1) n:=by
 have hl:=(List.getElem?_eq_some_iff.1 hc).1
 obtain⟨⟨h1,h2⟩,h3⟩:=h
 exact⟨⟨by omega,h2⟩,by rw[Il h1.1 hc,←h3,cnF,Bd,Bg he,if_neg (by rw[hp];simp)]⟩
theorem a0x{x:List Nd×Int×List UInt8}{i n:Int}(h:cnI x i n)(hl:¬i<((Ah x.1 x.2.1).length:Int)):n=CL x.1 x.2.1 x.2.2:=by rw[h.2,QV hl];rfl
theorem CC{ns:List Nd}{k i c:Int}(hc:(Ah ns k)[i.toNat]? =some c):0≤c∧c<ns.length:=(JL (List.mem_of_getElem? hc)).1
def usI(x:List Nd×Int)(m:List Bool)(i:Int)(o:List (List UInt8)):Prop:=(((0≤i∧i≤(Ah x.1 x.2).length)∧x.1.length≤2^30)∧MK x.1.length (fun j=>CK x.1 (Ah x.1 x.2) j=true) m)∧o=fdl (usF x.1 (Ah x.1 x.2)) [] (Ah x.1 x.2) i
theorem a9i{x:List Nd×Int}{m:List Bool}(hm:MK x.1.length (fun j=>CK x.1 (Ah x.1 x.2) j=true) m)(h:x.1.length≤2^30):usI x m 0 []:=⟨⟨⟨by omega,h⟩,hm⟩,QU.symm⟩
theorem a9j{x:List Nd×Int}{m:List Bool}{i:Int}{o:List (List UInt8)}(h:usI x m i o):((0≤i∧i≤(Ah x.1 x.2).length)∧((Ah x.1 x.2).length≤2^30∧m.length=x.1.length))∧o.length≤2^30:=by
 have h1:= @Hz x.1 x.2;have h2:=h.1.1.2
 refine⟨⟨h.1.1.1,by omega,h.1.2.1⟩,?_⟩
 rw[h.2];have:=UK (ZA x.1 (Ah x.1 x.2)) (l:=Ah x.1 x.2) (i:=i);omega
theorem a0y{x:List Nd×Int}{m:List Bool}{i c:Int}{e:Nd}{b:Bool}{o:List (List UInt8)}(h:usI x m i o)(hc:(Ah x.1 x.2)[i.toNat]? =some c)(hb:m[c.toNat]? =some b):CK x.1 (Ah x.1 x.2) c=b:=by
 have:=OB h.1.2 (JL (List.mem_of_getElem? hc)).1.1 hb
 cases b
 ·rw[Bool.eq_false_iff];intro hh;have:=this.2 hh;cases this
 ·exact this.1 rfl
theorem a9k{x:List Nd×Int}{m:List Bool}{i c:Int}{e:Nd}{b:Bool}{o:List (List UInt8)}(h:usI x m i o)(hc:(Ah x.1 x.2)[i.toNat]? =some c)(he:x.1[c.toNat]? =some e)(hk:e.kind=1)(hb:m[c.toNat]? =some b)(hf:b=false):usI x m (i+1) (o++[e.text]):=by
 have hp:=a0y (e:=e) h hc hb
 have hl:=(List.getElem?_eq_some_iff.1 hc).1
 obtain⟨⟨⟨h1,h2⟩,h3⟩,h4⟩:=h
 subst hf
 exact⟨⟨⟨by omega,h2⟩,h3⟩,by rw[Il h1.1 hc,←h4,usF,Bd,Bg he,if_pos (by rw[hp,decide_eq_true hk];rfl)]⟩
theorem a9l{x:List Nd×Int}{m:List Bool}{i c:Int}{e:Nd}{o:List (List UInt8)}(h:usI x m i o)(hc:(Ah x.1 x.2)[i.toNat]? =some c)(he:x.1[c.toNat]? =some e)(hk:¬e.kind=1):usI x m (i+1) o:=by
 have hl:=(List.getElem?_eq_some_iff.1 hc).1
 obtain⟨⟨⟨h1,h2⟩,h3⟩,h4⟩:=h
 exact⟨⟨⟨by omega,h2⟩,h3⟩,by rw[Il h1.1 hc,←h4,usF,Bd,Bg he,if_neg (by rw[decide_eq_false hk];simp)]⟩
theorem a9m{x:List Nd×Int}{m:List Bool}{i c:Int}{e:Nd}{b:Bool}{o:List (List UInt8)}(h:usI x m i o)(hc:(Ah x.1 x.2)[i.toNat]? =some c)(he:x.1[c.toNat]? =some e)(hb:m[c.toNat]? =some b)(ht:b=true):usI x m (i+1) o:=by
 have hp:=a0y (e:=e) h hc hb
 have hl:=(List.getElem?_eq_some_iff.1 hc).1
 obtain⟨⟨⟨h1,h2⟩,h3⟩,h4⟩:=h
 subst ht
 exact⟨⟨⟨by omega,h2⟩,h3⟩,by rw[Il h1.1 hc,←h4,usF,Bd,Bg he,if_neg (by rw[hp];simp)]⟩
theorem a9n{x:List Nd×Int}{m:List Bool}{i:Int}{o:List (List UInt8)}(h:usI x m i o)(hl:¬i<((Ah x.1 x.2).length:Int)):o=DT x.1 x.2:=by rw[h.2,QV hl];rfl
theorem JM{ns:List Nd}{k:Int}(h:ns.length≤2^30):EZ ns (Ah ns k):=a8U h
theorem OQ{ns:List Nd}{k:Int}(h:ns.length≤2^30):(Bh ns k).length≤2^30:=Nat.le_trans UI h
theorem a0z{ns:List Nd}{k:Int}(h:ns.length≤2^30):(Bz ns k).length≤2^30:=Nat.le_trans UH h
theorem a9o{ns:List Nd}{k:Int}(h:ns.length≤2^30):(DT ns k).length≤2^30:=Nat.le_trans a8y h
def usP(ns:List Nd)(L:List Int)(s:List UInt8)(i:Int):Bool:=(decide (Bd ns i=1)&& !CK ns L i)&&(Ai ns i).text==s
theorem a0A(ns:List Nd)(L:List Int)(s:List UInt8):∀(l:List Int) (o:List (List UInt8)),(l.foldl (usF ns L) o).elem s=(o.elem s||l.any (usP ns L s))
 |[],o=>by simp
 |e::l,o=>by
  rw[List.foldl_cons,a0A ns L s l,List.any_cons,←Bool.or_assoc]
  congr 1
  rw[usF,usP]
  by_cases h:(decide (Bd ns e=1)&& !CK ns L e)=true
  ·rw[if_pos h,h,Bool.true_and,Bool.eq_iff_iff,Bool.or_eq_true,List.elem_iff,List.elem_iff,beq_iff_eq,List.mem_append,List.mem_singleton]
   exact or_congr Iff.rfl eq_comm
  ·rw[if_neg h,Bool.eq_false_iff.2 h,Bool.false_and,Bool.or_false]
theorem a0B{ns:List Nd}{k:Int}{s:List UInt8}:(DT ns k).elem s=(Ah ns k).any (usP ns (Ah ns k) s):=by rw[DT,a0A];simp
def ujI(x:List Nd×Int)(m:List Bool)(i j:Int)(o:List (List UInt8))(b:Bool):Prop:=(((0≤j∧j≤(Ah x.1 x.2).length)∧x.1.length≤2^30)∧MK x.1.length (fun j=>CK x.1 (Ah x.1 x.2) j=true) m)∧(fiI (unP x) (Bh x.1 x.2) i o∧i<(Bh x.1 x.2).length)∧b=((Ah x.1 x.2).take j.toNat).any (usP x.1 (Ah x.1 x.2) ((Bh x.1 x.2).getD i.toNat []))
theorem a9p{x:List Nd×Int}{m:List Bool}{i:Int}{o:List (List UInt8)}(hm:MK x.1.length (fun j=>CK x.1 (Ah x.1 x.2) j=true) m)(h2:x.1.length≤2^30)(h:fiI (unP x) (Bh x.1 x.2) i o)(hi:i<(Bh x.1 x.2).length):ujI x m i 0 o false:=⟨⟨⟨by omega,h2⟩,hm⟩,⟨h,hi⟩,by simp⟩
theorem a9q{x:List Nd×Int}{m:List Bool}{i j:Int}{o:List (List UInt8)}{b:Bool}(h:ujI x m i j o b):(((0≤j∧j≤(Ah x.1 x.2).length)∧((Ah x.1 x.2).length≤2^30∧m.length=x.1.length))∧(0≤i∧i<(Bh x.1 x.2).length)∧(Bh x.1 x.2).length≤2^30)∧o.length≤2^30:=by
 have h1:= @Hz x.1 x.2;have h2:=h.1.1.2;have h3:=OP h.2.1.1
 exact⟨⟨⟨h.1.1.1,by omega,h.1.2.1⟩,⟨h3.1.1.1,h.2.1.2⟩,h3.1.2⟩,h3.2⟩
theorem OT{x:List Nd×Int}{m:List Bool}{i j c:Int}{o:List (List UInt8)}{b b2:Bool}(h:ujI x m i j o b)(hc:(Ah x.1 x.2)[j.toNat]? =some c)(hb:b2=(b||usP x.1 (Ah x.1 x.2) ((Bh x.1 x.2).getD i.toNat []) c)):ujI x m i (j+1) o b2:=by
 have hl:=(List.getElem?_eq_some_iff.1 hc).1
 obtain⟨⟨⟨h1,h2⟩,h3⟩,h4,h5⟩:=h
 refine⟨⟨⟨by omega,h2⟩,h3⟩,h4,?_⟩
 rw[show(j+1).toNat=j.toNat+1 by omega,List.take_add_one,hc,hb,h5];simp
theorem a9r{x:List Nd×Int}{m:List Bool}{i j:Int}{o:List (List UInt8)}{b:Bool}(h:ujI x m i j o b)(hj:¬j<((Ah x.1 x.2).length:Int))(hb:b=true):fiI (unP x) (Bh x.1 x.2) (i+1) o:=by
 obtain⟨⟨⟨h1,h2⟩,h3⟩,⟨h4,h4b⟩,h5⟩:=h
 have hi:=h4.1.1
 have hlt:i.toNat<(Bh x.1 x.2).length:=by omega
 refine Rf h4 (List.getElem?_eq_getElem hlt) (a0q ?_)
 rw[a0B]
 rw[List.take_of_length_le (by omega),hb] at h5
 rw[List.getD,List.getElem?_eq_getElem hlt,Option.getD_some] at h5
 exact h5.symm
theorem a9s{x:List Nd×Int}{m:List Bool}{i j:Int}{o:List (List UInt8)}{b:Bool}{s:List UInt8}(h:ujI x m i j o b)(hj:¬j<((Ah x.1 x.2).length:Int))(hb:b=false)(hs:(Bh x.1 x.2)[i.toNat]? =some s):fiI (unP x) (Bh x.1 x.2) (i+1) (o++[s]):=by
 obtain⟨⟨⟨h1,h2⟩,h3⟩,⟨h4,h4b⟩,h5⟩:=h
 refine Re h4 hs (a0p ?_)
 rw[a0B]
 rw[List.take_of_length_le (by omega),hb,List.getD,hs,Option.getD_some] at h5
 exact h5.symm
theorem a9t{x:List Nd×Int}{m:List Bool}{i j c:Int}{o:List (List UInt8)}{b b1:Bool}{e:Nd}{s:List UInt8}(h:ujI x m i j o b)(hc:(Ah x.1 x.2)[j.toNat]? =some c)(he:x.1[c.toNat]? =some e)(hb:m[c.toNat]? =some b1)(hs:(Bh x.1 x.2)[i.toNat]? =some s):usP x.1 (Ah x.1 x.2) ((Bh x.1 x.2).getD i.toNat []) c=((decide (e.kind=1)&& !b1)&&e.text==s):=by
 have hp:CK x.1 (Ah x.1 x.2) c=b1:=by
  have:=OB h.1.2 (JL (List.mem_of_getElem? hc)).1.1 hb
  cases b1
  ·rw[Bool.eq_false_iff];intro hh;have:=this.2 hh;cases this
  ·exact this.1 rfl
 rw[usP,hp,Bd,Bg he,List.getD,hs,Option.getD_some]
theorem a9u{x:List Nd×Int}{m:List Bool}{i j:Int}{o:List (List UInt8)}{b:Bool}(h:ujI x m i j o b)(hj:j<((Ah x.1 x.2).length:Int))(hb:b=true):ujI x m i (j+1) o true:=by
 have hlt:j.toNat<(Ah x.1 x.2).length:=by have:=h.1.1.1;omega
 exact OT h (List.getElem?_eq_getElem hlt) (by rw[hb];rfl)
theorem a9v{x:List Nd×Int}{m:List Bool}{i j c:Int}{o:List (List UInt8)}{b b1:Bool}(h:ujI x m i j o b)(hf:b=false)(hc:(Ah x.1 x.2)[j.toNat]? =some c)(hb:m[c.toNat]? =some b1)(ht:b1=true)(hk:True∨True):ujI x m i (j+1) o false:=by
 have hp:CK x.1 (Ah x.1 x.2) c=true:=by
  have:=OB h.1.2 (JL (List.mem_of_getElem? hc)).1.1 hb
  exact this.1 ht
 refine OT h hc ?_
 rw[hf,usP,hp];simp
theorem a9w{x:List Nd×Int}{i c:Int}{e:Nd}(he:x.1[c.toNat]? =some e)(hk:¬e.kind=1):usP x.1 (Ah x.1 x.2) ((Bh x.1 x.2).getD i.toNat []) c=false:=by
 rw[usP,Bd,Bg he,decide_eq_false hk];rfl
attribute [local irreducible] Ah Bz Bh DT FL FM CY fdl ltI fiI cnI usI ujI MK EZ frP unP CL usP
noncomputable def IW:Sig:= {X:=Nd×List UInt8,args:=fun x=>[.agg (ndA false x.1),.str x.2],pre:=fun x=>True,Y:=Unit,post:=fun x y=>True,res:=fun x y=> .bool (Dg x.1.kind&&x.1.text==x.2),outs:=fun x y=>[.top,.top],keep:=false}
theorem a9x:Am G Tryz.prog 86 IW:=
 vcFun_okP [] [] false (fun x=>[]) Tryz.func86 rfl (by decide) trivial (fun(x:Nd×List UInt8)=>(∀(y:Unit),True→True∧True∧True∧True)∧Aa (x.1.kind==(1:Int)) (rA IW x [.bool (x.1.text==x.2),.top,.top]) (Aa (x.1.kind==(12:Int)) (rA IW x [.bool (x.1.text==x.2),.top,.top]) (Aa (x.1.kind==(13:Int)) (rA IW x [.bool (x.1.text==x.2),.top,.top]) (rA IW x [.bool false,.top,.top])))) (fun x=>by kernel_rfl) fun(x:Nd×List UInt8) (hx:True)=>(by
 dsimp only[Bn,rA,IW,Au,Ax]
 (repeat' first|(with_reducible first|rfl|exact True.intro|apply AJ|apply And.intro|((first|apply Az|apply AH|apply AA|apply AI)<;>intro _))|(apply Av<;>intro _)|apply AG|refine Af () ?_ ?_|((first|apply AO|apply AN|apply AM|apply AL|apply AF|apply AE|apply AD|apply AC|apply AB)<;>try dsimp only)|apply Af|(refine Prod.forall.2 ?_;intro _;try dsimp only)|(intro _;try dsimp only))
 all_goals(try(simp [Dg, *];done)))
noncomputable def HC:Sig:= {X:=Int×Unit,args:=fun x=>[.int .i64 x.1],pre:=fun x=>True,Y:=Unit,post:=fun x y=>True,res:=fun x y=> .bool (Dg x.1),outs:=fun x y=>[.top],keep:=false}
theorem a0C:Am G Tryz.prog 93 HC:=
 vcFun_okP [] [] false (fun x=>[]) Tryz.func93 rfl (by decide) trivial (fun(x:Int×Unit)=>(∀(y:Unit),True→True∧True∧True)∧Aa (x.1==(1:Int)) (rA HC x [.bool true,.top]) (Aa (x.1==(12:Int)) (rA HC x [.bool true,.top]) (rA HC x [.bool (x.1==(13:Int)),.top]))) (fun x=>by kernel_rfl) fun(x:Int×Unit) (hx:True)=>(by
 dsimp only[rA,HC,Au,Ax]
 (repeat' first|(with_reducible first|rfl|exact True.intro|apply AJ|apply And.intro|((first|apply Az|apply AH|apply AA|apply AI)<;>intro _))|(apply Av<;>intro _)|apply AG|refine Af () ?_ ?_|((first|apply AO|apply AN|apply AM|apply AL|apply AF|apply AE|apply AD|apply AC|apply AB)<;>try dsimp only)|apply Af|(refine Prod.forall.2 ?_;intro _;try dsimp only)|(intro _;try dsimp only))
 all_goals first
  |(simp [Dg, *];done)
  |(unfold Dg;rw[decide_eq_false ‹_›,decide_eq_false ‹_›];rfl))
end Go.My
end
section
set_option linter.unusedVariables false
set_option linter.unusedSimpArgs false
namespace Go.My
open Go.Eng Go.Proofs
variable {G:GInv}
attribute [local irreducible] Ah Bz Bh DT FL FM CY fdl ltI fiI cnI usI ujI MK EZ frP unP CL usP
noncomputable def Ip:Sig:= {X:=List Nd×Int×List UInt8,args:=fun x=>[nds x.1,.int .i64 x.2.1,.str x.2.2],pre:=fun x=>Be x.1∧x.1.length≤2^30,Y:=Unit,post:=fun x y=>True,res:=fun x y=> .int .i64 (CL x.1 x.2.1 x.2.2),outs:=fun x y=>[.top,.top,.top],keep:=false}
noncomputable def OU (x:List Nd×Int×List UInt8):LS:= {ι:=Int×Int,inv:=fun i=>cnI x i.1 i.2,regs:=fun i=>[(0,nds x.1),(2,.str x.2.2),(7,.int .i64 i.2),(12,Ab (Ah x.1 x.2.1)),(13,.int .i64 (Ah x.1 x.2.1).length),(14,.int .i64 i.1)],als:=[],meas:=fun i=>(Ah x.1 x.2.1).length-i.1.toNat}
theorem a0D:Am G Tryz.prog 29 Ip:=
 vcFun_okP [(31,0,Dx),(86,0,IW)] [(26,⟨Int,Bj⟩)] false (fun x=>[(3,OU x)]) Tryz.func29 rfl (by decide) ⟨Mw,a9x,trivial⟩ (fun(x:List Nd×Int×List UInt8)=>(∀(y:Unit),True→True∧True∧True∧True∧True)∧cA Dx [nds x.1,.int .i64 x.2.1] fun x_1 y=>eA (OU x) [nds x.1,.str x.2.2,.int .i64 (0:Int),Ab (Ah x_1.1 x_1.2),.int .i64 (↑(List.length (Ah x_1.1 x_1.2)):Int),.int .i64 (0:Int)]∧∀(i:Int×Int),cnI x i.1 i.2→Aa (decide (i.1<(↑(List.length (Ah x.1 x.2.1)):Int))) (((0:Int)≤i.1∧i.1<(↑(List.length (Ah x.1 x.2.1)):Int))∧Int.toNat i.1<List.length (Ah x.1 x.2.1)∧∀(x_2:Int),(Ah x.1 x.2.1)[Int.toNat i.1]? =some x_2→((0:Int)≤x_2∧x_2<(↑(List.length x.1):Int))∧∀(e:Nd),x.1[Int.toNat x_2]? =some e→cA IW [.agg [.int .i64 e.kind,.str e.text,Aq e.kids,.bool e.blank],.str x.2.2] fun x_3 y=>Aa (Dg x_3.1.kind&&x_3.1.text==x_3.2) (inR IntKind.i64 (i.2+(1:Int))∧inR IntKind.i64 (i.1+(1:Int))∧eN (OU x) i [nds x.1,.str x.2.2,.int .i64 (i.2+(1:Int)),Ab (Ah x.1 x.2.1),.int .i64 (↑(List.length (Ah x.1 x.2.1)):Int),.int .i64 (i.1+(1:Int))]) (inR IntKind.i64 (i.1+(1:Int))∧eN (OU x) i [nds x.1,.str x.2.2,.int .i64 i.2,Ab (Ah x.1 x.2.1),.int .i64 (↑(List.length (Ah x.1 x.2.1)):Int),.int .i64 (i.1+(1:Int))])) (rA Ip x [.int .i64 i.2,.top,.top,.top])) (fun x=>by kernel_rfl) fun(x:List Nd×Int×List UInt8) (hx:Be x.1∧x.1.length≤2^30)=>(by
 dsimp only[BO,cA,eA,eN,OU,Aq,Bn,nds,Ab,rA,IW,Ip,Dx,Au,Ax,mvL,lnL,mvE,lnE,Bm]
 obtain⟨h1,h2⟩:=hx
 (repeat' first|(with_reducible first|rfl|exact True.intro|apply AJ|apply And.intro|((first|apply Az|apply AH|apply AA|apply AI)<;>intro _))|(apply Av<;>intro _)|apply AG|refine Af () ?_ ?_|((first|apply AO|apply AN|apply AM|apply AL|apply AF|apply AE|apply AD|apply AC|apply AB)<;>try dsimp only)|apply Af|(refine Prod.forall.2 ?_;intro _;try dsimp only)|(intro _;try dsimp only))
 all_goals(try(repeat(rename(_:List Int)[_]? =some _=>hq;revert hq;rename(_:List Int)[_]? =some _=>hr;intro hq;rw[hr] at hq;cases hq)))
 all_goals(try(repeat(rename(_:List Nd)[_]? =some _=>hq;revert hq;rename(_:List Nd)[_]? =some _=>hr;intro hq;rw[hr] at hq;cases hq)))
 all_goals(try(repeat(rename(_:List Bool)[_]? =some _=>hq;revert hq;rename(_:List Bool)[_]? =some _=>hr;intro hq;rw[hr] at hq;cases hq)))
 all_goals(try(repeat(rename(_:List (List UInt8))[_]? =some _=>hq;revert hq;rename(_:List (List UInt8))[_]? =some _=>hr;intro hq;rw[hr] at hq;cases hq)))
 all_goals(try(have hB:=a0u (show cnI _ _ _ by assumption)))
 all_goals first
  |rfl
  |omega
  |exact()
  |exact h1
  |exact JM h2
  |exact⟨h1,h2⟩
  |exact(CC ‹_›).1
  |exact(CC ‹_›).2
  |(have hq:=CC (show(Ah _ _)[_]? =some _ by assumption);omega)
  |exact a0t h2
  |exact a0v ‹_› ‹_› ‹_› (by first|assumption|(simp [*];done))
  |exact a0w ‹_› ‹_› ‹_› (by first|assumption|(simp [*];done))
  |exact a0x ‹_› ‹_›
  |((try simp only[AR,Ba,List.length_cons,List.length_nil]);omega)
  |skip)
noncomputable def Iq:Sig:= {X:=List Nd×Int×List UInt8,args:=fun x=>[nds x.1,.int .i64 x.2.1,.str x.2.2],pre:=fun x=>Be x.1∧x.1.length≤2^30,Y:=Unit,post:=fun x y=>True,res:=fun x y=> .int .i64 (CL x.1 x.2.1 x.2.2),outs:=fun x y=>[.top,.top,.top],keep:=false}
noncomputable def MB (x:List Nd×Int×List UInt8):LS:= {ι:=Int×Int,inv:=fun i=>cnI x i.1 i.2,regs:=fun i=>[(0,nds x.1),(2,.str x.2.2),(7,.int .i64 i.2),(8,Ab (Ah x.1 x.2.1)),(9,.int .i64 i.1)],als:=[],meas:=fun i=>(Ah x.1 x.2.1).length-i.1.toNat}
theorem a0E:Am G Tryz.prog 44 Iq:=
 vcFun_okP [(40,0,Dy),(93,0,HC)] [(26,⟨Int,Bj⟩)] false (fun x=>[(4,MB x)]) Tryz.func44 rfl (by decide) ⟨Mx,a0C,trivial⟩ (fun(x:List Nd×Int×List UInt8)=>(∀(y:Unit),True→True∧True∧True∧True∧True)∧cA Dy [nds x.1,.int .i64 x.2.1] fun x_1 y=>eA (MB x) [nds x.1,.str x.2.2,.int .i64 (0:Int),Ab (Ah x_1.1 x_1.2),.int .i64 (0:Int)]∧∀(i:Int×Int),cnI x i.1 i.2→Aa (decide (i.1<(↑(List.length (Ah x.1 x.2.1)):Int))) (((0:Int)≤i.1∧i.1<(↑(List.length (Ah x.1 x.2.1)):Int))∧Int.toNat i.1<List.length (Ah x.1 x.2.1)∧∀(x_2:Int),(Ah x.1 x.2.1)[Int.toNat i.1]? =some x_2→((0:Int)≤x_2∧x_2<(↑(List.length x.1):Int))∧∀(e:Nd),x.1[Int.toNat x_2]? =some e→cA HC [.int .i64 e.kind] fun x_3 y=>Aa (Dg x_3.1) (((0:Int)≤i.1∧i.1<(↑(List.length (Ah x.1 x.2.1)):Int))∧Int.toNat i.1<List.length (Ah x.1 x.2.1)∧∀(x_4:Int),(Ah x.1 x.2.1)[Int.toNat i.1]? =some x_4→((0:Int)≤x_4∧x_4<(↑(List.length x.1):Int))∧∀(e:Nd),x.1[Int.toNat x_4]? =some e→Aa (e.text==x.2.2) (inR IntKind.i64 (i.2+(1:Int))∧inR IntKind.i64 (i.1+(1:Int))∧eN (MB x) i [nds x.1,.str x.2.2,.int .i64 (i.2+(1:Int)),Ab (Ah x.1 x.2.1),.int .i64 (i.1+(1:Int))]) (inR IntKind.i64 (i.1+(1:Int))∧eN (MB x) i [nds x.1,.str x.2.2,.int .i64 i.2,Ab (Ah x.1 x.2.1),.int .i64 (i.1+(1:Int))])) (inR IntKind.i64 (i.1+(1:Int))∧eN (MB x) i [nds x.1,.str x.2.2,.int .i64 i.2,Ab (Ah x.1 x.2.1),.int .i64 (i.1+(1:Int))])) (rA Iq x [.int .i64 i.2,.top,.top,.top])) (fun x=>by kernel_rfl) fun(x:List Nd×Int×List UInt8) (hx:Be x.1∧x.1.length≤2^30)=>(by
 dsimp only[BO,cA,eA,eN,MB,Bn,nds,Ab,rA,HC,Iq,Dy,Au,Ax,mvL,lnL,mvE,lnE,Bm]
 obtain⟨h1,h2⟩:=hx
 (repeat' first|(with_reducible first|rfl|exact True.intro|apply AJ|apply And.intro|((first|apply Az|apply AH|apply AA|apply AI)<;>intro _))|(apply Av<;>intro _)|apply AG|refine Af () ?_ ?_|((first|apply AO|apply AN|apply AM|apply AL|apply AF|apply AE|apply AD|apply AC|apply AB)<;>try dsimp only)|apply Af|(refine Prod.forall.2 ?_;intro _;try dsimp only)|(intro _;try dsimp only))
 all_goals(try(repeat(rename(_:List Int)[_]? =some _=>hq;revert hq;rename(_:List Int)[_]? =some _=>hr;intro hq;rw[hr] at hq;cases hq)))
 all_goals(try(repeat(rename(_:List Nd)[_]? =some _=>hq;revert hq;rename(_:List Nd)[_]? =some _=>hr;intro hq;rw[hr] at hq;cases hq)))
 all_goals(try(repeat(rename(_:List Bool)[_]? =some _=>hq;revert hq;rename(_:List Bool)[_]? =some _=>hr;intro hq;rw[hr] at hq;cases hq)))
 all_goals(try(repeat(rename(_:List (List UInt8))[_]? =some _=>hq;revert hq;rename(_:List (List UInt8))[_]? =some _=>hr;intro hq;rw[hr] at hq;cases hq)))
 all_goals(try(have hB:=a0u (show cnI _ _ _ by assumption)))
 all_goals first
  |rfl
  |omega
  |exact()
  |exact h1
  |exact JM h2
  |exact⟨h1,h2⟩
  |exact(CC ‹_›).1
  |exact(CC ‹_›).2
  |(have hq:=CC (show(Ah _ _)[_]? =some _ by assumption);omega)
  |exact a0t h2
  |exact a0v ‹_› ‹_› ‹_› (by first|assumption|(simp [*];done))
  |exact a0w ‹_› ‹_› ‹_› (by first|assumption|(simp [*];done))
  |exact a0x ‹_› ‹_›
  |((try simp only[AR,Ba,List.length_cons,List.length_nil]);omega)
  |skip)
end Go.My
end
section
namespace Go.Proofs
open Go.Shelf
def Tryz.lays189_ren:Go.Shelf.Ren:=⟨fun|189=>97|125=>129|257=>128|128=>155|129=>156|294=>146|295=>147|296=>148|297=>149|298=>150|299=>151|216=>152|300=>153|301=>154|328=>175|329=>176|330=>177|331=>178|332=>179|215=>180|343=>194|n=>n,fun|28=>26|3=>3|46=>91|0=>0|51=>137|53=>139|4=>4|183=>129|182=>128|131=>134|5=>5|9=>9|218=>148|222=>152|228=>162|229=>67|n=>n,fun|n=>n⟩
theorem Tryz.lays189:Go.Proofs.Lays.n189 Tryz.prog Tryz.lays189_ren:= {
 mixed:=by kernel_rfl
 f125:=Tryz.func129.trans (congrArg some (by kernel_rfl))
 f128:=Tryz.func155.trans (congrArg some (by kernel_rfl))
 f129:=Tryz.func156.trans (congrArg some (by kernel_rfl))
 f189:=Tryz.func97.trans (congrArg some (by kernel_rfl))
 f215:=Tryz.func180.trans (congrArg some (by kernel_rfl))
 f216:=Tryz.func152.trans (congrArg some (by kernel_rfl))
 f257:=Tryz.func128.trans (congrArg some (by kernel_rfl))
 f294:=Tryz.func146.trans (congrArg some (by kernel_rfl))
 f295:=Tryz.func147.trans (congrArg some (by kernel_rfl))
 f296:=Tryz.func148.trans (congrArg some (by kernel_rfl))
 f297:=Tryz.func149.trans (congrArg some (by kernel_rfl))
 f298:=Tryz.func150.trans (congrArg some (by kernel_rfl))
 f299:=Tryz.func151.trans (congrArg some (by kernel_rfl))
 f300:=Tryz.func153.trans (congrArg some (by kernel_rfl))
 f301:=Tryz.func154.trans (congrArg some (by kernel_rfl))
 f328:=Tryz.func175.trans (congrArg some (by kernel_rfl))
 f329:=Tryz.func176.trans (congrArg some (by kernel_rfl))
 f330:=Tryz.func177.trans (congrArg some (by kernel_rfl))
 f331:=Tryz.func178.trans (congrArg some (by kernel_rfl))
 f332:=Tryz.func179.trans (congrArg some (by kernel_rfl))
 f343:=Tryz.func194.trans (congrArg some (by kernel_rfl))
 t0:=Tryz.underlying0
 a0:=Tryz.isAgg0
 z0:=Tryz.sizeOf0
 v0:=Tryz.zeroValue0
 t3:=Tryz.underlying3
 a3:=Tryz.isAgg3
 z3:=Tryz.sizeOf3
 v3:=Tryz.zeroValue3
 t4:=Tryz.underlying4
 a4:=Tryz.isAgg4
 z4:=Tryz.sizeOf4
 v4:=Tryz.zeroValue4
 t5:=Tryz.underlying5
 a5:=Tryz.isAgg5
 z5:=Tryz.sizeOf5
 v5:=Tryz.zeroValue5
 t9:=Tryz.underlying9
 a9:=Tryz.isAgg9
 z9:=Tryz.sizeOf9
 v9:=Tryz.zeroValue9
 t28:=Tryz.underlying26
 a28:=Tryz.isAgg26
 z28:=Tryz.sizeOf26
 v28:=Tryz.zeroValue26
 t46:=Tryz.underlying91
 a46:=Tryz.isAgg91
 z46:=Tryz.sizeOf91
 v46:=Tryz.zeroValue91
 t51:=Tryz.underlying137
 a51:=Tryz.isAgg137
 z51:=Tryz.sizeOf137
 v51:=Tryz.zeroValue137
 t53:=Tryz.underlying139
 a53:=Tryz.isAgg139
 z53:=Tryz.sizeOf139
 v53:=Tryz.zeroValue139
 t131:=Tryz.underlying134
 a131:=Tryz.isAgg134
 z131:=Tryz.sizeOf134
 v131:=Tryz.zeroValue134
 t182:=Tryz.underlying128
 a182:=Tryz.isAgg128
 z182:=Tryz.sizeOf128
 v182:=Tryz.zeroValue128
 t183:=Tryz.underlying129
 a183:=Tryz.isAgg129
 z183:=Tryz.sizeOf129
 v183:=Tryz.zeroValue129
 t218:=Tryz.underlying148
 a218:=Tryz.isAgg148
 z218:=Tryz.sizeOf148
 v218:=Tryz.zeroValue148
 t222:=Tryz.underlying152
 a222:=Tryz.isAgg152
 z222:=Tryz.sizeOf152
 v222:=Tryz.zeroValue152
 t228:=Tryz.underlying162
 a228:=Tryz.isAgg162
 z228:=Tryz.sizeOf162
 v228:=Tryz.zeroValue162
 t229:=Tryz.underlying67
 a229:=Tryz.isAgg67
 z229:=Tryz.sizeOf67
 v229:=Tryz.zeroValue67}
open Go.Sort Go.RowKit in
theorem Tryz.slices_Sort_int(blk off cap:Nat)(zs:List Int)(w:World)(hH:Holds (Value.int .i64) w blk off zs.toArray)(hblk:blk<w.heap.size)(hsz:zs.length<4611686018427387904):
 Calls Tryz.prog 97 #[.slice (some ⟨blk,off,none⟩) zs.length cap] w fun e w'=>
  e= .returned (.tuple #[])∧∃n os,w'=grow (putRow (Value.int .i64) (Sort.ahead w n) blk off (zs.mergeSort fun x y=>decide (x≤y)).toArray) os:=Any.slices_Sort_int Tryz.lays189 blk off cap zs w hH hblk hsz
open Go.RowKit Go.Sort in
theorem Tryz.slices_Sort_int_none(p:Option Addr)(cap:Nat)(w:World):
 Calls Tryz.prog 97 #[.slice p 0 cap] w fun e w'=>e= .returned (.tuple #[])∧w'=w:=Any.slices_Sort_int_none Tryz.lays189 p cap w
end Go.Proofs
end
section
set_option linter.unusedVariables false
set_option linter.unusedSimpArgs false
namespace Go.Eng
def Old(w:World):FP:=fun b=>w.heap.size≤b
def IX(P:Program)(t:TypeId){α:Type}(f:α→List AV)(good:α→Prop):Prop:=
 ∀ {H:Type} (enc:TypeId×Value→H) (w:World) (spare:Nat→Bool) (held:Bool) (fuel:Nat) (cs:List Value) (y:DataW H×List MemPlace),
   DataW.trod enc P w 0 spare held fuel t cs=some y→∃x:α,good x∧AZ (Old w) w (f x) cs (fun _=>False)
theorem Rg{Z:FP}{w:World}{a:AV}{v:Value}:AZ Z w [a] [v] (fun _=>False)↔Al Z w a v (fun _=>False):=by
 simp only[AZ]
 constructor
 ·rintro⟨u,cs',A,B,e,hj,h1,h2,h3⟩
  simp only[List.cons.injEq] at e
  obtain⟨rfl,rfl⟩:=e
  have:=(HT hj AS).1
  rwa [Em this] at h1
 ·intro h
  exact⟨v,[],fun _=>False,fun _=>False,rfl,BG _,h,rfl,AS⟩
theorem a9y{Z:FP}{w:World}{a:AV}{azs:List AV}{v:Value}{vs:List Value}(h1:Al Z w a v (fun _=>False))(h2:AZ Z w azs vs (fun _=>False)):
 AZ Z w (a::azs) (v::vs) (fun _=>False):=by
 simp only[AZ]
 exact⟨v,vs,_,_,rfl,BG _,h1,h2⟩
theorem a9z{k:IntKind}{n:Int}(h:(Lit.int k n).wf=true):inR k n:=by
 unfold inR
 simpa [Lit.wf] using h
theorem a9A{P:Program}{t:TypeId}{k:IntKind}(ht:P.underlying t=some (.int k)):IX P t (fun n:Int=>[.int k n]) (fun n=>inR k n):=by
 intro H enc w spare held fuel cs y h
 obtain⟨n,rfl,_,hw⟩:=DataW.trod_int ht h
 exact⟨n,a9z hw,Rg.2 (by simp [Al,emp])⟩
theorem a0F{α:Type}{p:Nat→α→Prop}:∀n,(∀i,i<n→∃x,p i x)→∃l:List α,l.length=n∧∀i x,l[i]? =some x→p i x
 |0,_=>⟨[],rfl,fun i x h=>by simp at h⟩
 |n+1,h=>by
  obtain⟨l,hl,hp⟩:=a0F n fun i hi=>h i (by omega)
  obtain⟨x,hx⟩:=h n (by omega)
  refine⟨l++[x],by simp [hl],fun i y hy=> ?_⟩
  by_cases hi:i<l.length
  ·rw[List.getElem?_append_left hi] at hy;exact hp i y hy
  ·rw[List.getElem?_append_right (by omega)] at hy
   have:i-l.length=0:=by
    rcases Nat.eq_zero_or_pos (i-l.length) with h|h
    ·exact h
    ·rw[List.getElem?_eq_none (by simp;omega)] at hy;cases hy
   rw[this] at hy;simp at hy;subst hy
   rwa [show i=n by omega]
theorem a0G{α:Type}{sz:Nat}{R:α→List Value→FP→Prop}:∀(xs:List α) (arr:List Value),
 (∀(i:Nat) (x:α),xs[i]? =some x→((arr.drop (i*sz)).take sz).length=sz∧R x ((arr.drop (i*sz)).take sz) (fun _=>False))→Rows sz R xs arr (fun _=>False)
 |[],arr,h=>AS
 |x::xs,arr,h=>by
  have h0:=h 0 x rfl
  simp only[Nat.zero_mul,List.drop_zero] at h0
  refine⟨_,_,BG _,h0.1,h0.2,a0G xs (arr.drop sz) fun i y hy=> ?_⟩
  have:=h (i+1) y (by simpa using hy)
  rwa [Nat.succ_mul,Nat.add_comm,←List.drop_drop] at this
theorem a9B{P:Program}{t e:TypeId}{sz:Nat}{α:Type}{f:α→List AV}{good:α→Prop}(ht:P.underlying t=some (.slice e))(hc:P.cellsOf e=sz)(hpos:0<sz)
 (ho:IX P e f good):IX P t (fun l:List α=>[.sl false 0 sz α f l]) (fun l=>l.length<2^63∧∀x∈l,good x):=by
 intro H enc w spare held fuel cs y h
 rcases DataW.trod_slice ht h with⟨rfl,_⟩|⟨a,len,cap,elems,rest,n,_,rfl,_,hb,hl,hm,hlen,hel,_,_⟩
 ·refine⟨[],⟨by simp,by simp⟩,Rg.2 ?_⟩
  simp only[Al]
  exact⟨none,0,0,rfl,rfl,Nat.le_refl _,.inr ⟨trivial,AS,.inl trivial⟩⟩
 ·have each:∀i,i<len→∃x:α,good x∧∃cs,w.cells? 0 (a.add (i*sz)) sz=some cs∧AZ (Old w) w (f x) cs (fun _=>False):=by
   intro i hi
   have h1:=hel i hi
   rw[hc] at h1
   rw[List.getElem?_eq_getElem (by omega:i<elems.length),Option.bind_eq_some_iff] at h1
   obtain⟨cs,h2,h3⟩:=h1
   obtain⟨x,hg,hr⟩:=ho enc w spare held n cs _ h3
   exact⟨x,hg,cs,h2,hr⟩
  obtain⟨l,hll,hp⟩:=a0F len each
  refine⟨l,⟨?_,?_⟩,Rg.2 ?_⟩
  ·unfold maxLen at hm;omega
  ·intro x hx
   obtain⟨i,hi⟩:=List.getElem?_of_mem hx
   exact(hp i x hi).1
  ·simp only[Al]
   refine⟨some a,len,cap,rfl,hll.symm,hl,.inr ⟨trivial,AS,?_⟩⟩
   rcases Nat.eq_zero_or_pos len with h0|h0
   ·exact .inl (List.length_eq_zero_iff.1 (by omega))
   ·refine .inr ?_
    obtain⟨x0,_,c0,hc0,_⟩:=each 0 h0
    have h00:=(World.cells?_some hc0).2.2 0 hpos
    have hcl:=(World.cells?_some hc0).2.1
    simp only[Nat.zero_mul,Addr.add] at h00
    obtain⟨b,off,sp⟩:=a
    simp only[World.cell?,if_true] at h00
    split at h00
    ·rename_i arr ty fr harr
     split at h00
     ·rw[List.getElem?_eq_getElem (by omega)] at h00;cases h00
     ·rename_i hsp
      have hsp:sp=none:=by simpa using hsp
      subst hsp
      have hlt:b<w.heap.size:=by
       rcases Nat.lt_or_ge b w.heap.size with h|h
       ·exact h
       ·rw[Array.getElem?_eq_none h] at harr;cases harr
      refine⟨b,off,arr,ty,fr,rfl,by unfold Old;omega,harr,a0G l _ fun i x hx=> ?_⟩
      have hi:i<l.length:=(List.getElem?_eq_some_iff.1 hx).1
      obtain⟨hg,cs,hcs,hr⟩:=hp i x hx
      obtain⟨_,hcl,hce⟩:=World.cells?_some hcs
      have e:((arr.toList.drop off).drop (i*sz)).take sz=cs:=by
       refine List.ext_getElem? fun j=> ?_
       rw[List.getElem?_take]
       split
       ·rename_i hj
        have:=hce j hj
        rw[←this]
        simp only[List.getElem?_drop,Array.getElem?_toList]
        have ea:((⟨b,off,none⟩:Addr).add (i*sz)).add j=⟨b,off+i*sz+j,none⟩:=by
         unfold Addr.add
         by_cases h1:i*sz=0<;>by_cases h2:j=0<;>simp [h1,h2]
        rw[ea]
        simp only[World.cell?,harr]
        simp [Nat.add_assoc]
       ·rw[List.getElem?_eq_none (by omega)]
      rw[e]
      exact⟨hcl,hr⟩
    ·rw[List.getElem?_eq_getElem (by omega)] at h00;cases h00
end Go.Eng
end
section
set_option linter.unusedVariables false
set_option linter.unusedSimpArgs false
namespace Go.My
open Go.Eng Go.Proofs
variable {G:GInv}
def EM(l:List Int):List Int:=l.mergeSort fun x y=>decide (x≤y)
theorem a0H(l:List Int):(EM l).length=l.length:=(List.mergeSort_perm _ _).length_eq
theorem a0I{Z:FP}{w:World}:∀(xs:List Int) (cs:List Value) (S:FP),Go.Eng.Rows 1 (fun x cs A=>AZ Z w (Bj x) cs A) xs cs S→emp S∧∀(j:Nat) x,xs[j]? =some x→cs[j]? =some (.int .i64 x)
 |[],cs,S,h=>⟨h,fun j x hj=>by simp at hj⟩
 |y::xs,cs,S,h=>by
  obtain⟨A,B,hj,hl,h1,h2⟩:=h
  simp only[Bj,AZ,Al] at h1
  obtain⟨v,cs',A1,B1,e1,hj1,⟨e2,he2⟩,e3,he3⟩:=h1
  subst e2;subst e3
  obtain⟨hB,ih⟩:=a0I xs _ B h2
  refine⟨fun b hb=>((hj.1 b).1 hb).elim (fun ha=>((hj1.1 b).1 ha).elim (he2 b) (he3 b)) (hB b),fun j x hjx=> ?_⟩
  cases j with
  |zero=>
   simp only[List.getElem?_cons_zero,Option.some.injEq] at hjx
   subst hjx
   have:(cs.take 1)[0]? =some (.int .i64 y):=by rw[e1];rfl
   rw[List.getElem?_take] at this
   simpa using this
  |succ j=>
   have:=ih j x (by simpa using hjx)
   rw[List.getElem?_drop] at this
   rw[show j+1=1+j by omega];exact this
theorem a0J{Z:FP}{w:World}:∀(xs:List Int) (cs:List Value),(∀(j:Nat) x,xs[j]? =some x→cs[j]? =some (.int .i64 x))→Go.Eng.Rows 1 (fun x cs A=>AZ Z w (Bj x) cs A) xs cs (fun _=>False)
 |[],cs,_=>AS
 |y::xs,cs,h=>by
  have h0:=h 0 y rfl
  obtain⟨c,cs',rfl⟩:∃c cs',cs=c::cs':=by
   cases cs with
   |nil=>simp at h0
   |cons c cs'=>exact⟨c,cs',rfl⟩
  simp only[List.getElem?_cons_zero,Option.some.injEq] at h0
  subst h0
  refine⟨_,_,BG _,rfl,?_,a0J xs cs' fun j x hj=>by simpa using h (j+1) x (by simpa using hj)⟩
  simp only[Bj,AZ,Al]
  exact⟨_,_,_,_,rfl,BG _,⟨rfl,AS⟩,rfl,AS⟩
def La:Sig:= {X:=List Int,args:=fun x=>[Ab x],pre:=fun x=>x.length≤2^40,Y:=Unit,post:=fun _ _=>True,res:=fun _ _=> .tup [],outs:=fun x _=>[Ab (EM x)],keep:=false,fixed:=[0]}
theorem a9C:Am G Go.Proofs.Tryz.prog 97 La:=by
 refine⟨⟨⟨_,Go.Proofs.Tryz.func97,by kernel_rfl,by kernel_rfl⟩,fun x y _ _=>⟨trivial,fun _=>⟨trivial,trivial⟩,trivial⟩⟩,?_⟩
 intro x0 hx Z w vals A hG h hA _
 obtain⟨x,rfl⟩:∃x:List Int,x=x0:=⟨x0,rfl⟩
 have hx:x.length≤2^40:=hx
 simp only[La,AZ] at h
 obtain⟨v,cs,A1,A2,rfl,hj,h1,rfl,he⟩:=h
 have hAA:∀b,A b↔A1 b:=fun b=>(hj.1 b).trans ⟨fun hh=>hh.elim id (fun h2=>(he b h2).elim),.inl⟩
 simp only[Ab,Al] at h1
 obtain⟨a,n,c,rfl,hn,hnc,h1⟩:=h1
 rcases h1 with⟨_,h1⟩|⟨h1,_⟩
 ·rcases h1 with⟨rfl,hc,hem⟩|⟨b,off,arr,ty,S1,rfl,hb,hlen,hrows,hjo⟩
  ·have h0:n=0:=by omega
   subst h0
   have hxe:x=[]:=List.length_eq_zero_iff.1 hn.symm
   subst hxe
   refine(Go.Proofs.Tryz.slices_Sort_int_none none c w).mono ?_
   rintro e w' ⟨rfl,rfl⟩
   refine⟨(),_,Z,A,trivial,rfl,?_,⟨rfl,rfl,rfl,Nat.le_refl _,fun _ _ _=>⟨rfl,Iff.rfl⟩,fun b hb=>⟨(hA b hb).1,(hA b hb).2,fun _=>hb⟩⟩⟩
   have hAe:emp A:=fun b hb=>hem b ((hAA b).1 hb)
   simp only[La,AZ,Al,Ab]
   refine⟨_,_,(fun _=>False),A,rfl,BG _,⟨[],rfl,rfl,AS⟩,_,_,A,(fun _=>False),rfl,Hk _,⟨none,0,c,rfl,by simp [EM],by omega,.inl ⟨trivial,.inl ⟨rfl,hc,hAe⟩⟩⟩,rfl,AS⟩
  ·obtain⟨hS1,hat⟩:=a0I x _ S1 hrows
   subst hn
   have hbl:b<w.heap.size:=by
    rcases Nat.lt_or_ge b w.heap.size with hh|hh
    ·exact hh
    ·rw[Array.getElem?_eq_none hh] at hb;cases hb
   have hcell:∀j,j<x.length→arr[off+j]? =some (.int .i64 x[j]!):=fun j hjx=>by
    have e0:x[j]? =some x[j]! :=by rw[getElem!_pos x j hjx];simp
    have:=hat j _ e0
    rw[List.getElem?_drop] at this
    simpa using this
   have hH:Go.Sort.Holds (Value.int .i64) w b off x.toArray:=fun j hjx=>by
    have hjx:j<x.length:=by simpa using hjx
    constructor
    ·show w.cell? _=_
     unfold World.cell?
     simp only[hb]
     rw[if_neg (by simp),hcell j hjx]
     simp
    ·unfold World.frozen?
     simp only[hb]
     simp
   refine(Go.Proofs.Tryz.slices_Sort_int b off c x w hH hbl (by omega)).mono ?_
   rintro e w' ⟨rfl,n,os,rfl⟩
   have hsz:(Go.Sort.putRow (Value.int .i64) (Go.Sort.ahead w n) b off (EM x).toArray).heap.size=w.heap.size:=by rw[Go.Sort.size_putRow];rfl
   have hblk:(Go.Sort.putRow (Value.int .i64) (Go.Sort.ahead w n) b off (EM x).toArray).heap[b]? =some (.cells (Go.Sort.putCells (Value.int .i64) off (EM x).toArray arr) ty (0,0)):=by
    unfold Go.Sort.putRow Go.Sort.mapBlock Go.Sort.ahead
    simp only[Array.getElem?_modify,if_true,hb,Option.map_some,Go.Sort.onCells]
   have hoth:∀k,k≠b→(Go.Sort.putRow (Value.int .i64) (Go.Sort.ahead w n) b off (EM x).toArray).heap[k]? =w.heap[k]? :=fun k hk=>by
    unfold Go.Sort.putRow Go.Sort.mapBlock Go.Sort.ahead
    simp only[Array.getElem?_modify]
    rw[if_neg (fun e=>hk e.symm)]
   have hg:∀k,k<w.heap.size→(Go.Sort.grow (Go.Sort.putRow (Value.int .i64) (Go.Sort.ahead w n) b off (EM x).toArray) os).heap[k]? =(Go.Sort.putRow (Value.int .i64) (Go.Sort.ahead w n) b off (EM x).toArray).heap[k]? :=fun k hk=>by
    show(_++os)[k]? =_
    rw[Array.getElem?_append_left (by rw[hsz];exact hk)]
   have hge:w.heap.size≤(Go.Sort.grow (Go.Sort.putRow (Value.int .i64) (Go.Sort.ahead w n) b off (EM x).toArray) os).heap.size:=by
    show _≤(_++os).size
    rw[Array.size_append,hsz];omega
   have hAb:A b:=(hAA b).2 ((hjo.1 b).2 (.inl rfl))
   refine⟨(),_,Z,A,trivial,rfl,?_,⟨rfl,rfl,rfl,hge,fun k hk hnk=>⟨?_,Iff.rfl⟩,fun k hk=>⟨(hA k hk).1,Nat.lt_of_lt_of_le (hA k hk).2 hge,fun _=>hk⟩⟩⟩
   ·simp only[La,AZ,Al,Ab]
    refine⟨_,_,(fun _=>False),A,rfl,BG _,⟨[],rfl,rfl,AS⟩,_,_,A,(fun _=>False),rfl,Hk _,⟨_,_,c,rfl,by rw[a0H],hnc,.inl ⟨trivial,.inr ⟨b,off,_,ty,(fun _=>False),rfl,(hg b hbl).trans hblk,?_,a0J _ _ fun j y hjy=> ?_,?_⟩⟩⟩,rfl,AS⟩
    ·unfold Go.Sort.putCells;rw[Array.size_mapIdx];exact hlen
    ·have hjl:=(List.getElem?_eq_some_iff.1 hjy).1
     have hjx:j<x.length:=by rw[a0H] at hjl;exact hjl
     rw[List.getElem?_drop]
     unfold Go.Sort.putCells
     rw[Array.getElem?_toList,Array.getElem?_mapIdx,hcell j hjx]
     simp only[Option.map_some]
     rw[if_pos ⟨by omega,by simp;omega⟩]
     have:off+j-off=j:=by omega
     rw[this,getElem!_pos _ j (by simpa using hjl)]
     have:=(List.getElem?_eq_some_iff.1 hjy).2
     simp [this]
    ·exact⟨fun k=>by rw[hAA k,hjo.1 k];exact⟨fun hh=>hh.imp id (hS1 k),fun hh=>hh.imp id False.elim⟩,fun k _ hh=>hh⟩
   ·refine(hg k hk).trans ?_
    exact hoth k (fun e=>hnk (e▸hAb))
 ·cases h1
end Go.My
end
section
set_option linter.unusedVariables false
set_option linter.unusedSimpArgs false
namespace Go.My
open Go.Eng Go.Proofs
variable {G:GInv}
end Go.My
end
section
set_option linter.unusedVariables false
set_option linter.unusedSimpArgs false
namespace Go.My
open Go.Eng Go.Proofs
variable {G:GInv}
structure Gr where
 notes:List Int
 member:Int
end Go.My
end
section
set_option linter.unusedVariables false
set_option linter.unusedSimpArgs false
namespace Go.My
open Go.Eng
section
variable {α:Type} (lt:α→α→Bool)
variable {lt}
end
end Go.My
end
section
set_option linter.unusedVariables false
set_option linter.unusedSimpArgs false
namespace Go.My
open Go.Eng Go.Proofs
variable {G:GInv}
end Go.My
end
section
set_option linter.unusedVariables false
set_option linter.unusedSimpArgs false
namespace Go.My
open Go.Eng Go.Proofs
variable {G:GInv}
end Go.My
end
section
set_option linter.unusedVariables false
set_option linter.unusedSimpArgs false
namespace Go.My
open Go.Eng Go.Proofs
variable {G:GInv}
theorem a9D{n:Int}(h1:0≤n)(h2:n≤255):inR .u8 n:=by
 unfold inR;simp [IntKind.min,IntKind.max,IntKind.bits,IntKind.signed];omega
theorem a9E{n:Int}(h0:0≤n)(h1:n<256):∃c:UInt8,n=(c.toNat:Int):=⟨UInt8.ofNat n.toNat,by
 have:n.toNat % 256=n.toNat:=by omega
 simp;omega⟩
theorem a9F{n:Int}{q:UInt8→Prop}(h0:0≤n)(h1:n<256)(h:∀c:UInt8,n=(c.toNat:Int)→q c):∃c:UInt8,n=(c.toNat:Int)∧q c:=by
 obtain⟨c,hc⟩:=a9E h0 h1
 exact⟨c,hc,h c hc⟩
section
variable {α:Type}
variable {mk:Int→α→α} {sz:α→Nat}
end
end Go.My
end
section
set_option linter.unusedVariables false
set_option linter.unusedSimpArgs false
namespace Go.My
open Go.Eng Go.Proofs
variable {G:GInv}
end Go.My
end
section
set_option linter.unusedVariables false
set_option linter.unusedSimpArgs false
namespace Go.My
open Go.Eng Go.Proofs
variable {G:GInv}
end Go.My
end
section
set_option linter.unusedVariables false
set_option linter.unusedSimpArgs false
namespace Go.My
open Go.Eng Go.Proofs
variable {G:GInv}
def JN:Sig:= {X:=Int×Unit,args:=fun x=>[.int .i64 x.1],pre:=fun x=>0≤x.1∧x.1<10,Y:=Unit,post:=fun x y=>True,res:=fun x y=> .int .u8 (48+x.1),outs:=fun x y=>[.top],keep:=false}
theorem a9G:Am G Tryz.prog 127 JN:=
 vcFun_okP [] [] false (fun x=>[]) Tryz.func127 rfl (by decide) trivial (fun(x:Int×Unit)=>(∀(y:Unit),True→True∧True∧True)∧Aa (decide (x.1<(10:Int))) (inR IntKind.i64 ((48:Int)+x.1)∧inR IntKind.u8 ((48:Int)+x.1)∧rA JN x [AV.int IntKind.u8 ((48:Int)+x.1),.top]) (inR IntKind.i64 ((97:Int)+x.1)∧inR IntKind.i64 ((97:Int)+x.1-(10:Int))∧inR IntKind.u8 ((97:Int)+x.1-(10:Int))∧rA JN x [AV.int IntKind.u8 ((97:Int)+x.1-(10:Int)),.top])) (fun x=>by kernel_rfl) fun(x:Int×Unit) (hx:0≤x.1∧x.1<10)=>(by
 dsimp only[rA,JN,Au,Ax]
 obtain⟨x,_⟩:=x;dsimp only at hx ⊢
 obtain⟨h1,h2⟩:=hx
 (repeat' first|(with_reducible first|rfl|exact True.intro|apply AJ|apply And.intro|((first|apply Az|apply AH|apply AA|apply AI)<;>intro _))|(apply Av<;>intro _)|apply AG|refine Af () ?_ ?_|((first|apply AO|apply AN|apply AM|apply AL|apply AF|apply AE|apply AD|apply AC|apply AB)<;>try dsimp only)|apply Af|(refine Prod.forall.2 ?_;intro _;try dsimp only)|(intro _;try dsimp only))<;>(try dsimp only at*)<;>(try simp only[AR,List.length_cons,List.length_nil])<;>(try omega)
 all_goals exact a9D (by omega) (by omega))
def dgt(m:Nat):List UInt8:=if m=0 then [] else Lib.decDigits m
theorem Lb{m:Nat}(h:0<m):dgt m=dgt (m/10)++[UInt8.ofNat (48+m % 10)]:=by
 rw[dgt,if_neg (by omega),Lib.decDigits]
 split
 ·rename_i h10
  have e:m/10=0:=by omega
  have e2:m % 10=m:=by omega
  rw[e,e2,dgt,if_pos rfl];rfl
 ·rw[dgt,if_neg (by omega)]
theorem UP:∀(n m:Nat),m<10^n→(dgt m).length≤n
 |0,m,h=>by have:m=0:=by simpa using h
            subst this;simp [dgt]
 |n+1,m,h=>by
  by_cases h0:0<m
  ·rw[Lb h0,List.length_append]
   have:=UP n (m/10) (by rw[Nat.div_lt_iff_lt_mul (by omega)];rw[Nat.pow_succ] at h;exact h)
   simp;omega
  ·have:m=0:=by omega
   subst this;simp [dgt]
def Ee(x:Int):List UInt8:=Lib.itoa x
theorem OV{x:Int}(h:0<x):Ee x=dgt x.toNat:=by
 rw[Ee,Lib.itoa,if_neg (by omega),dgt,if_neg (by omega)]
theorem a0K:Ee 0=[48]:=by
 rw[Ee,Lib.itoa,if_neg (by omega),Lib.decDigits];rfl
theorem a0L{x:Int}(h0:0≤x)(h:x≤999999999):(Ee x).length≤9:=by
 by_cases hx:0<x
 ·rw[OV hx];exact UP 9 x.toNat (by omega)
 ·have:x=0:=by omega
  subst this;rw[a0K];simp
def dcI(x n:Int)(s:List UInt8):Prop:=0<x∧x≤999999999∧0≤n∧n≤x∧dgt n.toNat++s=dgt x.toNat
theorem a9H{x:Int}(h0:0<x)(h1:x≤999999999):dcI x x []:=⟨h0,h1,by omega,by omega,by simp⟩
theorem a9I{x n:Int}{c:UInt8}{s:List UInt8}(h:dcI x n s)(hn:n≠0)(hc:48+n.tmod 10=(c.toNat:Int)):dcI x (n.tdiv 10) (c::s):=by
 obtain⟨h0,h1,h2,h3,h4⟩:=h
 have e1:n.tmod 10=n % 10:=Int.tmod_eq_emod_of_nonneg h2
 have e2:n.tdiv 10=n/10:=Int.tdiv_eq_ediv_of_nonneg h2
 rw[e1] at hc
 rw[e2]
 refine⟨h0,h1,by omega,by omega,?_⟩
 rw[←h4,Lb (m:=n.toNat) (by omega)]
 have e3:(n/10).toNat=n.toNat/10:=by omega
 have e4:UInt8.ofNat (48+n.toNat % 10)=c:=by
  have:c.toNat=48+n.toNat % 10:=by omega
  rw[←this];simp
 rw[e3,e4];simp
theorem a9J{x n:Int}{s:List UInt8}(h:dcI x n s)(hn:n=0):s=Ee x:=by
 obtain⟨h0,h1,h2,h3,h4⟩:=h
 subst hn
 rw[OV h0,←h4];simp [dgt]
theorem a0M{x n:Int}{s:List UInt8}(h:dcI x n s):s.length≤9∧(0≤n.tmod 10∧n.tmod 10<10):=by
 obtain⟨h0,h1,h2,h3,h4⟩:=h
 have:=UP 9 x.toNat (by omega)
 rw[←h4,List.length_append] at this
 have e1:n.tmod 10=n % 10:=Int.tmod_eq_emod_of_nonneg h2
 rw[e1]
 exact⟨by omega,by omega,by omega⟩
def Lc:Sig:= {X:=Int,args:=fun x=>[.int .i64 x],pre:=fun x=>0≤x∧x≤999999999,Y:=Unit,post:=fun x y=>True,res:=fun x y=> .str (Ee x),outs:=fun x y=>[.top],keep:=false}
def OW(x:Int):LS:= {ι:=Int×List UInt8,inv:=fun i=>dcI x i.1 i.2,regs:=fun i=>[(0,.int .i64 i.1),(3,.bool false),(4,.str i.2)],als:=[],meas:=fun i=>i.1.toNat}
theorem a9K:Am G Tryz.prog 96 Lc:=
 vcFun_okP [(127,0,JN)] [(22,⟨UInt8,Hm⟩)] false (fun x=>[(5,OW x)]) Tryz.func96 rfl (by decide) ⟨a9G,trivial⟩ (fun(x:Int)=>(∀(y:Unit),True→True∧True∧True)∧Aa (x==(0:Int)) (rA Lc x [.str #[(48:UInt8)].toList,.top]) (eA (OW x) [.int .i64 x,.bool (decide (x<(0:Int))),.str #[].toList]∧∀(i:Int×List UInt8),dcI x i.1 i.2→Aa (i.1 != (0:Int)) ((10:Int)≠(0:Int)∧Aa (decide (Int.tmod i.1 (10:Int)<(0:Int))) (inR IntKind.i64 ((0:Int)-Int.tmod i.1 (10:Int))∧cA JN [.int .i64 ((0:Int)-Int.tmod i.1 (10:Int))] fun x_1 y=>∃(x_2:UInt8),(48:Int)+x_1.1=(↑(UInt8.toNat x_2):Int)∧∃(l:List UInt8),AV.sl false (0:Nat) (1:Nat) UInt8 Hm [x_2]=AV.sl false (0:Nat) (1:Nat) UInt8 Hm l∧(↑(List.length l+List.length i.2):Int)≤IntKind.max IntKind.i64∧(10:Int)≠(0:Int)∧inR IntKind.i64 (Int.tdiv i.1 (10:Int))∧eN (OW x) i [.int .i64 (Int.tdiv i.1 (10:Int)),.bool false,.str (l++i.2)]) (cA JN [.int .i64 (Int.tmod i.1 (10:Int))] fun x_1 y=>∃(x_2:UInt8),(48:Int)+x_1.1=(↑(UInt8.toNat x_2):Int)∧∃(l:List UInt8),AV.sl false (0:Nat) (1:Nat) UInt8 Hm [x_2]=AV.sl false (0:Nat) (1:Nat) UInt8 Hm l∧(↑(List.length l+List.length i.2):Int)≤IntKind.max IntKind.i64∧(10:Int)≠(0:Int)∧inR IntKind.i64 (Int.tdiv i.1 (10:Int))∧eN (OW x) i [.int .i64 (Int.tdiv i.1 (10:Int)),.bool false,.str (l++i.2)])) (rA Lc x [.str i.2,.top]))) (fun x=>by kernel_rfl) fun(x:Int) (hx:0≤x∧x≤999999999)=>(by
 dsimp only[cA,eA,eN,OW,rA,JN,Lc,Au,Ax,mvL,lnL,mvE,lnE,Bm]
 obtain⟨h1,h2⟩:=hx
 (repeat' first|refine a9F ?_ ?_ ?_|(with_reducible first|rfl|exact True.intro|apply AJ|apply And.intro|((first|apply Az|apply AH|apply AA|apply AI)<;>intro _))|(apply Av<;>intro _)|apply AG|refine Af () ?_ ?_|((first|apply AO|apply AN|apply AM|apply AL|apply AF|apply AE|apply AD|apply AC|apply AB)<;>try dsimp only)|apply Af|(refine Prod.forall.2 ?_;intro _;try dsimp only)|(intro _;try dsimp only))
 all_goals first
  |rfl
  |exact()
  |(rw[show x=0 by assumption];exact a0K.symm)
  |exact decide_eq_false (by omega)
  |exact a9H (by omega) h2
  |exact a9I ‹_› ‹_› ‹_›
  |(exfalso;have hd:=a0M ‹_›;omega)
  |(have hd:=a0M ‹_›;(try simp only[AR,List.length_cons,List.length_nil]);omega)
  |(have hd:=a9J ‹_› ‹_›;exact hd)
  |(have hd:=(show dcI _ _ _ by assumption).2.2;have he:=Int.tdiv_eq_ediv_of_nonneg (b:=10) hd.1;(try simp only[AR]);omega)
  |skip)
end Go.My
end
section
set_option linter.unusedVariables false
set_option linter.unusedSimpArgs false
namespace Go.My
open Go.Eng Go.Proofs
variable {G:GInv}
theorem a9L{n:Nat}{P:Int→Prop}{m:List Bool}{c:Int}{b:Bool}(h:MK n P m)(hc:0≤c∧c<n):MK n (fun j=>(P j∧j≠c)∨(j=c∧b=true)) (m.set c.toNat b):=by
 refine⟨by rw[List.length_set];exact h.1,fun j=> ?_⟩
 rw[KW (by have:=h.1;omega),h.2]
 by_cases e:j=c<;>simp [e]
def GW(k:Int):Bool:=decide (k=22)||decide (k=21)
def Ld(ns:List Nd)(i:Int)(j:Int):Prop:=Bd ns j≠19∧∃p:Int,(0≤p∧p<i)∧GW (Bd ns p)=true∧j∈(Ai ns p).kids
def moI(ns:List Nd)(i:Int)(m:List Bool):Prop:=(Oz ns∧0≤i∧i≤ns.length)∧MK ns.length (Ld ns i) m
def mnI(ns:List Nd)(i t:Int)(m:List Bool):Prop:=((Oz ns∧0≤i∧i<ns.length)∧0≤t∧t≤(Ai ns i).kids.length)∧
 MK ns.length (fun j=>Ld ns i j∨(Bd ns j≠19∧GW (Bd ns i)=true∧j∈(Ai ns i).kids.take t.toNat)) m
theorem a9M{ns:List Nd}(h:Oz ns):moI ns 0 (List.replicate ns.length false):=
 ⟨⟨h,by omega,by omega⟩,OA fun j hj=>by obtain⟨_,p,hp,_⟩:=hj;omega⟩
theorem a9N{ns:List Nd}{i:Int}{m:List Bool}(h:moI ns i m)(hi:i<ns.length):mnI ns i 0 m:=
 ⟨⟨⟨h.1.1,h.1.2.1,hi⟩,by omega,by omega⟩,GR h.2 fun j=>by simp⟩
theorem a0N{ns:List Nd}{i t c:Int}{m:List Bool}(h:mnI ns i t m)(hc:(Ai ns i).kids[t.toNat]? =some c):0≤c∧c<ns.length:=by
 have hn:=h.1.1.1.1 i.toNat (by have:=h.1.1;omega)
 rw[show((i.toNat:Nat):Int)=i by have:=h.1.1;omega] at hn
 have:=(DC hn).2.2.2.1 c (List.mem_of_getElem? hc)
 have:=h.1.1;omega
theorem a9O{ns:List Nd}{i t c:Int}{b:Bool}{m:List Bool}(h:mnI ns i t m)(ht:GW (Bd ns i)=true)(hc:(Ai ns i).kids[t.toNat]? =some c)(hb:b= !decide (Bd ns c=19)):mnI ns i (t+1) (m.set c.toNat b):=by
 have hk:=a0N h hc
 have hl:=(List.getElem?_eq_some_iff.1 hc).1
 have h2:=h.1.2
 refine⟨⟨h.1.1,by omega,by omega⟩,GR (a9L h.2 hk) fun j=> ?_⟩
 rw[show(t+1).toNat=t.toNat+1 by omega,List.take_add_one,hc]
 simp only[Option.toList,List.mem_append,List.mem_singleton]
 subst hb
 by_cases e:j=c
 ·subst e
  simp only[ne_eq,not_true,and_false,false_or,true_and,ht,or_true,and_true,Bool.not_eq_true',decide_eq_false_iff_not]
  constructor
  ·exact fun hh=> .inr hh
  ·rintro(hh|hh)
   ·exact hh.1
   ·exact hh
 ·simp only[ne_eq,e,not_false_eq_true,and_true,false_and,or_false]
theorem a0O{ns:List Nd}{i t:Int}{m:List Bool}(h:mnI ns i t m)(he:¬t<((Ai ns i).kids.length:Int)∨GW (Bd ns i)=false):moI ns (i+1) m:=by
 refine⟨⟨h.1.1.1,by have:=h.1.1;omega,by have:=h.1.1;omega⟩,GR h.2 fun j=> ?_⟩
 constructor
 ·rintro(⟨h1,p,h2,h3⟩|⟨h1,h2,h3⟩)
  ·exact⟨h1,p,by omega,h3⟩
  ·exact⟨h1,i,by have:=h.1.1;omega,h2,List.mem_of_mem_take h3⟩
 ·rintro⟨h1,p,h2,h3,h4⟩
  by_cases e:p=i
  ·subst e
   refine .inr ⟨h1,h3,?_⟩
   rcases he with he|he
   ·rw[List.take_of_length_le (by omega)];exact h4
   ·rw[he] at h3;cases h3
  ·exact .inl ⟨h1,p,by omega,h3,h4⟩
noncomputable def Cl (ns:List Nd):List Int:=if BC ns=true then DS (KX ns.length (Ld ns ns.length)) else []
theorem Rh{ns:List Nd}(h:Oz ns){i j:Int}(hi:i≤ns.length)(hj:Ld ns i j):0≤j∧j<ns.length:=by
 obtain⟨_,p,hp,_,hm⟩:=hj
 have hn:=h.1 p.toNat (by omega)
 rw[show((p.toNat:Nat):Int)=p by omega] at hn
 have:=(DC hn).2.2.2.1 j hm;omega
theorem a9P{ns:List Nd}{j:Int}:j∈Cl ns↔BC ns=true∧Ld ns ns.length j:=by
 by_cases ht:BC ns=true
 ·rw[Cl,if_pos ht,OC,(OF fun j hj=>Rh (Gj ht).1 (Int.le_refl _) hj).2];simp [ht]
 ·rw[Cl,if_neg ht];simp [ht]
theorem a0P{ns:List Nd}{j:Int}(h:j∈Cl ns):0≤j∧j<ns.length:=by
 obtain⟨h1,h2⟩:=a9P.1 h
 exact Rh (Gj h1).1 (Int.le_refl _) h2
theorem UQ{ns:List Nd}:(Cl ns).length≤ns.length:=by
 unfold Cl;split
 ·exact Nat.le_trans (QT _) (by simp [KX])
 ·simp
def Ir(ns:List Nd)(l:List Int):List Int:=l.filter fun c=> !decide (Bd ns c=19)
def Ef(ns:List Nd)(l:List Nd):List Int:=l.flatMap fun x=>if GW x.kind=true then Ir ns x.kids else []
theorem a0Q{ns:List Nd}{i:Int}{x:Nd}(h0:0≤i)(hx:ns[i.toNat]? =some x):Ef ns (ns.take (i+1).toNat)=Ef ns (ns.take i.toNat)++(if GW x.kind=true then Ir ns x.kids else []):=by
 rw[show(i+1).toNat=i.toNat+1 by omega,List.take_add_one,hx];simp [Ef]
theorem a0R{ns:List Nd}{l:List Int}{t c:Int}(h0:0≤t)(hc:l[t.toNat]? =some c):Ir ns (l.take (t+1).toNat)=Ir ns (l.take t.toNat)++(if Bd ns c=19 then [] else [c]):=by
 rw[show(t+1).toNat=t.toNat+1 by omega,List.take_add_one,hc]
 by_cases e:Bd ns c=19<;>simp [Ir,e]
theorem a0S{a:List Nd}{i:Int}(h0:0≤i)(h:i<a.length):a[i.toNat]? =some (Ai a i):=by
 have:i.toNat<a.length:=by omega
 simp [Ai,List.getD,this]
theorem a0T{ns:List Nd}{j:Int}:j∈Ef ns ns↔Ld ns ns.length j:=by
 simp only[Ef,List.mem_flatMap]
 constructor
 ·rintro⟨x,hx,hj⟩
  split at hj
  ·rename_i ht
   simp only[Ir,List.mem_filter,Bool.not_eq_true',decide_eq_false_iff_not] at hj
   obtain⟨p,hp⟩:=List.mem_iff_getElem?.1 hx
   have hn:Ai ns p=x:=Bg (by simpa using hp)
   have:=(List.getElem?_eq_some_iff.1 hp).1
   exact⟨hj.2,p,by omega,by rw[Bd,hn];exact ht,by rw[hn];exact hj.1⟩
  ·cases hj
 ·rintro⟨h1,p,h2,h3,h4⟩
  refine⟨Ai ns p,List.mem_of_getElem? (a0S h2.1 h2.2),?_⟩
  rw[Bd] at h3
  rw[if_pos h3]
  simp [Ir,h1,h4]
theorem a0U{α:Type}[DecidableEq α]:∀ {l:List α},(∀a,l.count a≤1)→l.Nodup
 |[],_=>List.Pairwise.nil
 |x::l,h=>by
  refine List.nodup_cons.2 ⟨fun hx=> ?_,a0U fun a=> ?_⟩
  ·have:=h x;rw[List.count_cons_self] at this
   have:=List.count_pos_iff.2 hx;omega
  ·have:=h a;rw[List.count_cons] at this;omega
theorem a0V{ns:List Nd}(a:Int):∀l:List Nd,(Ef ns l).count a≤(BW l).count a
 |[]=>by simp [Ef,BW]
 |x::l=>by
  have ih:=a0V (ns:=ns) a l
  simp only[Ef,BW,List.flatMap_cons,List.count_append] at ih ⊢
  have:List.count a (if GW x.kind=true then Ir ns x.kids else [])≤List.count a x.kids:=by
   split
   ·exact List.Sublist.count_le a (List.filter_sublist)
   ·simp
  omega
theorem a9Q{ns:List Nd}(h:BC ns=true):(Ef ns ns).Nodup:=by
 have t:=Gj h
 refine a0U fun a=> ?_
 have h1:=a0V (ns:=ns) a ns
 by_cases hm:a∈Ef ns ns
 ·obtain⟨_,p,hp,_,hk⟩:=a0T.1 hm
  have hn:=t.1.1 p.toNat (by omega)
  rw[show((p.toNat:Nat):Int)=p by omega] at hn
  have hb:=(DC hn).2.2.2.1 a hk
  have:=t.1.2 a.toNat (by omega)
  rw[show((a.toNat:Nat):Int)=a by omega] at this
  omega
 ·rw[List.count_eq_zero.2 hm];omega
theorem a9R{ns:List Nd}(h:BC ns=true):EM (Ef ns ns)=Cl ns:=by
 have hp:(EM (Ef ns ns)).Perm (Ef ns ns):=List.mergeSort_perm _ _
 have hs:(EM (Ef ns ns)).Pairwise (fun a b=>decide (a≤b)=true):=List.pairwise_mergeSort (fun a b c h1 h2=>by simp at*;omega) (fun a b=>by simp;omega) _
 have hn:(EM (Ef ns ns)).Nodup:=hp.nodup_iff.2 (a9Q h)
 have hlt:(EM (Ef ns ns)).Pairwise (· < ·):=by
  refine(hs.and hn).imp fun {a b} hh=> ?_
  have h1:=hh.1;have h2:=hh.2
  simp at h1
  exact(by omega:a<b)
 rw[Cl,if_pos h]
 refine Zq hlt (OD _ 0) fun j=> ?_
 show _↔j∈DS _
 rw[hp.mem_iff,a0T,OC,(OF fun j hj=>Rh (Gj h).1 (Int.le_refl _) hj).2]
def Ev(b:List UInt8)(n:Int):List UInt8:=if n≤1 then b else b++Ee n
def DU(ns:List Nd)(s:List UInt8):Bool:=ns.any fun x=>x.text==s
def frF(ns:List Nd)(b:List UInt8):Nat→Int→List UInt8
 |0,_=>[]
 |f+1,n=>if DU ns (Ev b n)=true then frF ns b f (n+1) else Ev b n
def Ew(ns:List Nd)(b:List UInt8):List UInt8:=if Cm b=true∧b.length≤20 then frF ns b (ns.length+1) 1 else []
def fsI(ns:List Nd)(b:List UInt8)(n:Int):Prop:=((Cm b=true∧b.length≤20)∧1≤n∧n≤ns.length+2)∧frF ns b ((ns.length:Int)+2-n).toNat n=Ew ns b∧∀m:Int,1≤m→m<n→DU ns (Ev b m)=true
theorem a0W{ns:List Nd}{b:List UInt8}(h:Cm b=true)(hl:b.length≤20):fsI ns b 1:=by
 refine⟨⟨⟨h,hl⟩,by omega,by omega⟩,?_,fun m h1 h2=>by omega⟩
 rw[Ew,if_pos ⟨h,hl⟩,show((ns.length:Int)+2-1).toNat=ns.length+1 by omega]
theorem a0X{ns:List Nd}{b:List UInt8}{n:Int}(h:fsI ns b n)(hn:n≤ns.length+1)(hh:DU ns (Ev b n)=false):Ev b n=Ew ns b:=by
 rw[←h.2.1,show((ns.length:Int)+2-n).toNat=((ns.length:Int)+1-n).toNat+1 by omega,frF,hh];simp
theorem a0Y{ns:List Nd}{b:List UInt8}{n:Int}(h:fsI ns b n)(hn:n≤ns.length+1)(hh:DU ns (Ev b n)=true):fsI ns b (n+1):=by
 refine⟨⟨h.1.1,by have:=h.1;omega,by have:=h.1;omega⟩,?_,fun m h1 h2=> ?_⟩
 ·rw[←h.2.1,show((ns.length:Int)+2-n).toNat=((ns.length:Int)+2-(n+1)).toNat+1 by omega,frF,hh];simp
 ·by_cases e:m=n
  ·rw[e];exact hh
  ·exact h.2.2 m h1 (by omega)
theorem a9S{ns:List Nd}{b:List UInt8}{n:Int}(h:fsI ns b n)(hn:¬n≤(ns.length:Int)+1):([]:List UInt8)=Ew ns b:=by
 rw[←h.2.1,show((ns.length:Int)+2-n).toNat=0 by omega,frF]
theorem a0Z{ns:List Nd}{b:List UInt8}(h:¬(Cm b=true∧b.length≤20)):([]:List UInt8)=Ew ns b:=by rw[Ew,if_neg h]
theorem a1a{α:Type}[DecidableEq α]:∀ {l t:List α},l.Nodup→(∀x∈l,x∈t)→l.length≤t.length
 |[],_,_,_=>by simp
 |a::l,t,h,hs=>by
  rw[List.nodup_cons] at h
  have ha:=hs a (by simp)
  have:=a1a (t:=t.erase a) h.2 fun x hx=>(List.mem_erase_of_ne (fun e=>by subst e;exact h.1 hx)).2 (hs x (by simp [hx]))
  rw[List.length_erase_of_mem ha] at this
  have:=List.length_pos_of_mem ha
  simp only[List.length_cons];omega
theorem a1b:∀(n:Nat) {a b:Nat},a≤n→dgt a=dgt b→a=b
 |n,a,b,hn,h=>by
  by_cases ha:0<a
  ·by_cases hb:0<b
   ·rw[Lb ha,Lb hb] at h
    have h1:=List.append_inj' h rfl
    have h2:a/10=b/10:=by
     cases n with
     |zero=>omega
     |succ n=>exact a1b n (by omega) h1.1
    have h3:UInt8.ofNat (48+a % 10)=UInt8.ofNat (48+b % 10):=by simpa using h1.2
    have h4:=congrArg UInt8.toNat h3
    simp at h4;omega
   ·have:b=0:=by omega
    subst this
    rw[Lb ha] at h;simp [dgt] at h
  ·have:a=0:=by omega
   subst this
   by_cases hb:0<b
   ·rw[Lb hb] at h;simp [dgt] at h
   ·omega
theorem a9T{b:List UInt8}{m n:Int}(hm:1≤m)(hn:1≤n)(h:Ev b m=Ev b n):m=n:=by
 have hpos:∀k:Int,1<k→Ee k≠[]:=fun k hk e=>by
  rw[OV (by omega),Lb (by omega)] at e;simp at e
 unfold Ev at h
 split at h<;>split at h
 ·omega
 ·exact(hpos n (by omega) (by simpa using h.symm)).elim
 ·exact(hpos m (by omega) (by simpa using h)).elim
 ·have:=List.append_cancel_left h
  rw[OV (by omega),OV (by omega)] at this
  have:=a1b _ (Nat.le_refl _) this;omega
theorem UR{ns:List Nd}{b:List UInt8}{n:Int}(h:fsI ns b n):n≤ns.length+1:=by
 have:=a1a (l:=(List.range (n-1).toNat).map fun(i:Nat)=>Ev b ((i:Int)+1)) (t:=ns.map (·.text)) ?_ ?_
 ·simp at this;have:=h.1;omega
 ·refine List.pairwise_map.2 ((List.nodup_range).imp fun {i j} hij e=>hij ?_)
  have:=a9T (by omega) (by omega) e;omega
 ·intro x hx
  obtain⟨i,hi,rfl⟩:=List.mem_map.1 hx
  rw[List.mem_range] at hi
  have hh:=h.2.2 ((i:Int)+1) (by omega) (by omega)
  simp only[DU,List.any_eq_true,beq_iff_eq] at hh
  obtain⟨y,hy,he⟩:=hh
  exact List.mem_map.2 ⟨y,hy,he⟩
theorem a1c{b:List UInt8}{n:Int}(hb:b.length≤20)(h0:0≤n)(hn:n≤999999999):(Ev b n).length≤29:=by
 unfold Ev;split
 ·omega
 ·rw[List.length_append];have:=a0L h0 hn;omega
def rnF(ns:List Nd)(S:List Int)(from' to:List UInt8):List Nd:=ns.mapIdx fun j x=>if(S.elem (j:Int)&&(Dg x.kind&&x.text==from'))=true then {x with text:=to} else x
theorem US{ns:List Nd}{S:List Int}{a b:List UInt8}:(rnF ns S a b).length=ns.length:=by simp [rnF]
theorem Le{ns:List Nd}{S:List Int}{a b:List UInt8}{j:Nat}:(rnF ns S a b)[j]? =ns[j]?.map fun x=>if(S.elem (j:Int)&&(Dg x.kind&&x.text==a))=true then {x with text:=b} else x:=by
 simp [rnF,List.getElem?_mapIdx]
theorem a9U{ns:List Nd}{a b:List UInt8}:rnF ns [] a b=ns:=by
 apply List.ext_getElem?;intro j;rw[Le];cases ns[j]? <;>simp
theorem a9V{ns:List Nd}{L:List Int}{a b:List UInt8}{i c:Int}{x y:Nd}(h0:0≤i)(hc:L[i.toNat]? =some c)(hb:0≤c)(hx:ns[c.toNat]? =some x)(hn:L.Nodup)(hm:(Dg x.kind&&x.text==a)=true)(hy:y= {x with text:=b}):(rnF ns (L.take i.toNat) a b).set c.toNat y=rnF ns (L.take (i+1).toNat) a b:=by
 apply List.ext_getElem?;intro j
 rw[Le,List.getElem?_set,Le,show(i+1).toNat=i.toNat+1 by omega,List.take_add_one,hc]
 by_cases e:c.toNat=j
 ·subst e
  have hl:=(List.getElem?_eq_some_iff.1 hx).1
  rw[if_pos rfl,if_pos (by rw[US];exact hl),hx]
  have:((c.toNat:Nat):Int)=c:=by omega
  simp only[Option.map_some,Option.toList,this,hy,hm,Bool.and_true]
  rw[if_pos (by simp)]
 ·rw[if_neg e]
  have:((j:Nat):Int)≠c:=by omega
  congr 1;funext z
  simp [this]
theorem a1d{ns:List Nd}{L:List Int}{a b:List UInt8}{i c:Int}{x:Nd}(h0:0≤i)(hc:L[i.toNat]? =some c)(hb:0≤c)(hx:ns[c.toNat]? =some x)(hm:(Dg x.kind&&x.text==a)=false):rnF ns (L.take i.toNat) a b=rnF ns (L.take (i+1).toNat) a b:=by
 apply List.ext_getElem?;intro j
 rw[Le,Le,show(i+1).toNat=i.toNat+1 by omega,List.take_add_one,hc]
 by_cases e:c.toNat=j
 ·subst e;rw[hx];simp only[Option.map_some,hm,Bool.and_false]
 ·have:((j:Nat):Int)≠c:=by omega
  congr 1;funext z
  simp [this]
theorem a9W(m:List Bool):(DS m).Nodup:=(OD m 0).imp fun h=>by omega
theorem a1e{ns:List Nd}{k:Int}:(Ah ns k).Nodup:=by unfold Ah;split;exact List.Pairwise.nil;exact a9W _
theorem a9X{ns:List Nd}{L:List Int}{a b:List UInt8}{i c:Int}{x:Nd}(h0:0≤i)(hc:L[i.toNat]? =some c)(hb:0≤c)(hn:L.Nodup)(hx:(rnF ns (L.take i.toNat) a b)[c.toNat]? =some x):ns[c.toNat]? =some x:=by
 rw[Le] at hx
 rw[←hx]
 cases hh:ns[c.toNat]? with
 |none=>rfl
 |some y=>
  have:(L.take i.toNat).elem c=false:=by
   rw[Bool.eq_false_iff];intro hm
   have hm:=List.elem_iff.1 hm
   obtain⟨q,hq,he⟩:=List.mem_iff_getElem.1 hm
   rw[List.length_take] at hq
   have hl:=(List.getElem?_eq_some_iff.1 hc)
   obtain⟨hl1,hl2⟩:=hl
   rw[List.getElem_take] at he
   have:=(List.getElem_inj hn).1 (he.trans hl2.symm)
   omega
  simp only[Option.map_some,show((c.toNat:Nat):Int)=c by omega,this,Bool.false_and,Bool.false_eq_true,if_false]
end Go.My
end
section
set_option linter.unusedVariables false
set_option linter.unusedSimpArgs false
namespace Go.My
open Go.Eng Go.Proofs
variable {G:GInv}
def mmO(x:List Nd)(i:Int)(o:List Int):Prop:=(((BC x=true∧x.length≤300)∧0≤i∧i≤x.length)∧o.length≤12*i)∧o=Ef x (x.take i.toNat)
def mmI(x:List Nd)(i t:Int)(o:List Int):Prop:=(((BC x=true∧x.length≤300)∧0≤i∧i<x.length)∧(0≤t∧t≤(Ai x i).kids.length)∧o.length≤12*i+t)∧GW (Bd x i)=true∧o=Ef x (x.take i.toNat)++Ir x ((Ai x i).kids.take t.toNat)
theorem a1f{x:List Nd}{i:Int}(h:BC x=true)(h0:0≤i∧i<x.length):(Ai x i).kids.length≤12:=by
 have hn:=(Gj h).1.1 i.toNat (by omega)
 rw[show((i.toNat:Nat):Int)=i by omega] at hn
 exact(DC hn).2.1
theorem a9Y{x:List Nd}(h:BC x=true):mmO x 0 []:=⟨⟨⟨⟨h,(Gj h).2.2.1⟩,by omega,by omega⟩,by simp⟩,by simp [Ef]⟩
theorem a9Z{x:List Nd}{i:Int}{o:List Int}(h:mmO x i o):((0≤i∧i≤x.length)∧x.length≤300)∧o.length≤12*i:=⟨⟨h.1.1.2,h.1.1.1.2⟩,h.1.2⟩
theorem a1g{x:List Nd}{i t:Int}{o:List Int}(h:mmI x i t o):(((0≤i∧i<x.length)∧x.length≤300)∧(0≤t∧t≤(Ai x i).kids.length)∧(Ai x i).kids.length≤12)∧o.length≤12*i+t:=
 ⟨⟨⟨h.1.1.2,h.1.1.1.2⟩,h.1.2.1,a1f h.1.1.1.1 h.1.1.2⟩,h.1.2.2⟩
theorem MC{x:List Nd}{i:Int}{e:Nd}(he:x[i.toNat]? =some e):Bd x i=e.kind:=by rw[Bd,Bg he]
theorem b0a{x:List Nd}{i:Int}{o:List Int}{e:Nd}(h:mmO x i o)(he:x[i.toNat]? =some e)(h1:e.kind≠21)(h2:e.kind≠22):mmO x (i+1) o:=by
 have hl:=(List.getElem?_eq_some_iff.1 he).1
 obtain⟨⟨⟨h3,h4⟩,h5⟩,h6⟩:=h
 refine⟨⟨⟨h3,by omega,by omega⟩,by omega⟩,?_⟩
 rw[a0Q h4.1 he,←h6,GW,decide_eq_false h1,decide_eq_false h2];simp
theorem a1h{x:List Nd}{i:Int}{o:List Int}{e:Nd}(h:mmO x i o)(he:x[i.toNat]? =some e)(hk:e.kind=21∨e.kind=22):mmI x i 0 o:=by
 have hl:=(List.getElem?_eq_some_iff.1 he).1
 obtain⟨⟨⟨h3,h4⟩,h5⟩,h6⟩:=h
 refine⟨⟨⟨h3,h4.1,by omega⟩,⟨by omega,by omega⟩,by omega⟩,?_,by simp [Ir,h6]⟩
 rw[MC he,GW];rcases hk with hk|hk<;>simp [hk]
theorem b0b{x:List Nd}{i:Int}{o:List Int}{e:Nd}(h:mmO x i o)(he:x[i.toNat]? =some e)(hk:e.kind=21):mmI x i 0 o:=a1h h he (.inl hk)
theorem b0c{x:List Nd}{i:Int}{o:List Int}{e:Nd}(h:mmO x i o)(he:x[i.toNat]? =some e)(hk:e.kind=22):mmI x i 0 o:=a1h h he (.inr hk)
theorem b0d{x:List Nd}{i t c:Int}{o:List Int}(h:mmI x i t o)(hc:(Ai x i).kids[t.toNat]? =some c):0≤c∧c<x.length:=by
 have hi:=h.1.1.2
 have hn:=(Gj h.1.1.1.1).1.1 i.toNat (by omega)
 rw[show((i.toNat:Nat):Int)=i by omega] at hn
 have:=(DC hn).2.2.2.1 c (List.mem_of_getElem? hc)
 omega
theorem b0e{x:List Nd}{i t c:Int}{o:List Int}{e:Nd}(h:mmI x i t o)(hc:(Ai x i).kids[t.toNat]? =some c)(he:x[c.toNat]? =some e)(hk:e.kind≠19):mmI x i (t+1) (o++[c]):=by
 have hl:=(List.getElem?_eq_some_iff.1 hc).1
 obtain⟨⟨h1,h2,h3⟩,h4,h5⟩:=h
 refine⟨⟨h1,by omega,by rw[List.length_append];simp;omega⟩,h4,?_⟩
 rw[a0R h2.1 hc,MC he,if_neg hk,h5];simp
theorem b0f{x:List Nd}{i t c:Int}{o:List Int}{e:Nd}(h:mmI x i t o)(hc:(Ai x i).kids[t.toNat]? =some c)(he:x[c.toNat]? =some e)(hk:e.kind=19):mmI x i (t+1) o:=by
 have hl:=(List.getElem?_eq_some_iff.1 hc).1
 obtain⟨⟨h1,h2,h3⟩,h4,h5⟩:=h
 refine⟨⟨h1,by omega,by omega⟩,h4,?_⟩
 rw[a0R h2.1 hc,MC he,if_pos hk,h5];simp
theorem b0g{x:List Nd}{i t:Int}{o:List Int}(h:mmI x i t o)(hl:¬t<((Ai x i).kids.length:Int)):mmO x (i+1) o:=by
 have hb:=a1g h
 obtain⟨⟨h1,h2,h3⟩,h4,h5⟩:=h
 refine⟨⟨⟨h1.1,by omega,by omega⟩,by omega⟩,?_⟩
 have he:x[i.toNat]? =some (Ai x i):=a0S h1.2.1 h1.2.2
 rw[a0Q h1.2.1 he,h5,List.take_of_length_le (l:=(Ai x i).kids) (by omega)]
 rw[Bd] at h4;rw[if_pos h4]
theorem b0h{x:List Nd}{i:Int}{o:List Int}(h:mmO x i o)(hl:¬i<(x.length:Int)):EM o=Cl x:=by
 rw[h.2,List.take_of_length_le (by omega)];exact a9R h.1.1.1.1
theorem Ri{x:List Nd}(h:BC x=false):([]:List Int)=Cl x:=by rw[Cl,if_neg (by rw[h];simp)]
def mmK(x:List Nd)(i:Int×List Int):LS:= {
 ι:=Int×List Int,inv:=fun j=>mmI x i.1 j.1 j.2,
 regs:=fun j=>[(0,nds x),(3,Ab j.2),(11,nds x),(12,.int .i64 x.length),(13,.int .i64 i.1),(26,Aq (Ai x i.1).kids),(27,.int .i64 (Ai x i.1).kids.length),(28,.int .i64 j.1)],als:=[],meas:=fun j=>(Ai x i.1).kids.length-j.1.toNat}
def mmL(x:List Nd):LS:= {
 ι:=Int×List Int,inv:=fun i=>mmO x i.1 i.2,
 regs:=fun i=>[(0,nds x),(3,Ab i.2),(11,nds x),(12,.int .i64 x.length),(13,.int .i64 i.1)],als:=[],meas:=fun i=>x.length-i.1.toNat,sub:=fun i=>[(9,mmK x i)]}
def smI(x:List Nd)(m:List Bool)(i:Int)(o:List Int):Prop:=(((BC x=true∧x.length≤300)∧m.length=x.length)∧0≤i∧i≤m.length)∧MK x.length (Ld x x.length) m∧o=DS (m.take i.toNat)
theorem b0i{x:List Nd}{m:List Bool}{i:Int}(ht:BC x=true)(h:moI x i m)(hl:¬i<(x.length:Int)):smI x m 0 []:=by
 have e:i=x.length:=by have:=h.1;omega
 subst e
 exact⟨⟨⟨⟨ht,(Gj ht).2.2.1⟩,h.2.1⟩,by omega,by omega⟩,h.2,by simp [DS,EL]⟩
theorem b0j{x:List Nd}{m:List Bool}{i:Int}{o:List Int}(h:smI x m i o):((0≤i∧i≤m.length)∧m.length≤300)∧o.length≤m.length:=by
 refine⟨⟨h.1.2,by rw[h.1.1.2];exact h.1.1.1.2⟩,?_⟩
 rw[h.2.2];exact Nat.le_trans (QT _) (by rw[List.length_take];omega)
theorem b0k{x:List Nd}{m:List Bool}{i:Int}{o:List Int}{b:Bool}(h:smI x m i o)(hb:m[i.toNat]? =some b)(ht:b=true):smI x m (i+1) (o++[i]):=by
 have hl:=(List.getElem?_eq_some_iff.1 hb).1
 obtain⟨⟨h1,h2⟩,h3,h4⟩:=h
 subst ht
 exact⟨⟨h1,by omega,by omega⟩,h3,by rw[QS h2.1 hb,h4];simp⟩
theorem b0l{x:List Nd}{m:List Bool}{i:Int}{o:List Int}{b:Bool}(h:smI x m i o)(hb:m[i.toNat]? =some b)(ht:b=false):smI x m (i+1) o:=by
 have hl:=(List.getElem?_eq_some_iff.1 hb).1
 obtain⟨⟨h1,h2⟩,h3,h4⟩:=h
 subst ht
 exact⟨⟨h1,by omega,by omega⟩,h3,by rw[QS h2.1 hb,h4];simp⟩
theorem b0m{x:List Nd}{m:List Bool}{i:Int}{o:List Int}(h:smI x m i o)(hl:¬i<(m.length:Int)):o=Cl x:=by
 have ht:=h.1.1.1.1
 rw[h.2.2,List.take_of_length_le (by omega),Cl,if_pos ht]
 exact Zs h.2.1 (OF fun j hj=>Rh (Gj ht).1 (Int.le_refl _) hj)
def moJ(x:List Nd)(i:Int)(m:List Bool):Prop:=moI x i m∧BC x=true
def mnJ(x:List Nd)(i t:Int)(m:List Bool):Prop:=mnI x i t m∧BC x=true
theorem b0n{x:List Nd}(h:BC x=true):moJ x 0 (List.replicate x.length false):=⟨a9M (Gj h).1,h⟩
theorem b0o{x:List Nd}{i:Int}{m:List Bool}(h:moJ x i m):((0≤i∧i≤x.length)∧x.length≤300)∧m.length=x.length:=⟨⟨h.1.1.2,(Gj h.2).2.2.1⟩,h.1.2.1⟩
theorem UT{x:List Nd}{i t:Int}{m:List Bool}(h:mnJ x i t m):(((0≤i∧i<x.length)∧x.length≤300)∧(0≤t∧t≤(Ai x i).kids.length)∧(Ai x i).kids.length≤12)∧m.length=x.length:=
 ⟨⟨⟨h.1.1.1.2,(Gj h.2).2.2.1⟩,h.1.1.2,a1f h.2 h.1.1.1.2⟩,h.1.2.1⟩
theorem b0p{x:List Nd}{i:Int}{m:List Bool}(h:moJ x i m)(hi:i<x.length):mnJ x i 0 m:=⟨a9N h.1 hi,h.2⟩
theorem b0q{x:List Nd}{i t c:Int}{m:List Bool}{e:Nd}(h:mnJ x i t m)(he:x[i.toNat]? =some e)(hc:e.kids[t.toNat]? =some c):0≤c∧c<x.length:=a0N h.1 (by rw[Bg he];exact hc)
theorem a1i{x:List Nd}{i t c:Int}{m:List Bool}{e y:Nd}{b:Bool}(h:mnJ x i t m)(he:x[i.toNat]? =some e)(hk:e.kind=22∨e.kind=21)(hc:e.kids[t.toNat]? =some c)(hy:x[c.toNat]? =some y)(hb:b=(y.kind != 19)):mnJ x i (t+1) (m.set c.toNat b):=by
 refine⟨a9O h.1 ?_ (by rw[Bg he];exact hc) ?_,h.2⟩
 ·rw[MC he,GW];rcases hk with hk|hk<;>simp [hk]
 ·rw[MC hy,hb];rfl
theorem b0r{x:List Nd}{i t:Int}{m:List Bool}{e:Nd}(h:mnJ x i t m)(he:x[i.toNat]? =some e)(hl:¬t<(e.kids.length:Int)):moJ x (i+1) m:=⟨a0O h.1 (.inl (by rw[Bg he];exact hl)),h.2⟩
theorem b0s{x:List Nd}{i t:Int}{m:List Bool}{e:Nd}(h:mnJ x i t m)(he:x[i.toNat]? =some e)(h1:e.kind≠22)(h2:e.kind≠21):moJ x (i+1) m:=⟨a0O h.1 (.inr (by rw[MC he,GW,decide_eq_false h1,decide_eq_false h2];rfl)),h.2⟩
theorem b0t{x:List Nd}{i:Int}{m:List Bool}(h:moJ x i m)(hl:¬i<(x.length:Int)):smI x m 0 []:=b0i h.2 h.1 hl
theorem b0u{x:List Nd}{i t:Int}{m:List Bool}{e:Nd}(h:mnJ x i t m)(he:x[i.toNat]? =some e):(Ai x i).kids=e.kids:=by rw[Bg he]
noncomputable def msC (x:List Nd) (i:Int×List Bool) (j:Int×List Bool):LS:= {
 ι:=List Bool×Unit,inv:=fun q=>mnJ x i.1 (j.1+1) q.1,
 regs:=fun q=>[(0,nds x),(3,Ab []),(4,BO q.1),(5,.int .i64 i.1),(6,.int .i64 j.1)],als:=[],meas:=fun _=>0}
noncomputable def msK (x:List Nd) (i:Int×List Bool):LS:= {
 ι:=Int×List Bool,inv:=fun j=>mnJ x i.1 j.1 j.2,
 regs:=fun j=>[(0,nds x),(3,Ab []),(4,BO j.2),(5,.int .i64 i.1),(6,.int .i64 j.1)],als:=[],meas:=fun j=>(Ai x i.1).kids.length-j.1.toNat,sub:=fun j=>[(100011,msC x i j)]}
noncomputable def msL (x:List Nd):LS:= {
 ι:=Int×List Bool,inv:=fun i=>moJ x i.1 i.2,regs:=fun i=>[(0,nds x),(3,Ab []),(4,BO i.2),(5,.int .i64 i.1)],als:=[],meas:=fun i=>x.length-i.1.toNat,sub:=fun i=>[(9,msK x i)]}
attribute [local irreducible] mmO mmI Cl smI moJ mnJ BC
noncomputable def It:Sig:= {X:=List Nd×Unit,args:=fun x=>[nds x.1],pre:=fun x=>Be x.1∧x.1.length≤2^30,Y:=Unit,post:=fun x y=>True,res:=fun x y=>Ab (Cl x.1),outs:=fun x y=>[.top],keep:=false}
theorem a1j:Am G Tryz.prog 46 It:=
 vcFun_okP [(13,0,Ih),(97,0,La)] [(26,⟨Int,Bj⟩)] false (fun x=>[(5,mmL x.1)]) Tryz.func46 rfl (by decide) ⟨a7z,a9C,trivial⟩ (fun(x:List Nd×Unit)=>(∀(y:Unit),True→(∀(x:Int),True∧True)∧True∧True)∧cA Ih [nds x.1] fun x_1 y=>Aa (!BC x_1) (rA It x [.nil,.top]) (eA (mmL x.1) [nds x.1,.nil,nds x.1,.int .i64 (↑(List.length x.1):Int),.int .i64 (0:Int)]∧∀(i:Int×List Int),mmO x.1 i.1 i.2→Aa (decide (i.1<(↑(List.length x.1):Int))) (((0:Int)≤i.1∧i.1<(↑(List.length x.1):Int))∧∀(e:Nd),x.1[Int.toNat i.1]? =some e→Aa (e.kind != (21:Int)) (Aa (e.kind != (22:Int)) (inR IntKind.i64 (i.1+(1:Int))∧eN (mmL x.1) i [nds x.1,Ab i.2,nds x.1,.int .i64 (↑(List.length x.1):Int),.int .i64 (i.1+(1:Int))]) (eA (mmK x.1 i) [nds x.1,Ab i.2,nds x.1,.int .i64 (↑(List.length x.1):Int),.int .i64 i.1,Aq e.kids,.int .i64 (↑(List.length e.kids):Int),.int .i64 (0:Int)]∧∀(i_1:Int×List Int),mmI x.1 i.1 i_1.1 i_1.2→Aa (decide (i_1.1<(↑(List.length (Ai x.1 i.1).kids):Int))) (((0:Int)≤i_1.1∧i_1.1<(↑(List.length (Ai x.1 i.1).kids):Int))∧∀(e:Int),(Ai x.1 i.1).kids[Int.toNat i_1.1]? =some e→((0:Int)≤e∧e<(↑(List.length x.1):Int))∧∀(e_1:Nd),x.1[Int.toNat e]? =some e_1→Aa (e_1.kind != (19:Int)) (∃(x_2:Int),e=x_2∧∃(zs:List Int),Ab [x_2]=Ab zs∧BF Bj∧Ba (List.length i_1.2+List.length zs) (8:Nat)∧inR IntKind.i64 (i_1.1+(1:Int))∧eN (mmK x.1 i) i_1 [nds x.1,Ab (i_1.2++zs),nds x.1,.int .i64 (↑(List.length x.1):Int),.int .i64 i.1,Aq (Ai x.1 i.1).kids,.int .i64 (↑(List.length (Ai x.1 i.1).kids):Int),.int .i64 (i_1.1+(1:Int))]) (inR IntKind.i64 (i_1.1+(1:Int))∧eN (mmK x.1 i) i_1 [nds x.1,Ab i_1.2,nds x.1,.int .i64 (↑(List.length x.1):Int),.int .i64 i.1,Aq (Ai x.1 i.1).kids,.int .i64 (↑(List.length (Ai x.1 i.1).kids):Int),.int .i64 (i_1.1+(1:Int))])) (inR IntKind.i64 (i.1+(1:Int))∧eN (mmL x.1) i [nds x.1,Ab i_1.2,nds x.1,.int .i64 (↑(List.length x.1):Int),.int .i64 (i.1+(1:Int))]))) (eA (mmK x.1 i) [nds x.1,Ab i.2,nds x.1,.int .i64 (↑(List.length x.1):Int),.int .i64 i.1,Aq e.kids,.int .i64 (↑(List.length e.kids):Int),.int .i64 (0:Int)]∧∀(i_1:Int×List Int),mmI x.1 i.1 i_1.1 i_1.2→Aa (decide (i_1.1<(↑(List.length (Ai x.1 i.1).kids):Int))) (((0:Int)≤i_1.1∧i_1.1<(↑(List.length (Ai x.1 i.1).kids):Int))∧∀(e:Int),(Ai x.1 i.1).kids[Int.toNat i_1.1]? =some e→((0:Int)≤e∧e<(↑(List.length x.1):Int))∧∀(e_1:Nd),x.1[Int.toNat e]? =some e_1→Aa (e_1.kind != (19:Int)) (∃(x_2:Int),e=x_2∧∃(zs:List Int),Ab [x_2]=Ab zs∧BF Bj∧Ba (List.length i_1.2+List.length zs) (8:Nat)∧inR IntKind.i64 (i_1.1+(1:Int))∧eN (mmK x.1 i) i_1 [nds x.1,Ab (i_1.2++zs),nds x.1,.int .i64 (↑(List.length x.1):Int),.int .i64 i.1,Aq (Ai x.1 i.1).kids,.int .i64 (↑(List.length (Ai x.1 i.1).kids):Int),.int .i64 (i_1.1+(1:Int))]) (inR IntKind.i64 (i_1.1+(1:Int))∧eN (mmK x.1 i) i_1 [nds x.1,Ab i_1.2,nds x.1,.int .i64 (↑(List.length x.1):Int),.int .i64 i.1,Aq (Ai x.1 i.1).kids,.int .i64 (↑(List.length (Ai x.1 i.1).kids):Int),.int .i64 (i_1.1+(1:Int))])) (inR IntKind.i64 (i.1+(1:Int))∧eN (mmL x.1) i [nds x.1,Ab i_1.2,nds x.1,.int .i64 (↑(List.length x.1):Int),.int .i64 (i.1+(1:Int))]))) (cA La [Ab i.2] fun x_2 y=>rA It x [Ab (EM x_2),.top]))) (fun x=>by kernel_rfl) fun(x:List Nd×Unit) (hx:Be x.1∧x.1.length≤2^30)=>(by
 dsimp only[cA,eA,eN,Aq,mmK,mmL,Bn,nds,Ab,rA,It,Ih,La,Au,Ax,mvL,lnL,mvE,lnE,Bm]
 obtain⟨x,_⟩:=x;dsimp only at hx ⊢
 obtain⟨h1,h2⟩:=hx
 (repeat' first|(with_reducible first|rfl|exact True.intro|apply AJ|apply And.intro|((first|apply Az|apply AH|apply AA|apply AI)<;>intro _))|(apply Av<;>intro _)|apply AG|refine Af () ?_ ?_|((first|apply AO|apply AN|apply AM|apply AL|apply AF|apply AE|apply AD|apply AC|apply AB)<;>try dsimp only)|apply Af|(refine Prod.forall.2 ?_;intro _;try dsimp only)|(intro _;try dsimp only))
 all_goals(try(repeat(rename(_:List Nd)[_]? =some _=>hq;revert hq;rename(_:List Nd)[_]? =some _=>hr;intro hq;rw[hr] at hq;cases hq)))
 all_goals(try(have hB:=a9Z (show mmO _ _ _ by assumption)))
 all_goals(try(have hC:=a1g (show mmI _ _ _ _ by assumption)))
 all_goals first
  |rfl
  |omega
  |exact()
  |exact h1
  |exact h2
  |exact(Ri ‹_›).symm
  |exact Ri ‹_›
  |exact a9Y ‹_›
  |exact b0a ‹_› ‹_› ‹_› ‹_›
  |exact b0b ‹_› ‹_› ‹_›
  |exact b0c ‹_› ‹_› ‹_›
  |(rw[Bg ‹_›];done)
  |(have hq:=b0d (show mmI _ _ _ _ by assumption) ‹_›;omega)
  |exact b0e ‹_› ‹_› ‹_› ‹_›
  |exact b0f ‹_› ‹_› ‹_› ‹_›
  |exact b0g ‹_› ‹_›
  |exact b0h ‹_› ‹_›
  |((try simp only[AR,Ba,List.length_cons,List.length_nil]);omega)
  |skip)
noncomputable def Gk:Sig:= {X:=List Nd×Unit,args:=fun x=>[nds x.1],pre:=fun x=>Be x.1∧x.1.length≤2^30,Y:=Unit,post:=fun x y=>True,res:=fun x y=>Ab (Cl x.1),outs:=fun x y=>[.top],keep:=false}
noncomputable def OX (x:List Nd×Unit):LS:= {ι:=List Bool×Int×List Int,inv:=fun i=>smI x.1 i.1 i.2.1 i.2.2,regs:=fun i=>[(3,Ab i.2.2),(4,BO i.1),(7,.int .i64 i.2.1)],als:=[],meas:=fun i=>i.1.length-i.2.1.toNat}
theorem UU:Am G Tryz.prog 47 Gk:=
 vcFun_okP [(17,0,FK)] [(26,⟨Int,Bj⟩),(76,⟨Bool,Bo⟩)] false (fun x=>[(6,msL x.1),(13,OX x)]) Tryz.func47 rfl (by decide) ⟨Zo,trivial⟩ (fun(x:List Nd×Unit)=>(∀(y:Unit),True→(∀(x:Int),True∧True)∧True∧True)∧cA FK [nds x.1] fun x_1 y=>Aa (!BC x_1) (rA Gk x [Ab [],.top]) (((0:Int)≤(↑(List.length x.1):Int)∧(↑(List.length x.1):Int)≤(↑(List.length x.1):Int)∧(↑(1:Nat):Int)*(↑(List.length x.1):Int)≤(2:Int)^(46:Nat)∧(↑(List.length x.1):Int)≤(2:Int)^(46:Nat))∧∃(x_2:Bool),false=x_2∧eA (msL x.1) [nds x.1,Ab [],AV.sl true (0:Nat) (1:Nat) Bool Bo (List.replicate (Int.toNat (↑(List.length x.1):Int)) x_2),.int .i64 (0:Int)]∧∀(i:Int×List Bool),moJ x.1 i.1 i.2→Aa (decide (i.1<(↑(List.length x.1):Int))) (eA (msK x.1 i) [nds x.1,Ab [],AV.sl true (0:Nat) (1:Nat) Bool Bo i.2,.int .i64 i.1,.int .i64 (0:Int)]∧∀(i_1:Int×List Bool),mnJ x.1 i.1 i_1.1 i_1.2→((0:Int)≤i.1∧i.1<(↑(List.length x.1):Int))∧∀(e:Nd),x.1[Int.toNat i.1]? =some e→Aa (decide (i_1.1<(↑(List.length e.kids):Int))) (((0:Int)≤i.1∧i.1<(↑(List.length x.1):Int))∧∀(e:Nd),x.1[Int.toNat i.1]? =some e→Aa (e.kind==(22:Int)) (true=true∧(((0:Int)≤i.1∧i.1<(↑(List.length x.1):Int))∧∀(e:Nd),x.1[Int.toNat i.1]? =some e→((0:Int)≤i_1.1∧i_1.1<(↑(List.length e.kids):Int))∧∀(e_1:Int),e.kids[Int.toNat i_1.1]? =some e_1→((0:Int)≤i.1∧i.1<(↑(List.length x.1):Int))∧∀(e:Nd),x.1[Int.toNat i.1]? =some e→((0:Int)≤i_1.1∧i_1.1<(↑(List.length e.kids):Int))∧∀(e_2:Int),e.kids[Int.toNat i_1.1]? =some e_2→((0:Int)≤e_2∧e_2<(↑(List.length x.1):Int))∧∀(e:Nd),x.1[Int.toNat e_2]? =some e→((0:Int)≤e_1∧e_1<(↑(List.length i_1.2):Int))∧Int.toNat e_1<List.length i_1.2∧∀(x_3:Bool),i_1.2[Int.toNat e_1]? =some x_3→∃(x':Bool),((@List.nil AV)=[]∧(@List.nil AV)=[])∧(e.kind != (19:Int))=x'∧true=true∧eA (msC x.1 i i_1) [nds x.1,Ab [],AV.sl true (0:Nat) (1:Nat) Bool Bo (List.set i_1.2 (Int.toNat e_1) x'),.int .i64 i.1,.int .i64 i_1.1])∧∀(i_2:List Bool×Unit),mnJ x.1 i.1 (i_1.1+(1:Int)) i_2.1→inR IntKind.i64 (i_1.1+(1:Int))∧eN (msK x.1 i) i_1 [nds x.1,Ab [],AV.sl true (0:Nat) (1:Nat) Bool Bo i_2.1,.int .i64 i.1,.int .i64 (i_1.1+(1:Int))]) (((0:Int)≤i.1∧i.1<(↑(List.length x.1):Int))∧∀(e:Nd),x.1[Int.toNat i.1]? =some e→Aa (e.kind==(21:Int)) (true=true∧(((0:Int)≤i.1∧i.1<(↑(List.length x.1):Int))∧∀(e:Nd),x.1[Int.toNat i.1]? =some e→((0:Int)≤i_1.1∧i_1.1<(↑(List.length e.kids):Int))∧∀(e_1:Int),e.kids[Int.toNat i_1.1]? =some e_1→((0:Int)≤i.1∧i.1<(↑(List.length x.1):Int))∧∀(e:Nd),x.1[Int.toNat i.1]? =some e→((0:Int)≤i_1.1∧i_1.1<(↑(List.length e.kids):Int))∧∀(e_2:Int),e.kids[Int.toNat i_1.1]? =some e_2→((0:Int)≤e_2∧e_2<(↑(List.length x.1):Int))∧∀(e:Nd),x.1[Int.toNat e_2]? =some e→((0:Int)≤e_1∧e_1<(↑(List.length i_1.2):Int))∧Int.toNat e_1<List.length i_1.2∧∀(x_3:Bool),i_1.2[Int.toNat e_1]? =some x_3→∃(x':Bool),((@List.nil AV)=[]∧(@List.nil AV)=[])∧(e.kind != (19:Int))=x'∧true=true∧eA (msC x.1 i i_1) [nds x.1,Ab [],AV.sl true (0:Nat) (1:Nat) Bool Bo (List.set i_1.2 (Int.toNat e_1) x'),.int .i64 i.1,.int .i64 i_1.1])∧∀(i_2:List Bool×Unit),mnJ x.1 i.1 (i_1.1+(1:Int)) i_2.1→inR IntKind.i64 (i_1.1+(1:Int))∧eN (msK x.1 i) i_1 [nds x.1,Ab [],AV.sl true (0:Nat) (1:Nat) Bool Bo i_2.1,.int .i64 i.1,.int .i64 (i_1.1+(1:Int))]) (inR IntKind.i64 (i.1+(1:Int))∧eN (msL x.1) i [nds x.1,Ab [],AV.sl true (0:Nat) (1:Nat) Bool Bo i_1.2,.int .i64 (i.1+(1:Int))]))) (inR IntKind.i64 (i.1+(1:Int))∧eN (msL x.1) i [nds x.1,Ab [],AV.sl true (0:Nat) (1:Nat) Bool Bo i_1.2,.int .i64 (i.1+(1:Int))])) (eA (OX x) [Ab [],AV.sl true (0:Nat) (1:Nat) Bool Bo i.2,.int .i64 (0:Int)]∧∀(i:List Bool×Int×List Int),smI x.1 i.1 i.2.1 i.2.2→Aa (decide (i.2.1<(↑(List.length i.1):Int))) (((0:Int)≤i.2.1∧i.2.1<(↑(List.length i.1):Int))∧Int.toNat i.2.1<List.length i.1∧∀(x_3:Bool),i.1[Int.toNat i.2.1]? =some x_3→Aa x_3 (∃(x_4:Int),i.2.1=x_4∧∃(zs:List Int),Ab [x_4]=Ab zs∧BF Bj∧Ba (List.length i.2.2+List.length zs) (8:Nat)∧inR IntKind.i64 (i.2.1+(1:Int))∧eN (OX x) i [Ab (i.2.2++zs),AV.sl true (0:Nat) (1:Nat) Bool Bo i.1,.int .i64 (i.2.1+(1:Int))]) (inR IntKind.i64 (i.2.1+(1:Int))∧eN (OX x) i [Ab i.2.2,AV.sl true (0:Nat) (1:Nat) Bool Bo i.1,.int .i64 (i.2.1+(1:Int))])) (rA Gk x [Ab i.2.2,.top])))) (fun x=>by kernel_rfl) fun(x:List Nd×Unit) (hx:Be x.1∧x.1.length≤2^30)=>(by
 dsimp only[BO,cA,eA,eN,OX,msC,msK,msL,Bn,nds,Ab,rA,Gk,FK,Au,Ax,mvL,lnL,mvE,lnE,Bm]
 obtain⟨x,_⟩:=x;dsimp only at hx ⊢
 obtain⟨h1,h2⟩:=hx
 (repeat' first|(with_reducible first|rfl|exact True.intro|apply AJ|apply And.intro|((first|apply Az|apply AH|apply AA|apply AI)<;>intro _))|(apply Av<;>intro _)|apply AG|refine Af () ?_ ?_|((first|apply AO|apply AN|apply AM|apply AL|apply AF|apply AE|apply AD|apply AC|apply AB)<;>try dsimp only)|apply Af|(refine Prod.forall.2 ?_;intro _;try dsimp only)|(intro _;try dsimp only))
 all_goals(try((repeat(rename(_:List Nd)[Int.toNat _]? =some _=>hq;have hqe:=Bg hq;subst hqe;revert hq));intros))
 all_goals(try(repeat(rename(_:List Int)[_]? =some _=>hq;revert hq;rename(_:List Int)[_]? =some _=>hr;intro hq;rw[hr] at hq;cases hq)))
 all_goals(try(have hB:=b0o (show moJ _ _ _ by assumption)))
 all_goals(try(have hC:=UT (show mnJ _ _ _ _ by assumption)))
 all_goals(try(have hD:=b0j (show smI _ _ _ _ by assumption)))
 all_goals(try(have hK:=b0u (show mnJ _ _ _ _ by assumption) ‹_›;rw[hK] at hC))
 all_goals first
  |rfl
  |omega
  |exact()
  |exact h1
  |exact h2
  |exact(Ri ‹_›).symm
  |exact Ri ‹_›
  |exact b0n ‹_›
  |exact b0p ‹_› ‹_›
  |(have hq:=b0q (show mnJ _ _ _ _ by assumption) ‹_› ‹_›;omega)
  |exact a1i ‹_› ‹_› (.inl ‹_›) ‹_› ‹_› rfl
  |exact a1i ‹_› ‹_› (.inr ‹_›) ‹_› ‹_› rfl
  |exact b0r ‹_› ‹_› ‹_›
  |exact b0s ‹_› ‹_› ‹_› ‹_›
  |exact b0t ‹_› ‹_›
  |exact b0k ‹_› ‹_› ‹_›
  |exact b0l ‹_› ‹_› ‹_›
  |exact b0m ‹_› ‹_›
  |(rename mnJ _ _ _ _=>u1;have q1:=UT u1;clear u1;rename mnJ _ _ _ _=>u2;have q2:=UT u2;omega)
  |((try rw[hK]);(try simp only[AR,Ba,List.length_cons,List.length_nil]);omega)
  |skip)
end Go.My
end
section
set_option linter.unusedVariables false
set_option linter.unusedSimpArgs false
namespace Go.My
open Go.Eng Go.Proofs
variable {G:GInv}
def byA:UInt8→List AV:=fun c=>[.int .u8 c.toNat]
theorem CZ(c:UInt8):byA c=[.int .u8 c.toNat]:=rfl
def byL(l:List UInt8):AV:= .sl false 0 1 UInt8 byA l
def cur(b:List UInt8)(i h:Int):List AV:=[.sl false 0 1 UInt8 byA b,.int .i64 i,.int .i64 h]
def Ae(b:List UInt8)(i:Int):Prop:=(0≤i∧i≤b.length)∧b.length≤2^21
theorem UV{n:Int}(h1: -9223372036854775808≤n)(h2:n≤9223372036854775807):IntKind.i64.wrap n=n:=PK ⟨by simp [IntKind.min,IntKind.bits,IntKind.signed];omega,by simp [IntKind.max,IntKind.bits,IntKind.signed];omega⟩
theorem a1k(a:Int):0≤Dz .and .i64 a 255∧Dz .and .i64 a 255≤255:=by
 unfold Dz
 have h:(BitVec.ofInt IntKind.i64.bits a&&& BitVec.ofInt IntKind.i64.bits 255).toNat≤255:=by
  rw[BitVec.toNat_and]
  exact Nat.le_trans Nat.and_le_right (by decide)
 simp only
 rw[UV (by omega) (by omega)]
 omega
theorem UW(a:Int):0≤Dz .and .i64 a 1073741823∧Dz .and .i64 a 1073741823≤1073741823:=by
 unfold Dz
 have h:(BitVec.ofInt IntKind.i64.bits a&&& BitVec.ofInt IntKind.i64.bits 1073741823).toNat≤1073741823:=by
  rw[BitVec.toNat_and]
  exact Nat.le_trans Nat.and_le_right (by decide)
 simp only
 rw[UV (by omega) (by omega)]
 omega
theorem Lf{a n:Int}(h0:0≤a)(hn:0<n):0≤a.tmod n∧a.tmod n<n:=⟨Int.tmod_nonneg n h0,Int.tmod_lt_of_pos a hn⟩
def HD:Sig:= {X:=List UInt8×Int×Int,args:=fun x=>[.box 0 (cur x.1 x.2.1 x.2.2)],pre:=fun x=>Ae x.1 x.2.1,Y:=Int×Int×Int,post:=fun x y=>(0≤y.1∧y.1≤255)∧Ae x.1 y.2.1,res:=fun x y=> .int .i64 y.1,outs:=fun x y=>[.box 0 (cur x.1 y.2.1 y.2.2)],keep:=true}
theorem b0v:Am G Tryz.prog 50 HD:=
 vcFun_okP [] [] true (fun x=>[]) Tryz.func50 rfl (by decide) trivial (fun(x:List UInt8×Int×Int)=>True∧true=true∧true=true∧(0:Int)≤(33:Int)∧(0:Int)≤(45:Int)∧true=true∧true=true∧Aa (decide (x.2.1<(↑(List.length x.1):Int))) (true=true∧true=true∧((0:Int)≤x.2.1∧x.2.1<(↑(List.length x.1):Int))∧∀(e:UInt8),x.1[Int.toNat x.2.1]? =some e→rA HD x [.int .i64 (Dz BinOp.and IntKind.i64 (IntKind.wrap IntKind.i64 (Dz BinOp.and IntKind.i64 (Dz BinOp.xor IntKind.i64 (shI false IntKind.i64 (IntKind.wrap IntKind.i64 (IntKind.wrap IntKind.i64 (x.2.2*(6364136223846793005:Int))+(1442695040888963407:Int))) (33:Int)) (shI false IntKind.i64 (IntKind.wrap IntKind.i64 (IntKind.wrap IntKind.i64 (x.2.2*(6364136223846793005:Int))+(1442695040888963407:Int))) (45:Int))) (255:Int)+IntKind.wrap IntKind.i64 (↑(UInt8.toNat e):Int))) (255:Int)),.box 0 [byL x.1,.int .i64 (IntKind.wrap IntKind.i64 (x.2.1+(1:Int))),.int .i64 (IntKind.wrap IntKind.i64 (IntKind.wrap IntKind.i64 (x.2.2*(6364136223846793005:Int))+(1442695040888963407:Int)))]]) (rA HD x [.int .i64 (Dz BinOp.and IntKind.i64 (Dz BinOp.xor IntKind.i64 (shI false IntKind.i64 (IntKind.wrap IntKind.i64 (IntKind.wrap IntKind.i64 (x.2.2*(6364136223846793005:Int))+(1442695040888963407:Int))) (33:Int)) (shI false IntKind.i64 (IntKind.wrap IntKind.i64 (IntKind.wrap IntKind.i64 (x.2.2*(6364136223846793005:Int))+(1442695040888963407:Int))) (45:Int))) (255:Int)),.box 0 [byL x.1,.int .i64 x.2.1,.int .i64 (IntKind.wrap IntKind.i64 (IntKind.wrap IntKind.i64 (x.2.2*(6364136223846793005:Int))+(1442695040888963407:Int)))]])) (fun x=>by kernel_rfl) fun(x:List UInt8×Int×Int) (hx:Ae x.1 x.2.1)=>(by
 dsimp only[CZ,byL,cur,rA,HD,Au,Ax]
 obtain⟨b,i,h⟩:=x;dsimp only at hx ⊢
 have hx:Ae b i:=hx
 have hb:=hx.1;have hl:=hx.2
 (repeat' first|(with_reducible first|rfl|exact True.intro|apply AJ|apply And.intro|((first|apply Az|apply AH|apply AA|apply AI)<;>intro _))|(apply Av<;>intro _)|apply AG|refine Af () ?_ ?_|((first|apply AO|apply AN|apply AM|apply AL|apply AF|apply AE|apply AD|apply AC|apply AB)<;>try dsimp only)|apply Af|(refine Prod.forall.2 ?_;intro _;try dsimp only)|(intro _;try dsimp only))
 all_goals first
  |rfl
  |omega
  |exact(a1k _).1
  |exact(a1k _).2
  |exact hx
  |(rw[UV (by omega) (by omega)];exact⟨by omega,hl⟩)
  |skip)
def Dh:Sig:= {X:=List UInt8×Int×Int×Int,args:=fun x=>[.box 0 (cur x.1 x.2.1 x.2.2.1),.int .i64 x.2.2.2],pre:=fun x=>Ae x.1 x.2.1,Y:=Int×Int×Int,post:=fun x y=>((0<x.2.2.2→0≤y.1∧y.1<x.2.2.2)∧(x.2.2.2≤0→y.1=0))∧Ae x.1 y.2.1,res:=fun x y=> .int .i64 y.1,outs:=fun x y=>[.box 0 (cur x.1 y.2.1 y.2.2),.top],keep:=true}
theorem HE:Am G Tryz.prog 51 Dh:=
 vcFun_okP [(50,0,HD)] [] false (fun x=>[]) Tryz.func51 rfl (by decide) ⟨b0v,trivial⟩ (fun(x:List UInt8×Int×Int×Int)=>True∧Aa (decide (x.2.2.2≤(0:Int))) (rA Dh x [.int .i64 (0:Int),.box 0 (cur x.1 x.2.1 x.2.2.1),.top]) (Aa (decide (x.2.2.2≤(256:Int))) (cA HD [.box 0 (cur x.1 x.2.1 x.2.2.1)] fun x_1 y=>x.2.2.2≠(0:Int)∧rA Dh x [.int .i64 (Int.tmod y.1 x.2.2.2),.box 0 (cur x_1.1 y.2.1 y.2.2),.top]) (cA HD [.box 0 (cur x.1 x.2.1 x.2.2.1)] fun x_1 y=>cA HD [.box 0 (cur x_1.1 y.2.1 y.2.2)] fun x_2 y_1=>cA HD [.box 0 (cur x_2.1 y_1.2.1 y_1.2.2)] fun x_3 y_2=>cA HD [.box 0 (cur x_3.1 y_2.2.1 y_2.2.2)] fun x_4 y_3=>inR IntKind.i64 (y.1*(16777216:Int))∧inR IntKind.i64 (y_1.1*(65536:Int))∧inR IntKind.i64 (y.1*(16777216:Int)+y_1.1*(65536:Int))∧inR IntKind.i64 (y_2.1*(256:Int))∧inR IntKind.i64 (y.1*(16777216:Int)+y_1.1*(65536:Int)+y_2.1*(256:Int))∧inR IntKind.i64 (y.1*(16777216:Int)+y_1.1*(65536:Int)+y_2.1*(256:Int)+y_3.1)∧x.2.2.2≠(0:Int)∧rA Dh x [.int .i64 (Int.tmod (y.1*(16777216:Int)+y_1.1*(65536:Int)+y_2.1*(256:Int)+y_3.1) x.2.2.2),.box 0 (cur x_4.1 y_3.2.1 y_3.2.2),.top]))) (fun x=>by kernel_rfl) fun(x:List UInt8×Int×Int×Int) (hx:Ae x.1 x.2.1)=>(by
 dsimp only[CZ,cA,cur,rA,Dh,HD,Au,Ax,mvL,lnL,mvE,lnE]
 obtain⟨b,i,h,n⟩:=x;dsimp only at hx ⊢
 have hx:Ae b i:=hx
 (repeat' first|(with_reducible first|rfl|exact True.intro|apply AJ|apply And.intro|((first|apply Az|apply AH|apply AA|apply AI)<;>intro _))|(apply Av<;>intro _)|apply AG|refine Af () ?_ ?_|((first|apply AO|apply AN|apply AM|apply AL|apply AF|apply AE|apply AD|apply AC|apply AB)<;>try dsimp only)|apply Af|(refine Prod.forall.2 ?_;intro _;try dsimp only)|(intro _;try dsimp only))
 all_goals(repeat(rename(_∧_)∧Ae _ _=>hq;obtain⟨⟨_,_⟩,_⟩:=hq))
 all_goals first
  |rfl
  |assumption
  |omega
  |exact(Lf (by omega) (by omega)).1
  |exact(Lf (by omega) (by omega)).2
  |skip)
def HF:Sig:= {X:=List UInt8×Int×Int×Int,args:=fun x=>[.box 0 (cur x.1 x.2.1 x.2.2.1),.int .i64 x.2.2.2],pre:=fun x=>Ae x.1 x.2.1,Y:=Bool×Int×Int,post:=fun x y=>Ae x.1 y.2.1,res:=fun x y=> .bool y.1,outs:=fun x y=>[.box 0 (cur x.1 y.2.1 y.2.2),.top],keep:=true}
theorem MD:Am G Tryz.prog 55 HF:=
 vcFun_okP [(51,0,Dh)] [] false (fun x=>[]) Tryz.func55 rfl (by decide) ⟨HE,trivial⟩ (fun(x:List UInt8×Int×Int×Int)=>True∧cA Dh [.box 0 (cur x.1 x.2.1 x.2.2.1),.int .i64 x.2.2.2] fun x_1 y=>rA HF x [.bool (y.1==(0:Int)),.box 0 (cur x_1.1 y.2.1 y.2.2),.top]) (fun x=>by kernel_rfl) fun(x:List UInt8×Int×Int×Int) (hx:Ae x.1 x.2.1)=>(by
 dsimp only[CZ,cA,cur,rA,Dh,HF,Au,Ax,mvL,lnL,mvE,lnE]
 obtain⟨b,i,h,n⟩:=x;dsimp only at hx ⊢
 have hx:Ae b i:=hx
 (repeat' first|(with_reducible first|rfl|exact True.intro|apply AJ|apply And.intro|((first|apply Az|apply AH|apply AA|apply AI)<;>intro _))|(apply Av<;>intro _)|apply AG|refine Af () ?_ ?_|((first|apply AO|apply AN|apply AM|apply AL|apply AF|apply AE|apply AD|apply AC|apply AB)<;>try dsimp only)|apply Af|(refine Prod.forall.2 ?_;intro _;try dsimp only)|(intro _;try dsimp only))
 all_goals(repeat(rename(_∧_)∧Ae _ _=>hq;obtain⟨⟨_,_⟩,_⟩:=hq))
 all_goals first
  |rfl
  |assumption
  |skip)
def GX:Sig:= {X:=List UInt8×Int×Int×List (List UInt8),args:=fun x=>[.box 0 (cur x.1 x.2.1 x.2.2.1),.sl false 0 1 (List UInt8) Ag x.2.2.2],pre:=fun x=>Ae x.1 x.2.1∧x.2.2.2≠[]∧x.2.2.2.length<2^30,Y:=List UInt8×Int×Int,post:=fun x y=>y.1∈x.2.2.2∧Ae x.1 y.2.1,res:=fun x y=> .str y.1,outs:=fun x y=>[.box 0 (cur x.1 y.2.1 y.2.2),.top],keep:=true}
theorem Lg:Am G Tryz.prog 123 GX:=
 vcFun_okP [(51,0,Dh)] [] false (fun x=>[]) Tryz.func123 rfl (by decide) ⟨HE,trivial⟩ (fun(x:List UInt8×Int×Int×List (List UInt8))=>True∧cA Dh [.box 0 (cur x.1 x.2.1 x.2.2.1),.int .i64 (↑(List.length x.2.2.2):Int)] fun x_1 y=>((0:Int)≤y.1∧y.1<(↑(List.length x.2.2.2):Int))∧∀(e:List UInt8),x.2.2.2[Int.toNat y.1]? =some e→rA GX x [.str e,.box 0 (cur x_1.1 y.2.1 y.2.2),.top]) (fun x=>by kernel_rfl) fun(x:List UInt8×Int×Int×List (List UInt8)) (hx:Ae x.1 x.2.1∧x.2.2.2≠[]∧x.2.2.2.length<2^30)=>(by
 dsimp only[CZ,cA,cur,rA,Dh,GX,Au,Ax,mvL,lnL,mvE,lnE]
 obtain⟨b,i,h,l⟩:=x;dsimp only at hx ⊢
 obtain⟨hx,hn,hl⟩:=hx
 have hp:0<l.length:=by cases l with|nil=>exact(hn rfl).elim|cons _ _=>simp
 (repeat' first|(with_reducible first|rfl|exact True.intro|apply AJ|apply And.intro|((first|apply Az|apply AH|apply AA|apply AI)<;>intro _))|(apply Av<;>intro _)|apply AG|refine Af () ?_ ?_|((first|apply AO|apply AN|apply AM|apply AL|apply AF|apply AE|apply AD|apply AC|apply AB)<;>try dsimp only)|apply Af|(refine Prod.forall.2 ?_;intro _;try dsimp only)|(intro _;try dsimp only))
 all_goals(repeat(rename(_∧_)∧Ae _ _=>hq;obtain⟨⟨_,_⟩,_⟩:=hq))
 all_goals first
  |rfl
  |assumption
  |exact Cz ‹_›
  |omega
  |skip)
end Go.My
end
