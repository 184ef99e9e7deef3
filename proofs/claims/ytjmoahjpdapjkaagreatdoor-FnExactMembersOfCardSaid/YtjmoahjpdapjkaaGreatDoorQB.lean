/- A part of the proof: the engine and the contracts, joined. -/
import Derived.Test.YtjmoahjpdapjkaaGreatDoorQA
section
set_option linter.unusedVariables false
set_option linter.unusedSimpArgs false
namespace Go.Eng
mutual
def Ce(id:Nat):AV→Option (AV×AV)
 | .sl true i sz α f xs=>match Nat.beq i id with|true=>some (.sl true i sz α f xs,.hole id)|false=>none
 | .box i c=>match Nat.beq i id with
   |true=>some (.box i c,.hole id)
   |false=>match DA id c with|some (o,c')=>some (o,.box i c')|none=>none
 | .bv x c=>match DA id c with|some (o,c')=>some (o,.bv x c')|none=>none
 | .agg fs=>match DA id fs with|some (o,c')=>some (o,.agg c')|none=>none
 | .tup fs=>match DA id fs with|some (o,c')=>some (o,.tup c')|none=>none
 | .clo fn fs=>match DA id fs with|some (o,c')=>some (o,.clo fn c')|none=>none
 |_=>none
def DA(id:Nat):List AV→Option (AV×List AV)
 |[]=>none
 |a::azs=>match Ce id a with
  |some (o,a')=>some (o,a'::azs)
  |none=>match DA id azs with|some (o,as')=>some (o,a::as')|none=>none
end
mutual
def Cn(id:Nat)(o:AV):AV→Option AV
 | .hole i=>match Nat.beq i id with|true=>some o|false=>none
 | .box i c=>match Ej id o c with|some c'=>some (.box i c')|none=>none
 | .bv x c=>match Ej id o c with|some c'=>some (.bv x c')|none=>none
 | .agg fs=>match Ej id o fs with|some c'=>some (.agg c')|none=>none
 | .tup fs=>match Ej id o fs with|some c'=>some (.tup c')|none=>none
 | .clo fn fs=>match Ej id o fs with|some c'=>some (.clo fn c')|none=>none
 |_=>none
def Ej(id:Nat)(o:AV):List AV→Option (List AV)
 |[]=>none
 |a::azs=>match Cn id o a with
  |some a'=>some (a'::azs)
  |none=>match Ej id o azs with|some as'=>some (a::as')|none=>none
end
theorem WS{S A B C D:FP}(h:Bn S A B)(h2:Bn A C D):∃E,Bn S C E∧Bn E D B:=Nh h h2
theorem Ic{S A B C D:FP}(h:Bn S A B)(h2:Bn B C D):∃E,Bn S C E∧Bn E A D:=by
 obtain⟨E,h3,h4⟩:=Jw h (Wr h2)
 obtain⟨E',h5,h6⟩:=Jw h h2
 refine⟨fun b=>A b∨D b,⟨fun b=> ?_,fun b x y=> ?_⟩,⟨fun _=>Iff.rfl,fun b x y=>h.2 b x ((h2.1 b).2 (.inr y))⟩⟩
 ·rw[h.1 b,h2.1 b];exact⟨fun h=>h.elim (fun h=> .inr (.inl h)) (fun h=>h.elim .inl (fun h=> .inr (.inr h))),fun h=>h.elim (fun h=> .inr (.inl h)) (fun h=>h.elim .inl (fun h=> .inr (.inr h)))⟩
 ·exact y.elim (fun y=>h.2 b y ((h2.1 b).2 (.inl x))) (fun y=>h2.2 b x y)
theorem WT{Z:FP}{η:Nat→Value}{w:World}{id:Nat}{o:AV}{v:Value}{S:FP}(h:Ad Z η w o v S)(ho:Jz id o):Db v:=by
 cases o<;>simp only[Jz] at ho
 case box=>simp only[Ad] at h;obtain⟨_,b,arr,ty,S1,e,_⟩:=h;rw[e];trivial
 case sl own i sz α f xs=>simp only[Ad,Am] at h;obtain⟨_,a,n,c,e,_⟩:=h;rw[e];trivial
mutual
theorem a4F{Z:FP}{η:Nat→Value}{w:World}{id:Nat}:∀(a:AV) (v:Value) (S:FP) (o a':AV),Ad Z η w a v S→Ce id a=some (o,a')→
 ∃A B,Bn S A B∧Jz id o∧Ad Z η w o (η id) A∧Ad Z η w a' v B
 | .sl true i sz α f xs,v,S,o,a',h,hf=>by
   simp only[Ce] at hf
   split at hf
   ·rename_i hb;simp only[Option.some.injEq,Prod.mk.injEq] at hf;obtain⟨rfl,rfl⟩:=hf
    have:=Nat.eq_of_beq_eq_true hb;subst this
    have h':=h
    simp only[Ad] at h'
    have hc:=WT h (id:=i) rfl
    refine⟨S,fun _=>False,II S,rfl,?_,?_⟩
    ·rw[←h'.1 trivial];exact h
    ·simp only[Ad];exact⟨h'.1 trivial,hc,AW⟩
   ·simp at hf
 | .box i c,v,S,o,a',h,hf=>by
   simp only[Ce] at hf
   split at hf
   ·rename_i hb;simp only[Option.some.injEq,Prod.mk.injEq] at hf;obtain⟨rfl,rfl⟩:=hf
    have:=Nat.eq_of_beq_eq_true hb;subst this
    have h':=h
    simp only[Ad] at h'
    have hc:=WT h (id:=i) rfl
    refine⟨S,fun _=>False,II S,rfl,?_,?_⟩
    ·rw[←h'.1];exact h
    ·simp only[Ad];exact⟨h'.1,hc,AW⟩
   ·split at hf
    ·rename_i o' c' ht
     simp only[Option.some.injEq,Prod.mk.injEq] at hf;obtain⟨rfl,rfl⟩:=hf
     simp only[Ad] at h
     obtain⟨e0,b,arr,ty,S1,e,hb,hr,hj⟩:=h
     obtain⟨A,B,hj2,h1,h2,h3⟩:=ED c _ S1 _ _ hr ht
     obtain⟨E,h5,h6⟩:=Ic hj hj2
     refine⟨A,E,h5,h1,h2,?_⟩
     simp only[Ad]
     exact⟨e0,b,arr,ty,B,e,hb,h3,h6⟩
    ·cases hf
 | .bv x c,v,S,o,a',h,hf=>by
   simp only[Ce] at hf
   split at hf
   ·rename_i o' c' ht
    simp only[Option.some.injEq,Prod.mk.injEq] at hf;obtain⟨rfl,rfl⟩:=hf
    simp only[Ad] at h
    obtain⟨e0,b,arr,ty,S1,e,hb,hr,hj⟩:=h
    obtain⟨A,B,hj2,h1,h2,h3⟩:=ED c _ S1 _ _ hr ht
    obtain⟨E,h5,h6⟩:=Ic hj hj2
    refine⟨A,E,h5,h1,h2,?_⟩
    simp only[Ad]
    exact⟨e0,b,arr,ty,B,e,hb,h3,h6⟩
   ·cases hf
 | .hv _,v,S,o,a',h,hf=>by simp [Ce] at hf
 | .agg fs,v,S,o,a',h,hf=>by
   simp only[Ce] at hf
   split at hf
   ·rename_i o' c' ht
    simp only[Option.some.injEq,Prod.mk.injEq] at hf;obtain⟨rfl,rfl⟩:=hf
    simp only[Ad] at h
    obtain⟨cs,e,hr⟩:=h
    obtain⟨A,B,hj2,h1,h2,h3⟩:=ED fs _ S _ _ hr ht
    refine⟨A,B,hj2,h1,h2,?_⟩
    simp only[Ad];exact⟨cs,e,h3⟩
   ·cases hf
 | .tup fs,v,S,o,a',h,hf=>by
   simp only[Ce] at hf
   split at hf
   ·rename_i o' c' ht
    simp only[Option.some.injEq,Prod.mk.injEq] at hf;obtain⟨rfl,rfl⟩:=hf
    simp only[Ad] at h
    obtain⟨cs,e,hr⟩:=h
    obtain⟨A,B,hj2,h1,h2,h3⟩:=ED fs _ S _ _ hr ht
    refine⟨A,B,hj2,h1,h2,?_⟩
    simp only[Ad];exact⟨cs,e,h3⟩
   ·cases hf
 | .clo fn fs,v,S,o,a',h,hf=>by
   simp only[Ce] at hf
   split at hf
   ·rename_i o' c' ht
    simp only[Option.some.injEq,Prod.mk.injEq] at hf;obtain⟨rfl,rfl⟩:=hf
    simp only[Ad] at h
    obtain⟨cs,e,hr⟩:=h
    obtain⟨A,B,hj2,h1,h2,h3⟩:=ED fs _ S _ _ hr ht
    refine⟨A,B,hj2,h1,h2,?_⟩
    simp only[Ad];exact⟨cs,e,h3⟩
   ·cases hf
 | .sl false i sz α f xs,v,S,o,a',h,hf=>by simp [Ce] at hf
 | .int _ _,v,S,o,a',h,hf=>by simp [Ce] at hf
 | .bool _,v,S,o,a',h,hf=>by simp [Ce] at hf
 | .str _,v,S,o,a',h,hf=>by simp [Ce] at hf
 | .val _,v,S,o,a',h,hf=>by simp [Ce] at hf
 | .any,v,S,o,a',h,hf=>by simp [Ce] at hf
 | .top,v,S,o,a',h,hf=>by simp [Ce] at hf
 | .nil,v,S,o,a',h,hf=>by simp [Ce] at hf
 | .hole _,v,S,o,a',h,hf=>by simp [Ce] at hf
 | .al _,v,S,o,a',h,hf=>by simp [Ce] at hf
 | .po _ _ _ _,v,S,o,a',h,hf=>by simp [Ce] at hf
 | .pf _,v,S,o,a',h,hf=>by simp [Ce] at hf
theorem ED{Z:FP}{η:Nat→Value}{w:World}{id:Nat}:∀(azs:List AV) (cs:List Value) (S:FP) (o:AV) (as':List AV),Aq Z η w azs cs S→DA id azs=some (o,as')→
 ∃A B,Bn S A B∧Jz id o∧Ad Z η w o (η id) A∧Aq Z η w as' cs B
 |[],cs,S,o,as',h,hf=>by simp [DA] at hf
 |a::azs,cs,S,o,as',h,hf=>by
  simp only[Aq] at h
  obtain⟨v,cs',A,B,e,hj,h1,h2⟩:=h
  simp only[DA] at hf
  split at hf
  ·rename_i o' a' ht
   simp only[Option.some.injEq,Prod.mk.injEq] at hf;obtain⟨rfl,rfl⟩:=hf
   obtain⟨A1,B1,hj2,x,y,z⟩:=a4F a v A _ _ h1 ht
   obtain⟨E,h5,h6⟩:=WS hj hj2
   refine⟨A1,E,h5,x,y,?_⟩
   simp only[Aq];exact⟨v,cs',B1,B,e,h6,z,h2⟩
  ·split at hf
   ·rename_i o' c' ht
    simp only[Option.some.injEq,Prod.mk.injEq] at hf;obtain⟨rfl,rfl⟩:=hf
    obtain⟨A1,B1,hj2,x,y,z⟩:=ED azs cs' B _ _ h2 ht
    obtain⟨E,h5,h6⟩:=Ic hj hj2
    refine⟨A1,E,h5,x,y,?_⟩
    simp only[Aq];exact⟨v,cs',A,B1,e,h6,h1,z⟩
   ·cases hf
end
mutual
theorem a4G{n id:Nat}:∀(a o a':AV),AP n a→Ce id a=some (o,a')→id<n∧AP n o∧AP n a'
 | .sl true i sz α f xs,o,a',h,hf=>by
   simp only[Ce] at hf
   split at hf
   ·rename_i hb;simp only[Option.some.injEq,Prod.mk.injEq] at hf;obtain⟨rfl,rfl⟩:=hf
    have:=Nat.eq_of_beq_eq_true hb;subst this
    have h':=h;simp only[AP] at h'
    exact⟨h' trivial,h,h' trivial⟩
   ·simp at hf
 | .box i c,o,a',h,hf=>by
   simp only[Ce] at hf
   split at hf
   ·rename_i hb;simp only[Option.some.injEq,Prod.mk.injEq] at hf;obtain⟨rfl,rfl⟩:=hf
    have:=Nat.eq_of_beq_eq_true hb;subst this
    have h':=h;simp only[AP] at h'
    exact⟨h'.1,h,h'.1⟩
   ·split at hf
    ·rename_i o' c' ht
     simp only[Option.some.injEq,Prod.mk.injEq] at hf;obtain⟨rfl,rfl⟩:=hf
     simp only[AP] at h ⊢
     obtain⟨x,y,z⟩:=Fc c _ _ h.2 ht
     exact⟨x,y,h.1,z⟩
    ·cases hf
 | .bv _ c,o,a',h,hf=>by
   simp only[Ce] at hf
   split at hf
   ·rename_i o' c' ht
    simp only[Option.some.injEq,Prod.mk.injEq] at hf;obtain⟨rfl,rfl⟩:=hf
    simp only[AP] at h ⊢;exact Fc c _ _ h ht
   ·cases hf
 | .hv _,o,a',h,hf=>by simp [Ce] at hf
 | .agg fs,o,a',h,hf=>by
   simp only[Ce] at hf
   split at hf
   ·rename_i o' c' ht
    simp only[Option.some.injEq,Prod.mk.injEq] at hf;obtain⟨rfl,rfl⟩:=hf
    simp only[AP] at h ⊢;exact Fc fs _ _ h ht
   ·cases hf
 | .tup fs,o,a',h,hf=>by
   simp only[Ce] at hf
   split at hf
   ·rename_i o' c' ht
    simp only[Option.some.injEq,Prod.mk.injEq] at hf;obtain⟨rfl,rfl⟩:=hf
    simp only[AP] at h ⊢;exact Fc fs _ _ h ht
   ·cases hf
 | .clo fn fs,o,a',h,hf=>by
   simp only[Ce] at hf
   split at hf
   ·rename_i o' c' ht
    simp only[Option.some.injEq,Prod.mk.injEq] at hf;obtain⟨rfl,rfl⟩:=hf
    simp only[AP] at h ⊢;exact Fc fs _ _ h ht
   ·cases hf
 | .sl false i sz α f xs,o,a',h,hf=>by simp [Ce] at hf
 | .int _ _,o,a',h,hf=>by simp [Ce] at hf
 | .bool _,o,a',h,hf=>by simp [Ce] at hf
 | .str _,o,a',h,hf=>by simp [Ce] at hf
 | .val _,o,a',h,hf=>by simp [Ce] at hf
 | .any,o,a',h,hf=>by simp [Ce] at hf
 | .top,o,a',h,hf=>by simp [Ce] at hf
 | .nil,o,a',h,hf=>by simp [Ce] at hf
 | .hole _,o,a',h,hf=>by simp [Ce] at hf
 | .al _,o,a',h,hf=>by simp [Ce] at hf
 | .po _ _ _ _,o,a',h,hf=>by simp [Ce] at hf
 | .pf _,o,a',h,hf=>by simp [Ce] at hf
theorem Fc{n id:Nat}:∀(azs:List AV) (o:AV) (as':List AV),AX n azs→DA id azs=some (o,as')→id<n∧AP n o∧AX n as'
 |[],o,as',h,hf=>by simp [DA] at hf
 |a::azs,o,as',h,hf=>by
  simp only[DA] at hf
  split at hf
  ·rename_i o' a' ht
   simp only[Option.some.injEq,Prod.mk.injEq] at hf;obtain⟨rfl,rfl⟩:=hf
   obtain⟨x,y,z⟩:=a4G a _ _ h.1 ht
   exact⟨x,y,z,h.2⟩
  ·split at hf
   ·rename_i o' c' ht
    simp only[Option.some.injEq,Prod.mk.injEq] at hf;obtain⟨rfl,rfl⟩:=hf
    obtain⟨x,y,z⟩:=Fc azs _ _ h.2 ht
    exact⟨x,y,h.1,z⟩
   ·cases hf
end
mutual
theorem a4H{Z:FP}{η:Nat→Value}{w:World}{id:Nat}{o:AV}{A:FP}(ho:Ad Z η w o (η id) A):∀(a:AV) (v:Value) (B S:FP) (a':AV),Ad Z η w a v B→Bn S A B→
 Cn id o a=some a'→Ad Z η w a' v S
 | .hole i,v,B,S,a',h,hj,hf=>by
   simp only[Cn] at hf
   split at hf
   ·rename_i hb
    simp only[Option.some.injEq] at hf;subst hf
    have:=Nat.eq_of_beq_eq_true hb;subst this
    simp only[Ad] at h
    rw[h.1,EL (Wq hj h.2.2)];exact ho
   ·cases hf
 | .box i c,v,B,S,a',h,hj,hf=>by
   simp only[Cn] at hf
   split at hf
   ·rename_i c' hc
    simp only[Option.some.injEq] at hf;subst hf
    simp only[Ad] at h ⊢
    obtain⟨e0,b,arr,ty,S1,e,hb,hr,hj2⟩:=h
    obtain⟨E,h5,h6⟩:=Ic hj hj2
    exact⟨e0,b,arr,ty,E,e,hb,Ho ho c _ S1 E _ hr h6 hc,h5⟩
   ·cases hf
 | .bv x c,v,B,S,a',h,hj,hf=>by
   simp only[Cn] at hf
   split at hf
   ·rename_i c' hc
    simp only[Option.some.injEq] at hf;subst hf
    simp only[Ad] at h ⊢
    obtain⟨e0,b,arr,ty,S1,e,hb,hr,hj2⟩:=h
    obtain⟨E,h5,h6⟩:=Ic hj hj2
    exact⟨e0,b,arr,ty,E,e,hb,Ho ho c _ S1 E _ hr h6 hc,h5⟩
   ·cases hf
 | .hv _,v,B,S,a',h,hj,hf=>by simp [Cn] at hf
 | .agg fs,v,B,S,a',h,hj,hf=>by
   simp only[Cn] at hf
   split at hf
   ·rename_i c' hc
    simp only[Option.some.injEq] at hf;subst hf
    simp only[Ad] at h ⊢
    obtain⟨cs,e,hr⟩:=h
    exact⟨cs,e,Ho ho fs _ B S _ hr hj hc⟩
   ·cases hf
 | .tup fs,v,B,S,a',h,hj,hf=>by
   simp only[Cn] at hf
   split at hf
   ·rename_i c' hc
    simp only[Option.some.injEq] at hf;subst hf
    simp only[Ad] at h ⊢
    obtain⟨cs,e,hr⟩:=h
    exact⟨cs,e,Ho ho fs _ B S _ hr hj hc⟩
   ·cases hf
 | .clo fn fs,v,B,S,a',h,hj,hf=>by
   simp only[Cn] at hf
   split at hf
   ·rename_i c' hc
    simp only[Option.some.injEq] at hf;subst hf
    simp only[Ad] at h ⊢
    obtain⟨cs,e,hr⟩:=h
    exact⟨cs,e,Ho ho fs _ B S _ hr hj hc⟩
   ·cases hf
 | .sl own i sz α f xs,v,B,S,a',h,hj,hf=>by simp [Cn] at hf
 | .int _ _,v,B,S,a',h,hj,hf=>by simp [Cn] at hf
 | .bool _,v,B,S,a',h,hj,hf=>by simp [Cn] at hf
 | .str _,v,B,S,a',h,hj,hf=>by simp [Cn] at hf
 | .val _,v,B,S,a',h,hj,hf=>by simp [Cn] at hf
 | .any,v,B,S,a',h,hj,hf=>by simp [Cn] at hf
 | .top,v,B,S,a',h,hj,hf=>by simp [Cn] at hf
 | .nil,v,B,S,a',h,hj,hf=>by simp [Cn] at hf
 | .al _,v,B,S,a',h,hj,hf=>by simp [Cn] at hf
 | .po _ _ _ _,v,B,S,a',h,hj,hf=>by simp [Cn] at hf
 | .pf _,v,B,S,a',h,hj,hf=>by simp [Cn] at hf
theorem Ho{Z:FP}{η:Nat→Value}{w:World}{id:Nat}{o:AV}{A:FP}(ho:Ad Z η w o (η id) A):∀(azs:List AV) (cs:List Value) (B S:FP) (as':List AV),Aq Z η w azs cs B→Bn S A B→
 Ej id o azs=some as'→Aq Z η w as' cs S
 |[],cs,B,S,as',h,hj,hf=>by simp [Ej] at hf
 |a::azs,cs,B,S,as',h,hj,hf=>by
  simp only[Aq] at h
  obtain⟨v,cs',A1,B1,e,hj2,h1,h2⟩:=h
  simp only[Ej] at hf
  split at hf
  ·rename_i a1 ht
   simp only[Option.some.injEq] at hf;subst hf
   obtain⟨E,h5,h6⟩:=Jw hj hj2
   simp only[Aq]
   exact⟨v,cs',E,B1,e,h5,a4H ho a v A1 E _ h1 h6 ht,h2⟩
  ·split at hf
   ·rename_i as1 ht
    simp only[Option.some.injEq] at hf;subst hf
    obtain⟨E,h5,h6⟩:=Ic hj hj2
    simp only[Aq]
    exact⟨v,cs',A1,E,e,h5,h1,Ho ho azs cs' B1 E _ h2 h6 ht⟩
   ·cases hf
end
mutual
theorem a4I{n id:Nat}{o:AV}(ho:AP n o):∀(a a':AV),AP n a→Cn id o a=some a'→AP n a'
 | .hole i,a',h,hf=>by
   simp only[Cn] at hf
   split at hf
   ·simp only[Option.some.injEq] at hf;subst hf;exact ho
   ·cases hf
 | .box i c,a',h,hf=>by
   simp only[Cn] at hf
   split at hf
   ·rename_i c' hc
    simp only[Option.some.injEq] at hf;subst hf
    simp only[AP] at h ⊢;exact⟨h.1,Hp ho c _ h.2 hc⟩
   ·cases hf
 | .bv _ c,a',h,hf=>by
   simp only[Cn] at hf
   split at hf
   ·rename_i c' hc
    simp only[Option.some.injEq] at hf;subst hf
    simp only[AP] at h ⊢;exact Hp ho c _ h hc
   ·cases hf
 | .hv _,a',h,hf=>by simp [Cn] at hf
 | .agg fs,a',h,hf=>by
   simp only[Cn] at hf
   split at hf
   ·rename_i c' hc
    simp only[Option.some.injEq] at hf;subst hf
    simp only[AP] at h ⊢;exact Hp ho fs _ h hc
   ·cases hf
 | .tup fs,a',h,hf=>by
   simp only[Cn] at hf
   split at hf
   ·rename_i c' hc
    simp only[Option.some.injEq] at hf;subst hf
    simp only[AP] at h ⊢;exact Hp ho fs _ h hc
   ·cases hf
 | .clo fn fs,a',h,hf=>by
   simp only[Cn] at hf
   split at hf
   ·rename_i c' hc
    simp only[Option.some.injEq] at hf;subst hf
    simp only[AP] at h ⊢;exact Hp ho fs _ h hc
   ·cases hf
 | .sl own i sz α f xs,a',h,hf=>by simp [Cn] at hf
 | .int _ _,a',h,hf=>by simp [Cn] at hf
 | .bool _,a',h,hf=>by simp [Cn] at hf
 | .str _,a',h,hf=>by simp [Cn] at hf
 | .val _,a',h,hf=>by simp [Cn] at hf
 | .any,a',h,hf=>by simp [Cn] at hf
 | .top,a',h,hf=>by simp [Cn] at hf
 | .nil,a',h,hf=>by simp [Cn] at hf
 | .al _,a',h,hf=>by simp [Cn] at hf
 | .po _ _ _ _,a',h,hf=>by simp [Cn] at hf
 | .pf _,a',h,hf=>by simp [Cn] at hf
theorem Hp{n id:Nat}{o:AV}(ho:AP n o):∀(azs as':List AV),AX n azs→Ej id o azs=some as'→AX n as'
 |[],as',h,hf=>by simp [Ej] at hf
 |a::azs,as',h,hf=>by
  simp only[Ej] at hf
  split at hf
  ·rename_i a1 ht
   simp only[Option.some.injEq] at hf;subst hf
   exact⟨a4I ho a _ h.1 ht,h.2⟩
  ·split at hf
   ·rename_i as1 ht
    simp only[Option.some.injEq] at hf;subst hf
    exact⟨h.1,Hp ho azs _ h.2 ht⟩
   ·cases hf
end
mutual
def Co:AV→Option (Value×List AV×AV)
 | .bv x c=>some (x,c,.hv x)
 | .box i c=>match GP c with|some (x,d,c')=>some (x,d,.box i c')|none=>none
 | .agg fs=>match GP fs with|some (x,d,c')=>some (x,d,.agg c')|none=>none
 | .tup fs=>match GP fs with|some (x,d,c')=>some (x,d,.tup c')|none=>none
 |_=>none
def GP:List AV→Option (Value×List AV×List AV)
 |[]=>none
 |a::azs=>match Co a with
  |some (x,d,a')=>some (x,d,a'::azs)
  |none=>match GP azs with|some (x,d,as')=>some (x,d,a::as')|none=>none
end
mutual
def Cp(c:List AV):AV→Option (Value×AV)
 | .hv x=>some (x,.bv x c)
 | .box i d=>match Gt c d with|some (x,d')=>some (x,.box i d')|none=>none
 | .agg fs=>match Gt c fs with|some (x,d')=>some (x,.agg d')|none=>none
 | .tup fs=>match Gt c fs with|some (x,d')=>some (x,.tup d')|none=>none
 |_=>none
def Gt(c:List AV):List AV→Option (Value×List AV)
 |[]=>none
 |a::azs=>match Cp c a with
  |some (x,a')=>some (x,a'::azs)
  |none=>match Gt c azs with|some (x,as')=>some (x,a::as')|none=>none
end
mutual
theorem a4J{Z:FP}{η:Nat→Value}{w:World}:∀(a:AV) (v:Value) (S:FP) (x:Value) (c:List AV) (a':AV),Ad Z η w a v S→Co a=some (x,c,a')→
 ∃A B,Bn S A B∧Ad Z η w (.bv x c) x A∧Ad Z η w a' v B
 | .bv y d,v,S,x,c,a',h,hf=>by
   simp only[Co,Option.some.injEq,Prod.mk.injEq] at hf
   obtain⟨rfl,rfl,rfl⟩:=hf
   have h':=h
   simp only[Ad] at h'
   obtain⟨e0,b,arr,ty,S1,e,_⟩:=h'
   refine⟨S,fun _=>False,II S,by rw[←e0];rw[←e0] at h;exact h,?_⟩
   simp only[Ad,Am];exact⟨e0,by rw[←e0,e];trivial,AW⟩
 | .box i d,v,S,x,c,a',h,hf=>by
   simp only[Co] at hf
   split at hf
   ·rename_i x' d' c' ht
    simp only[Option.some.injEq,Prod.mk.injEq] at hf;obtain⟨rfl,rfl,rfl⟩:=hf
    simp only[Ad] at h
    obtain⟨e0,b,arr,ty,S1,e,hb,hr,hj⟩:=h
    obtain⟨A,B,hj2,h1,h2⟩:=LZ d _ S1 _ _ _ hr ht
    obtain⟨E,h5,h6⟩:=Ic hj hj2
    refine⟨A,E,h5,h1,?_⟩
    simp only[Ad]
    exact⟨e0,b,arr,ty,B,e,hb,h2,h6⟩
   ·cases hf
 | .agg fs,v,S,x,c,a',h,hf=>by
   simp only[Co] at hf
   split at hf
   ·rename_i x' d' c' ht
    simp only[Option.some.injEq,Prod.mk.injEq] at hf;obtain⟨rfl,rfl,rfl⟩:=hf
    simp only[Ad] at h
    obtain⟨cs,e,hr⟩:=h
    obtain⟨A,B,hj2,h1,h2⟩:=LZ fs _ S _ _ _ hr ht
    exact⟨A,B,hj2,h1,by simp only[Ad];exact⟨cs,e,h2⟩⟩
   ·cases hf
 | .tup fs,v,S,x,c,a',h,hf=>by
   simp only[Co] at hf
   split at hf
   ·rename_i x' d' c' ht
    simp only[Option.some.injEq,Prod.mk.injEq] at hf;obtain⟨rfl,rfl,rfl⟩:=hf
    simp only[Ad] at h
    obtain⟨cs,e,hr⟩:=h
    obtain⟨A,B,hj2,h1,h2⟩:=LZ fs _ S _ _ _ hr ht
    exact⟨A,B,hj2,h1,by simp only[Ad];exact⟨cs,e,h2⟩⟩
   ·cases hf
 | .clo _ _,v,S,x,c,a',h,hf=>by simp [Co] at hf
 | .sl _ _ _ _ _ _,v,S,x,c,a',h,hf=>by simp [Co] at hf
 | .int _ _,v,S,x,c,a',h,hf=>by simp [Co] at hf
 | .bool _,v,S,x,c,a',h,hf=>by simp [Co] at hf
 | .str _,v,S,x,c,a',h,hf=>by simp [Co] at hf
 | .val _,v,S,x,c,a',h,hf=>by simp [Co] at hf
 | .any,v,S,x,c,a',h,hf=>by simp [Co] at hf
 | .top,v,S,x,c,a',h,hf=>by simp [Co] at hf
 | .nil,v,S,x,c,a',h,hf=>by simp [Co] at hf
 | .hole _,v,S,x,c,a',h,hf=>by simp [Co] at hf
 | .hv _,v,S,x,c,a',h,hf=>by simp [Co] at hf
 | .al _,v,S,x,c,a',h,hf=>by simp [Co] at hf
 | .po _ _ _ _,v,S,x,c,a',h,hf=>by simp [Co] at hf
 | .pf _,v,S,x,c,a',h,hf=>by simp [Co] at hf
theorem LZ{Z:FP}{η:Nat→Value}{w:World}:∀(azs:List AV) (cs:List Value) (S:FP) (x:Value) (c:List AV) (as':List AV),Aq Z η w azs cs S→GP azs=some (x,c,as')→
 ∃A B,Bn S A B∧Ad Z η w (.bv x c) x A∧Aq Z η w as' cs B
 |[],cs,S,x,c,as',h,hf=>by simp [GP] at hf
 |a::azs,cs,S,x,c,as',h,hf=>by
  simp only[Aq] at h
  obtain⟨v,cs',A,B,e,hj,h1,h2⟩:=h
  simp only[GP] at hf
  split at hf
  ·rename_i x' d' a' ht
   simp only[Option.some.injEq,Prod.mk.injEq] at hf;obtain⟨rfl,rfl,rfl⟩:=hf
   obtain⟨A1,B1,hj2,y,z⟩:=a4J a v A _ _ _ h1 ht
   obtain⟨E,h5,h6⟩:=WS hj hj2
   refine⟨A1,E,h5,y,?_⟩
   simp only[Aq];exact⟨v,cs',B1,B,e,h6,z,h2⟩
  ·split at hf
   ·rename_i x' d' c' ht
    simp only[Option.some.injEq,Prod.mk.injEq] at hf;obtain⟨rfl,rfl,rfl⟩:=hf
    obtain⟨A1,B1,hj2,y,z⟩:=LZ azs cs' B _ _ _ h2 ht
    obtain⟨E,h5,h6⟩:=Ic hj hj2
    refine⟨A1,E,h5,y,?_⟩
    simp only[Aq];exact⟨v,cs',A,B1,e,h6,h1,z⟩
   ·cases hf
end
mutual
theorem a4K{n:Nat}:∀(a:AV) (x:Value) (c:List AV) (a':AV),AP n a→Co a=some (x,c,a')→AX n c∧AP n a'
 | .bv y d,x,c,a',h,hf=>by
   simp only[Co,Option.some.injEq,Prod.mk.injEq] at hf
   obtain⟨rfl,rfl,rfl⟩:=hf
   simp only[AP] at h;exact⟨h,trivial⟩
 | .box i d,x,c,a',h,hf=>by
   simp only[Co] at hf
   split at hf
   ·rename_i x' d' c' ht
    simp only[Option.some.injEq,Prod.mk.injEq] at hf;obtain⟨rfl,rfl,rfl⟩:=hf
    simp only[AP] at h ⊢
    obtain⟨y,z⟩:=Ma d _ _ _ h.2 ht
    exact⟨y,h.1,z⟩
   ·cases hf
 | .agg fs,x,c,a',h,hf=>by
   simp only[Co] at hf
   split at hf
   ·rename_i x' d' c' ht
    simp only[Option.some.injEq,Prod.mk.injEq] at hf;obtain⟨rfl,rfl,rfl⟩:=hf
    simp only[AP] at h ⊢;exact Ma fs _ _ _ h ht
   ·cases hf
 | .tup fs,x,c,a',h,hf=>by
   simp only[Co] at hf
   split at hf
   ·rename_i x' d' c' ht
    simp only[Option.some.injEq,Prod.mk.injEq] at hf;obtain⟨rfl,rfl,rfl⟩:=hf
    simp only[AP] at h ⊢;exact Ma fs _ _ _ h ht
   ·cases hf
 | .clo _ _,x,c,a',h,hf=>by simp [Co] at hf
 | .sl _ _ _ _ _ _,x,c,a',h,hf=>by simp [Co] at hf
 | .int _ _,x,c,a',h,hf=>by simp [Co] at hf
 | .bool _,x,c,a',h,hf=>by simp [Co] at hf
 | .str _,x,c,a',h,hf=>by simp [Co] at hf
 | .val _,x,c,a',h,hf=>by simp [Co] at hf
 | .any,x,c,a',h,hf=>by simp [Co] at hf
 | .top,x,c,a',h,hf=>by simp [Co] at hf
 | .nil,x,c,a',h,hf=>by simp [Co] at hf
 | .hole _,x,c,a',h,hf=>by simp [Co] at hf
 | .hv _,x,c,a',h,hf=>by simp [Co] at hf
 | .al _,x,c,a',h,hf=>by simp [Co] at hf
 | .po _ _ _ _,x,c,a',h,hf=>by simp [Co] at hf
 | .pf _,x,c,a',h,hf=>by simp [Co] at hf
theorem Ma{n:Nat}:∀(azs:List AV) (x:Value) (c:List AV) (as':List AV),AX n azs→GP azs=some (x,c,as')→AX n c∧AX n as'
 |[],x,c,as',h,hf=>by simp [GP] at hf
 |a::azs,x,c,as',h,hf=>by
  simp only[GP] at hf
  split at hf
  ·rename_i x' d' a' ht
   simp only[Option.some.injEq,Prod.mk.injEq] at hf;obtain⟨rfl,rfl,rfl⟩:=hf
   obtain⟨y,z⟩:=a4K a _ _ _ h.1 ht
   exact⟨y,z,h.2⟩
  ·split at hf
   ·rename_i x' d' c' ht
    simp only[Option.some.injEq,Prod.mk.injEq] at hf;obtain⟨rfl,rfl,rfl⟩:=hf
    obtain⟨y,z⟩:=Ma azs _ _ _ h.2 ht
    exact⟨y,h.1,z⟩
   ·cases hf
end
mutual
theorem a4L{Z:FP}{η:Nat→Value}{w:World}{c:List AV}{A:FP}:∀(a:AV) (v:Value) (B S:FP) (x:Value) (a':AV),Ad Z η w a v B→Bn S A B→
 Cp c a=some (x,a')→Ad Z η w (.bv x c) x A→Ad Z η w a' v S
 | .hv y,v,B,S,x,a',h,hj,hf,ho=>by
   simp only[Cp,Option.some.injEq,Prod.mk.injEq] at hf
   obtain⟨rfl,rfl⟩:=hf
   simp only[Ad,Am] at h
   rw[h.1,EL (Wq hj h.2.2)];exact ho
 | .box i d,v,B,S,x,a',h,hj,hf,ho=>by
   simp only[Cp] at hf
   split at hf
   ·rename_i x' c' hc
    simp only[Option.some.injEq,Prod.mk.injEq] at hf;obtain⟨rfl,rfl⟩:=hf
    simp only[Ad] at h ⊢
    obtain⟨e0,b,arr,ty,S1,e,hb,hr,hj2⟩:=h
    obtain⟨E,h5,h6⟩:=Ic hj hj2
    exact⟨e0,b,arr,ty,E,e,hb,Nv d _ S1 E _ _ hr h6 hc ho,h5⟩
   ·cases hf
 | .agg fs,v,B,S,x,a',h,hj,hf,ho=>by
   simp only[Cp] at hf
   split at hf
   ·rename_i x' c' hc
    simp only[Option.some.injEq,Prod.mk.injEq] at hf;obtain⟨rfl,rfl⟩:=hf
    simp only[Ad] at h ⊢
    obtain⟨cs,e,hr⟩:=h
    exact⟨cs,e,Nv fs _ B S _ _ hr hj hc ho⟩
   ·cases hf
 | .tup fs,v,B,S,x,a',h,hj,hf,ho=>by
   simp only[Cp] at hf
   split at hf
   ·rename_i x' c' hc
    simp only[Option.some.injEq,Prod.mk.injEq] at hf;obtain⟨rfl,rfl⟩:=hf
    simp only[Ad] at h ⊢
    obtain⟨cs,e,hr⟩:=h
    exact⟨cs,e,Nv fs _ B S _ _ hr hj hc ho⟩
   ·cases hf
 | .bv _ _,v,B,S,x,a',h,hj,hf,ho=>by simp [Cp] at hf
 | .clo _ _,v,B,S,x,a',h,hj,hf,ho=>by simp [Cp] at hf
 | .sl _ _ _ _ _ _,v,B,S,x,a',h,hj,hf,ho=>by simp [Cp] at hf
 | .int _ _,v,B,S,x,a',h,hj,hf,ho=>by simp [Cp] at hf
 | .bool _,v,B,S,x,a',h,hj,hf,ho=>by simp [Cp] at hf
 | .str _,v,B,S,x,a',h,hj,hf,ho=>by simp [Cp] at hf
 | .val _,v,B,S,x,a',h,hj,hf,ho=>by simp [Cp] at hf
 | .any,v,B,S,x,a',h,hj,hf,ho=>by simp [Cp] at hf
 | .top,v,B,S,x,a',h,hj,hf,ho=>by simp [Cp] at hf
 | .nil,v,B,S,x,a',h,hj,hf,ho=>by simp [Cp] at hf
 | .hole _,v,B,S,x,a',h,hj,hf,ho=>by simp [Cp] at hf
 | .al _,v,B,S,x,a',h,hj,hf,ho=>by simp [Cp] at hf
 | .po _ _ _ _,v,B,S,x,a',h,hj,hf,ho=>by simp [Cp] at hf
 | .pf _,v,B,S,x,a',h,hj,hf,ho=>by simp [Cp] at hf
theorem Nv{Z:FP}{η:Nat→Value}{w:World}{c:List AV}{A:FP}:∀(azs:List AV) (cs:List Value) (B S:FP) (x:Value) (as':List AV),Aq Z η w azs cs B→Bn S A B→
 Gt c azs=some (x,as')→Ad Z η w (.bv x c) x A→Aq Z η w as' cs S
 |[],cs,B,S,x,as',h,hj,hf,ho=>by simp [Gt] at hf
 |a::azs,cs,B,S,x,as',h,hj,hf,ho=>by
  simp only[Aq] at h
  obtain⟨v,cs',A1,B1,e,hj2,h1,h2⟩:=h
  simp only[Gt] at hf
  split at hf
  ·rename_i x' a1 ht
   simp only[Option.some.injEq,Prod.mk.injEq] at hf;obtain⟨rfl,rfl⟩:=hf
   obtain⟨E,h5,h6⟩:=Jw hj hj2
   simp only[Aq]
   exact⟨v,cs',E,B1,e,h5,a4L a v A1 E _ _ h1 h6 ht ho,h2⟩
  ·split at hf
   ·rename_i x' as1 ht
    simp only[Option.some.injEq,Prod.mk.injEq] at hf;obtain⟨rfl,rfl⟩:=hf
    obtain⟨E,h5,h6⟩:=Ic hj hj2
    simp only[Aq]
    exact⟨v,cs',A1,E,e,h5,h1,Nv azs cs' B1 E _ _ h2 h6 ht ho⟩
   ·cases hf
end
mutual
theorem a4M{n:Nat}{c:List AV}(hc:AX n c):∀(a:AV) (x:Value) (a':AV),AP n a→Cp c a=some (x,a')→AP n a'
 | .hv y,x,a',h,hf=>by
   simp only[Cp,Option.some.injEq,Prod.mk.injEq] at hf
   obtain⟨rfl,rfl⟩:=hf
   simp only[AP];exact hc
 | .box i d,x,a',h,hf=>by
   simp only[Cp] at hf
   split at hf
   ·rename_i x' c' ht
    simp only[Option.some.injEq,Prod.mk.injEq] at hf;obtain⟨rfl,rfl⟩:=hf
    simp only[AP] at h ⊢;exact⟨h.1,Nw hc d _ _ h.2 ht⟩
   ·cases hf
 | .agg fs,x,a',h,hf=>by
   simp only[Cp] at hf
   split at hf
   ·rename_i x' c' ht
    simp only[Option.some.injEq,Prod.mk.injEq] at hf;obtain⟨rfl,rfl⟩:=hf
    simp only[AP] at h ⊢;exact Nw hc fs _ _ h ht
   ·cases hf
 | .tup fs,x,a',h,hf=>by
   simp only[Cp] at hf
   split at hf
   ·rename_i x' c' ht
    simp only[Option.some.injEq,Prod.mk.injEq] at hf;obtain⟨rfl,rfl⟩:=hf
    simp only[AP] at h ⊢;exact Nw hc fs _ _ h ht
   ·cases hf
 | .bv _ _,x,a',h,hf=>by simp [Cp] at hf
 | .clo _ _,x,a',h,hf=>by simp [Cp] at hf
 | .sl _ _ _ _ _ _,x,a',h,hf=>by simp [Cp] at hf
 | .int _ _,x,a',h,hf=>by simp [Cp] at hf
 | .bool _,x,a',h,hf=>by simp [Cp] at hf
 | .str _,x,a',h,hf=>by simp [Cp] at hf
 | .val _,x,a',h,hf=>by simp [Cp] at hf
 | .any,x,a',h,hf=>by simp [Cp] at hf
 | .top,x,a',h,hf=>by simp [Cp] at hf
 | .nil,x,a',h,hf=>by simp [Cp] at hf
 | .hole _,x,a',h,hf=>by simp [Cp] at hf
 | .al _,x,a',h,hf=>by simp [Cp] at hf
 | .po _ _ _ _,x,a',h,hf=>by simp [Cp] at hf
 | .pf _,x,a',h,hf=>by simp [Cp] at hf
theorem Nw{n:Nat}{c:List AV}(hc:AX n c):∀(azs:List AV) (x:Value) (as':List AV),AX n azs→Gt c azs=some (x,as')→AX n as'
 |[],x,as',h,hf=>by simp [Gt] at hf
 |a::azs,x,as',h,hf=>by
  simp only[Gt] at hf
  split at hf
  ·rename_i x' a1 ht
   simp only[Option.some.injEq,Prod.mk.injEq] at hf;obtain⟨rfl,rfl⟩:=hf
   exact⟨a4M hc a _ _ h.1 ht,h.2⟩
  ·split at hf
   ·rename_i x' as1 ht
    simp only[Option.some.injEq,Prod.mk.injEq] at hf;obtain⟨rfl,rfl⟩:=hf
    exact⟨h.1,Nw hc azs _ _ h.2 ht⟩
   ·cases hf
end
end Go.Eng
end
section
set_option linter.unusedVariables false
set_option linter.unusedSimpArgs false
namespace Go.Eng
mutual
def fz:AV→AV
 | .sl _ _ sz α f xs=> .sl false 0 sz α (fun x=>fzL (f x)) xs
 | .box _ _=> .any
 | .bv _ _=> .any
 | .hv _=> .any
 | .clo _ _=> .any
 | .agg fs=> .agg (fzL fs)
 | .tup fs=> .tup (fzL fs)
 |a=>a
def fzL:List AV→List AV
 |[]=>[]
 |a::azs=>fz a::fzL azs
end
theorem SG{α:Type}{sz:Nat}{R R':α→List Value→FP→Prop}:∀(xs:List α) (cs:List Value) (S:FP),
 (∀x cs A,(∀b,A b→S b)→R x cs A→R' x cs (fun _=>False))→Rows sz R xs cs S→Rows sz R' xs cs (fun _=>False)
 |[],_,_,_,h=>AW
 |x::xs,cs,S,hr,h=>by
  obtain⟨A,B,hj,hl,h1,h2⟩:=h
  exact⟨_,_,Cj _,hl,hr _ _ _ (fun b hb=>(hj.1 b).2 (.inl hb)) h1,SG xs _ B (fun x cs A' hA=>hr x cs A' (fun b hb=>(hj.1 b).2 (.inr (hA b hb)))) h2⟩
mutual
theorem WU{Z Z':FP}{w:World}(hZ:∀b,¬Z b→¬Z' b):∀(a:AV) (v:Value) (S:FP),(∀b,S b→¬Z' b)→Am Z w a v S→Am Z' w (fz a) v (fun _=>False)
 | .int _ _,v,S,hS,h=>by simp only[Am,fz] at h ⊢;exact⟨h.1,AW⟩
 | .bool _,v,S,hS,h=>by simp only[Am,fz] at h ⊢;exact⟨h.1,AW⟩
 | .str _,v,S,hS,h=>by simp only[Am,fz] at h ⊢;exact⟨h.1,AW⟩
 | .val _,v,S,hS,h=>by simp only[Am,fz] at h ⊢;exact⟨h.1,h.2.1,AW⟩
 | .any,v,S,hS,h=>by simp only[Am,fz] at h ⊢;exact⟨h.1,AW⟩
 | .top,v,S,hS,h=>by simp only[Am,fz] at h ⊢;exact AW
 | .nil,v,S,hS,h=>by simp only[Am,fz] at h ⊢;exact⟨h.1,AW⟩
 | .hole _,v,S,hS,h=>by simp only[Am] at h
 | .al _,v,S,hS,h=>by simp only[Am] at h
 | .po _ _ _ _,v,S,hS,h=>by simp only[Am] at h
 | .agg fs,v,S,hS,h=>by simp only[Am,fz] at h ⊢;obtain⟨cs,e,h⟩:=h;exact⟨cs,e,Mb hZ fs cs S hS h⟩
 | .tup fs,v,S,hS,h=>by simp only[Am,fz] at h ⊢;obtain⟨cs,e,h⟩:=h;exact⟨cs,e,Mb hZ fs cs S hS h⟩
 | .clo _ _,v,S,hS,h=>by simp only[Am,fz] at h ⊢;obtain⟨cs,e,h⟩:=h;exact⟨by rw[e];exact Ng,AW⟩
 | .box _ _,v,S,hS,h=>by simp only[Am,fz] at h ⊢;obtain⟨b,arr,ty,S1,e,_⟩:=h;exact⟨by rw[e];trivial,AW⟩
 | .bv _ _,v,S,hS,h=>by simp only[Am,fz] at h ⊢;obtain⟨_,b,arr,ty,S1,e,_⟩:=h;exact⟨by rw[e];trivial,AW⟩
 | .hv _,v,S,hS,h=>by simp only[Am,fz] at h ⊢;exact⟨by rw[h.1];exact h.2.1,AW⟩
 | .pf c,v,S,hS,h=>by
   simp only[Am,fz] at h ⊢
   obtain⟨he,b,off,arr,ty,fr,cs,rest,S1,e,hz,hb,hd,hr,h1⟩:=h
   exact⟨AW,b,off,arr,ty,fr,cs,rest,S1,e,hZ b hz,hb,hd,Dv (fun b hb _=>⟨hZ b hb,rfl⟩) _ _ _ (fun _ _=>rfl) hr,h1⟩
 | .sl own _ sz α f xs,v,S,hS,h=>by
   simp only[Am,fz] at h ⊢
   obtain⟨a,n,c,e,hn,hc,h⟩:=h
   refine⟨a,n,c,e,hn,hc,.inr ⟨trivial,AW,?_⟩⟩
   rcases h with⟨ho,h⟩|⟨ho,he,h⟩
   ·rcases h with⟨ha,hc0,_⟩|⟨b,off,arr,ty,S1,ha,hb,hsz,hr,hj⟩
    ·left;cases xs with
     |nil=>rfl
     |cons x xs=>simp at hn;omega
    ·right
     refine⟨b,off,arr,ty,(0,0),ha,hS b ((hj.1 b).2 (.inl rfl)),hb,?_⟩
     exact SG xs _ S1 (fun x cs A hA hx=>Mb hZ (f x) cs A (fun b hb=>hS b ((hj.1 b).2 (.inr (hA b hb)))) hx) hr
   ·rcases h with h|⟨b,off,arr,ty,fr,ha,hz,hb,hr⟩
    ·exact .inl h
    ·refine .inr ⟨b,off,arr,ty,fr,ha,hZ b hz,hb,?_⟩
     exact SG xs _ S (fun x cs A hA hx=>Mb hZ (f x) cs A (fun b hb=>hS b (hA b hb)) hx) hr
theorem Mb{Z Z':FP}{w:World}(hZ:∀b,¬Z b→¬Z' b):∀(azs:List AV) (cs:List Value) (S:FP),(∀b,S b→¬Z' b)→AZ Z w azs cs S→AZ Z' w (fzL azs) cs (fun _=>False)
 |[],cs,S,hS,h=>by simp only[AZ,fzL] at h ⊢;exact⟨h.1,AW⟩
 |a::azs,cs,S,hS,h=>by
  simp only[AZ,fzL] at h ⊢
  obtain⟨v,cs',A,B,e,hj,h1,h2⟩:=h
  exact⟨v,cs',_,_,e,Cj _,WU hZ a v A (fun b hb=>hS b ((hj.1 b).2 (.inl hb))) h1,Mb hZ azs cs' B (fun b hb=>hS b ((hj.1 b).2 (.inr hb))) h2⟩
end
mutual
def EO(id:Nat)(g:AV):AV→AV
 | .hole i=>match Nat.beq i id with|true=>g|false=> .hole i
 | .al i=>match Nat.beq i id with|true=>g|false=> .al i
 | .box i c=> .box i (GQ id g c)
 | .bv x c=> .bv x (GQ id g c)
 | .agg fs=> .agg (GQ id g fs)
 | .tup fs=> .tup (GQ id g fs)
 | .clo fn fs=> .clo fn (GQ id g fs)
 |a=>a
def GQ(id:Nat)(g:AV):List AV→List AV
 |[]=>[]
 |a::azs=>EO id g a::GQ id g azs
end
mutual
theorem a4N{Z:FP}{η:Nat→Value}{w:World}{id:Nat}{g:AV}(hg:Ad Z η w g (η id) (fun _=>False)):∀(a:AV) (v:Value) (S:FP),Ad Z η w a v S→Ad Z η w (EO id g a) v S
 | .hole i,v,S,h=>by
   simp only[EO];split
   ·rename_i hb;have:=Nat.eq_of_beq_eq_true hb;subst this
    simp only[Ad] at h;rw[h.1,EA h.2.2];exact hg
   ·exact h
 | .al i,v,S,h=>by
   simp only[EO];split
   ·rename_i hb;have:=Nat.eq_of_beq_eq_true hb;subst this
    simp only[Ad] at h;rw[h.1,EA h.2.2];exact hg
   ·exact h
 | .box i c,v,S,h=>by
   simp only[Ad,EO] at h ⊢
   obtain⟨e0,b,arr,ty,S1,e,hb,hr,hj⟩:=h
   exact⟨e0,b,arr,ty,S1,e,hb,JD hg c _ S1 hr,hj⟩
 | .bv x c,v,S,h=>by
   simp only[Ad,EO] at h ⊢
   obtain⟨e0,b,arr,ty,S1,e,hb,hr,hj⟩:=h
   exact⟨e0,b,arr,ty,S1,e,hb,JD hg c _ S1 hr,hj⟩
 | .hv _,v,S,h=>h
 | .agg fs,v,S,h=>by simp only[Ad,EO] at h ⊢;obtain⟨cs,e,h⟩:=h;exact⟨cs,e,JD hg fs cs S h⟩
 | .tup fs,v,S,h=>by simp only[Ad,EO] at h ⊢;obtain⟨cs,e,h⟩:=h;exact⟨cs,e,JD hg fs cs S h⟩
 | .clo fn fs,v,S,h=>by simp only[Ad,EO] at h ⊢;obtain⟨cs,e,h⟩:=h;exact⟨cs,e,JD hg fs cs S h⟩
 | .sl _ _ _ _ _ _,v,S,h=>h
 | .int _ _,v,S,h=>h
 | .bool _,v,S,h=>h
 | .str _,v,S,h=>h
 | .val _,v,S,h=>h
 | .any,v,S,h=>h
 | .top,v,S,h=>h
 | .nil,v,S,h=>h
 | .po _ _ _ _,v,S,h=>h
 | .pf _,v,S,h=>h
theorem JD{Z:FP}{η:Nat→Value}{w:World}{id:Nat}{g:AV}(hg:Ad Z η w g (η id) (fun _=>False)):∀(azs:List AV) (cs:List Value) (S:FP),Aq Z η w azs cs S→Aq Z η w (GQ id g azs) cs S
 |[],cs,S,h=>h
 |a::azs,cs,S,h=>by
  simp only[Aq,GQ] at h ⊢
  obtain⟨v,cs',A,B,e,hj,h1,h2⟩:=h
  exact⟨v,cs',A,B,e,hj,a4N hg a v A h1,JD hg azs cs' B h2⟩
end
mutual
theorem a4O{n id:Nat}{g:AV}(hg:AP n g):∀(a:AV),AP n a→AP n (EO id g a)
 | .hole i,h=>by simp only[EO];split<;>first|exact hg|exact h
 | .al i,h=>by simp only[EO];split<;>first|exact hg|exact h
 | .box i c,h=>by simp only[AP,EO] at h ⊢;exact⟨h.1,JE hg c h.2⟩
 | .bv _ c,h=>by simp only[AP,EO] at h ⊢;exact JE hg c h
 | .hv _,h=>h
 | .agg fs,h=>by simp only[AP,EO] at h ⊢;exact JE hg fs h
 | .tup fs,h=>by simp only[AP,EO] at h ⊢;exact JE hg fs h
 | .clo fn fs,h=>by simp only[AP,EO] at h ⊢;exact JE hg fs h
 | .sl _ _ _ _ _ _,h=>h
 | .int _ _,h=>h
 | .bool _,h=>h
 | .str _,h=>h
 | .val _,h=>h
 | .any,h=>h
 | .top,h=>h
 | .nil,h=>h
 | .po _ _ _ _,h=>h
 | .pf _,h=>h
theorem JE{n id:Nat}{g:AV}(hg:AP n g):∀(azs:List AV),AX n azs→AX n (GQ id g azs)
 |[],h=>h
 |a::azs,h=>by simp only[AX,GQ] at h ⊢;exact⟨a4O hg a h.1,JE hg azs h.2⟩
end
def SH:AV→Bool
 | .int _ _=>true
 | .bool _=>true
 | .str _=>true
 | .val _=>true
 | .any=>true
 | .nil=>true
 | .pf _=>true
 | .sl _ _ _ _ _ _=>true
 |_=>false
def Mc:List AV→Bool
 |[]=>true
 |a::azs=>match SH a with
  |true=>Mc azs
  |false=>false
theorem a4P{Z:FP}{η:Nat→Value}{w:World}{a:AV}{v:Value}{S:FP}(hp:SH a=true)(h:Ad Z η w a v S):Am Z w a v S:=by
 cases a<;>simp only[SH,Bool.false_eq_true] at hp<;>simp only[Ad] at h<;>first|exact h|exact h.2
theorem WV{Z:FP}{η:Nat→Value}{w:World}:∀ {azs:List AV} {cs:List Value} {S:FP},Mc azs=true→Aq Z η w azs cs S→AZ Z w azs cs S
 |[],cs,S,_,h=>by simp only[Aq] at h;simp only[AZ];exact h
 |a::azs,cs,S,hp,h=>by
  unfold Mc at hp
  split at hp
  ·rename_i ha
   simp only[Aq] at h
   obtain⟨v,cs',A,B,e,hj,h1,h2⟩:=h
   simp only[AZ]
   exact⟨v,cs',A,B,e,hj,a4P ha h1,WV hp h2⟩
  ·cases hp
theorem WW{Z:FP}{η:Nat→Value}{w:World}{i:Nat}{c:List AV}{v:Value}{A:FP}(hp:Mc c=true)(h:Ad Z η w (.box i c) v A):
 Am (fun b=>Z b∧¬A b) w (.pf (fzL c)) v (fun _=>False):=by
 simp only[Ad] at h
 obtain⟨e0,b,arr,ty,S1,e,hb,hr,hj⟩:=h
 have hr':=Mb (Z':=fun b=>Z b∧¬A b) (fun b hb x=>hb x.1) c arr.toList S1 (fun x hx y=>y.2 ((hj.1 x).2 (.inr hx))) (WV hp hr)
 simp only[Am]
 exact⟨AW,b,0,arr,ty,_,arr.toList,[],_,e,fun x=>x.2 ((hj.1 b).2 (.inl rfl)),hb,by simp,hr',AW⟩
def Nx:Fn→Fn→Bool
 | .func a,.func b=>Nat.beq a b
 | .yield a,.yield b=>Nat.beq a b
 |_,_=>false
theorem SI{a b:Fn}(h:Nx a b=true):a=b:=by
 cases a<;>cases b<;>simp only[Nx,Bool.false_eq_true] at h
 ·rw[Nat.eq_of_beq_eq_true h]
 ·rw[Nat.eq_of_beq_eq_true h]
mutual
def DH(bw:Bool):AV→List AV→AV→(List AV→Prop)→Prop
 | .int k n,regs,a,K=>match a with
   | .int k' m=>match Np k k' with
     |true=>m=n∧K regs
     |false=>False
   |_=>False
 | .bool b,regs,a,K=>match a with
   | .bool c=>c=b∧K regs
   |_=>False
 | .str l,regs,a,K=>match a with
   | .str m=>m=l∧K regs
   |_=>False
 | .val v,regs,a,K=>match a with
   | .val u=>u=v∧K regs
   |_=>False
 | .nil,regs,a,K=>match a with
   | .nil=>K regs
   |_=>False
 | .any,regs,a,K=>match Hn a with
   |true=>K regs
   |false=>False
 | .top,regs,a,K=>K regs
 | .agg es,regs,a,K=>match a with
   | .agg azs=>DI bw es regs azs K
   |_=>False
 | .tup es,regs,a,K=>match a with
   | .tup azs=>DI bw es regs azs K
   |_=>False
 | .clo fn es,regs,a,K=>match a with
   | .clo fn' azs=>match Nx fn' fn with
     |true=>DI bw es regs azs K
     |false=>False
   |_=>False
 | .pf c,regs,a,K=>match a with
   | .pf c'=>AV.pf c'=AV.pf c∧K regs
   | .al id=>match bw with
     |true=>match DG id regs with
      |some (.box _ c')=>match Mc c' with
       |true=>AV.pf (fzL c')=AV.pf c∧K regs
       |false=>False
      |_=>False
     |false=>match DA id regs with
      |some (.box _ c',regs')=>match Mc c' with
       |true=>AV.pf (fzL c')=AV.pf c∧K (GQ id (.pf (fzL c')) regs')
       |false=>False
      |_=>False
   |_=>False
 | .box _ c,regs,a,K=>match a with
   | .box _ c'=>DI bw c regs c' K
   | .al id=>match bw with
     |true=>False
     |false=>match DA id regs with
      |some (.box _ c',regs')=>DI bw c regs' c' K
      |_=>False
   | .val v=>match bw with
     |true=>False
     |false=>match GP regs with
      |some (x,c',regs')=>x=v∧DI bw c regs' c' K
      |none=>False
   |_=>False
 | .bv y c,regs,a,K=>match a with
   | .bv x c'=>x=y∧DI bw c regs c' K
   | .val v=>match bw with
     |true=>False
     |false=>match GP regs with
      |some (x,c',regs')=>(x=v∧x=y)∧DI bw c regs' c' K
      |none=>False
   |_=>False
 | .sl true _ sz α f xs,regs,a,K=>match a with
   | .nil=>xs=[]∧K regs
   | .sl true _ sz' α' f' xs'=>AV.sl true 0 sz' α' f' xs'=AV.sl true 0 sz α f xs∧K regs
   | .al id=>match bw with
     |true=>False
     |false=>match DA id regs with
      |some (.sl true _ sz' α' f' xs',regs')=>AV.sl true 0 sz' α' f' xs'=AV.sl true 0 sz α f xs∧K regs'
      |_=>False
   |_=>False
 | .sl false _ sz α f xs,regs,a,K=>match a with
   | .nil=>xs=[]∧K regs
   | .sl false _ sz' α' f' xs'=>AV.sl false 0 sz' α' f' xs'=AV.sl false 0 sz α f xs∧K regs
   | .sl true _ sz' α' f' xs'=>AV.sl false 0 sz' α' (fun x=>fzL (f' x)) xs'=AV.sl false 0 sz α f xs∧K regs
   | .al id=>match bw with
     |true=>match DG id regs with
      |some (.sl true _ sz' α' f' xs')=>AV.sl false 0 sz' α' (fun x=>fzL (f' x)) xs'=AV.sl false 0 sz α f xs∧K regs
      |_=>False
     |false=>match DA id regs with
      |some (.sl true _ sz' α' f' xs',regs')=>AV.sl false 0 sz' α' (fun x=>fzL (f' x)) xs'=AV.sl false 0 sz α f xs∧
        K (GQ id (.sl false 0 sz' α' (fun x=>fzL (f' x)) xs') regs')
      |_=>False
   |_=>False
 | .hole _,_,_,_=>False
 | .hv _,_,_,_=>False
 | .al _,_,_,_=>False
 | .po _ _ _ _,_,_,_=>False
def DI(bw:Bool):List AV→List AV→List AV→(List AV→Prop)→Prop
 |[],regs,azs,K=>match azs with
  |[]=>K regs
  |_::_=>False
 |e::es,regs,azs,K=>match azs with
  |[]=>False
  |a::azs=>DH bw e regs a (fun regs'=>DI bw es regs' azs K)
end
theorem IM{Z:FP}{w:World}{i j sz sz':Nat}{α α':Type}{f:α→List AV}{f':α'→List AV}{xs:List α}{xs':List α'}{v:Value}{S:FP}{own:Bool}
 (he:AV.sl own 0 sz' α' f' xs'=AV.sl own 0 sz α f xs) (h:Am Z w (.sl own i sz' α' f' xs') v S):Am Z w (.sl own j sz α f xs) v S:=by
 injection he with _ _ h1 h2 h3 h4
 subst h1;subst h2
 have h3:=eq_of_heq h3;have h4:=eq_of_heq h4
 subst h3;subst h4
 simpa only[Am] using h
structure Handed (Z Z':FP) (S A B:FP):Prop where
 zz:∀b,Z' b→Z b
 gone:∀b,Z b→¬Z' b→S b
 part:∀b,A b∨B b→S b
 dis:∀b,A b→B b→False
 ownA:∀b,A b→Z b→Z' b
end Go.Eng
end
section
set_option linter.unusedVariables false
set_option linter.unusedSimpArgs false
namespace Go.Eng
structure HOut (bw:Bool) (Z:FP) (η:Nat→Value) (w:World) (n:Nat) (vs:List Value) (S A:FP) (R:FP→FP→Prop) (K:List AV→Prop) (regs0:List AV)
 (Z' A' B':FP) (regs':List AV):Prop where
 rel:Aq Z' η w regs' vs B'
 ids:AX n regs'
 got:R Z' A'
 zz:∀b,Z' b→Z b
 gone:∀b,Z b→¬Z' b→S b
 part:∀b,A' b∨B' b→S b
 dis:∀b,A' b→B' b→False
 ownA:∀b,A' b→Z b→Z' b
 ownB:bw=false→∀b,B' b→Z b→Z' b
 stay:bw=true→∀b,A' b→A b
 fix:bw=true→regs'=regs0
 k:K regs'
theorem GR{Z Z':FP}{w:World}(h:∀b,Z' b→Z b):∀b,¬Z b→b<w.heap.size→¬Z' b∧w.heap[b]? =w.heap[b]? :=fun b hb _=>⟨fun x=>hb (h b x),rfl⟩
theorem HOut.same{bw:Bool}{Z:FP}{η:Nat→Value}{w:World}{n:Nat}{vs:List Value}{S A B:FP}{R:FP→FP→Prop}{K:List AV→Prop}{regs:List AV}
 (hj:Bn S A B) (hR:Aq Z η w regs vs B) (hI:AX n regs) {A':FP} (hA:∀b,A' b→A b) (hr:R Z A') (k:K regs):HOut bw Z η w n vs S A R K regs Z A' B regs:=
 ⟨hR,hI,hr,fun _ h=>h,fun _ h h'=>(h' h).elim,fun b h=>(hj.1 b).2 (h.imp (hA b) id),fun b x y=>hj.2 b (hA b x) y,fun _ _ h=>h,fun _ _ _ h=>h,fun _=>hA,fun _=>rfl,k⟩
theorem SJ{Z:FP}{η:Nat→Value}{w:World}{own:Bool}{id sz:Nat}{α:Type}{f:α→List AV}{xs:List α}{v:Value}{A:FP}{i:Nat}{own':Bool}
 (h:Ad Z η w (.sl own i sz α f xs) v A):
 Am (fun b=>Z b∧¬A b) w (.sl false 0 sz α (fun x=>fzL (f x)) xs) v (fun _=>False):=by
 simp only[Ad] at h
 have:=WU (Z:=Z) (Z':=fun b=>Z b∧¬A b) (fun b hb x=>hb x.1) _ _ _ (fun b hb x=>x.2 hb) h.2
 simpa only[fz] using this
mutual
theorem WX{bw:Bool}{η:Nat→Value}{w:World}{n:Nat}:∀(e:AV) (regs:List AV) (a:AV) (K:List AV→Prop),DH bw e regs a K→
 ∀(Z:FP) (vs:List Value) (v:Value) (B A S:FP),Aq Z η w regs vs B→AX n regs→Ad Z η w a v A→AP n a→Bn S A B→
 ∃Z' A' B' regs',HOut bw Z η w n vs S A (fun Z' A'=>Am Z' w e v A') K regs Z' A' B' regs'
 | .int k m,regs,a,K,h,Z,vs,v,B,A,S,hR,hI,ha,hai,hj=>by
   unfold DH at h;split at h
   ·rename_i k' m'
    split at h
    ·rename_i hk;have hk:=OX hk;subst hk
     obtain⟨rfl,h⟩:=h
     exact⟨_,_,_,_,HOut.same hj hR hI (fun _ h=>h) (by simpa only[Ad] using ha) h⟩
    ·exact h.elim
   ·exact h.elim
 | .bool b,regs,a,K,h,Z,vs,v,B,A,S,hR,hI,ha,hai,hj=>by
   unfold DH at h;split at h
   ·obtain⟨rfl,h⟩:=h
    exact⟨_,_,_,_,HOut.same hj hR hI (fun _ h=>h) (by simpa only[Ad] using ha) h⟩
   ·exact h.elim
 | .str l,regs,a,K,h,Z,vs,v,B,A,S,hR,hI,ha,hai,hj=>by
   unfold DH at h;split at h
   ·obtain⟨rfl,h⟩:=h
    exact⟨_,_,_,_,HOut.same hj hR hI (fun _ h=>h) (by simpa only[Ad] using ha) h⟩
   ·exact h.elim
 | .val x,regs,a,K,h,Z,vs,v,B,A,S,hR,hI,ha,hai,hj=>by
   unfold DH at h;split at h
   ·obtain⟨rfl,h⟩:=h
    exact⟨_,_,_,_,HOut.same hj hR hI (fun _ h=>h) (by simpa only[Ad] using ha) h⟩
   ·exact h.elim
 | .nil,regs,a,K,h,Z,vs,v,B,A,S,hR,hI,ha,hai,hj=>by
   unfold DH at h;split at h
   ·exact⟨_,_,_,_,HOut.same hj hR hI (fun _ h=>h) (by simpa only[Ad] using ha) h⟩
   ·exact h.elim
 | .any,regs,a,K,h,Z,vs,v,B,A,S,hR,hI,ha,hai,hj=>by
   unfold DH at h;split at h
   ·rename_i hl
    refine⟨_,_,_,_,HOut.same hj hR hI (A':=fun _=>False) (fun _ h=>h.elim) ?_ h⟩
    simp only[Am];exact⟨Si ha hl,AW⟩
   ·exact h.elim
 | .top,regs,a,K,h,Z,vs,v,B,A,S,hR,hI,ha,hai,hj=>by
   unfold DH at h
   refine⟨_,_,_,_,HOut.same hj hR hI (A':=fun _=>False) (fun _ h=>h.elim) ?_ h⟩
   simp only[Am];exact AW
 | .agg es,regs,a,K,h,Z,vs,v,B,A,S,hR,hI,ha,hai,hj=>by
   unfold DH at h;split at h
   ·rename_i azs
    simp only[Ad] at ha
    simp only[AP] at hai
    obtain⟨cs,e,ha⟩:=ha
    obtain⟨Z',A',B',regs',ho⟩:=FR es regs azs K h Z vs cs B A S hR hI ha hai hj
    exact⟨Z',A',B',regs',⟨ho.rel,ho.ids,by simp only[Am];exact⟨cs,e,ho.got⟩,ho.zz,ho.gone,ho.part,ho.dis,ho.ownA,ho.ownB,ho.stay,ho.fix,ho.k⟩⟩
   ·exact h.elim
 | .tup es,regs,a,K,h,Z,vs,v,B,A,S,hR,hI,ha,hai,hj=>by
   unfold DH at h;split at h
   ·rename_i azs
    simp only[Ad] at ha
    simp only[AP] at hai
    obtain⟨cs,e,ha⟩:=ha
    obtain⟨Z',A',B',regs',ho⟩:=FR es regs azs K h Z vs cs B A S hR hI ha hai hj
    exact⟨Z',A',B',regs',⟨ho.rel,ho.ids,by simp only[Am];exact⟨cs,e,ho.got⟩,ho.zz,ho.gone,ho.part,ho.dis,ho.ownA,ho.ownB,ho.stay,ho.fix,ho.k⟩⟩
   ·exact h.elim
 | .clo fn es,regs,a,K,h,Z,vs,v,B,A,S,hR,hI,ha,hai,hj=>by
   unfold DH at h;split at h
   ·rename_i fn' azs
    split at h
    rotate_left
    ·exact h.elim
    rename_i hfe
    obtain rfl:=SI hfe
    simp only[Ad] at ha
    simp only[AP] at hai
    obtain⟨cs,e,ha⟩:=ha
    obtain⟨Z',A',B',regs',ho⟩:=FR es regs azs K h Z vs cs B A S hR hI ha hai hj
    exact⟨Z',A',B',regs',⟨ho.rel,ho.ids,by simp only[Am];exact⟨cs,e,ho.got⟩,ho.zz,ho.gone,ho.part,ho.dis,ho.ownA,ho.ownB,ho.stay,ho.fix,ho.k⟩⟩
   ·exact h.elim
 | .pf c,regs,a,K,h,Z,vs,v,B,A,S,hR,hI,ha,hai,hj=>by
   unfold DH at h;split at h
   ·obtain⟨he,h⟩:=h
    rw[he] at ha
    exact⟨_,_,_,_,HOut.same hj hR hI (fun _ h=>h) (by simpa only[Ad] using ha) h⟩
   ·rename_i id
    split at h
    ·split at h
     ·rename_i i c' ho
      split at h
      ·rename_i hp
       obtain⟨he,h⟩:=h
       obtain⟨A1,hA1,hio,hro⟩:=EC regs vs B _ hR ho
       simp only[Ad] at ha
       have hS:S=B:=EL (Gq hj ha.2.2)
       subst hS
       have hfr:=WW hp hro
       have hzz:∀b,(Z b∧¬A1 b)→Z b:=fun b h=>h.1
       refine⟨fun b=>Z b∧¬A1 b,fun _=>False,S,regs,⟨CO (GR hzz) (fun _ _=>rfl) _ _ _ hI (fun _ _=>rfl) hR,hI,?_,hzz,?_,?_,fun _ h=>h.elim,fun _ h=>h.elim,(fun hh=>by simp at hh),(fun _ _ h=>h.elim),(fun _=>rfl),h⟩⟩
       ·rw[ha.1,←he];exact hfr
       ·intro b h1 h2
        exact Classical.byContradiction fun hn=>h2 ⟨h1,fun x=>hn (hA1 b x)⟩
       ·intro b hb;exact hb.resolve_left (fun x=>x)
      ·exact h.elim
     ·exact h.elim
    ·split at h
     ·rename_i i c' regs' ht
      split at h
      ·rename_i hp
       obtain⟨he,h⟩:=h
       obtain⟨A1,B1,hj1,hio,hro,hrr⟩:=ED regs vs B _ _ hR ht
       obtain⟨h1,h2,h3⟩:=Fc regs _ _ hI ht
       simp only[Ad] at ha
       have hS:S=B:=EL (Gq hj ha.2.2)
       subst hS
       have hfr:=WW hp hro
       have hzz:∀b,(Z b∧¬A1 b)→Z b:=fun b h=>h.1
       have hrr':=CO (GR (w:=w) hzz) (fun _ _=>rfl) _ _ _ h3 (fun _ _=>rfl) hrr
       refine⟨fun b=>Z b∧¬A1 b,fun _=>False,B1,_,⟨JD ?_ _ _ _ hrr',JE ?_ _ h3,?_,hzz,?_,?_,fun _ h=>h.elim,fun _ h=>h.elim,?_,(fun _ _ h=>h.elim),(fun hbw=>by cases hbw),h⟩⟩
       ·simp only[Ad];exact hfr
       ·trivial
       ·rw[ha.1,←he];exact hfr
       ·intro b h1 h2
        refine(hj1.1 b).2 (.inl ?_)
        exact Classical.byContradiction fun hn=>h2 ⟨h1,hn⟩
       ·intro b hb;exact(hj1.1 b).2 (.inr (hb.resolve_left (fun x=>x)))
       ·intro _ b hb hz;exact⟨hz,fun x=>hj1.2 b x hb⟩
      ·exact h.elim
     ·exact h.elim
   ·exact h.elim
 | .box j c,regs,a,K,h,Z,vs,v,B,A,S,hR,hI,ha,hai,hj=>by
   have core:∀(regs:List AV) (c':List AV) (i:Nat) (v:Value) (B A S:FP),DI bw c regs c' K→Aq Z η w regs vs B→AX n regs→Ad Z η w (.box i c') v A→AP n (.box i c')→Bn S A B→
    ∃Z' A' B' regs',HOut bw Z η w n vs S A (fun Z' A'=>Am Z' w (.box j c) v A') K regs Z' A' B' regs':=by
    intro regs c' i v B A S h hR hI ha hai hj
    simp only[Ad] at ha
    simp only[AP] at hai
    obtain⟨e0,b,arr,ty,S1,e,hb,hr,hj2⟩:=ha
    obtain⟨Z',A',B',regs',ho⟩:=FR c regs c' K h Z vs arr.toList B S1 (fun x=>S1 x∨B x) hR hI hr hai.2 ⟨fun _=>Iff.rfl,fun x p q=>hj.2 x ((hj2.1 x).2 (.inr p)) q⟩
    have hbA:A b:=(hj2.1 b).2 (.inl rfl)
    have hnot:¬(S1 b∨B b):=fun x=>x.elim (fun x=>hj2.2 b rfl x) (fun x=>hj.2 b hbA x)
    refine⟨Z',fun x=>x=b∨A' x,B',regs',⟨ho.rel,ho.ids,?_,ho.zz,?_,?_,?_,?_,ho.ownB,?_,ho.fix,ho.k⟩⟩
    ·simp only[Am]
     exact⟨b,arr,ty,A',e,hb,ho.got,⟨fun x=>Iff.rfl,fun x p q=>hnot (by have:=ho.part x (.inl q);rw[p] at this;exact this)⟩⟩
    ·intro x hx hx'
     have:=ho.gone x hx hx'
     exact(hj.1 x).2 (this.imp (fun p=>(hj2.1 x).2 (.inr p)) id)
    ·intro x hx
     rcases hx with(hx|hx)|hx
     ·subst hx;exact(hj.1 x).2 (.inl hbA)
     ·exact(hj.1 x).2 ((ho.part x (.inl hx)).imp (fun p=>(hj2.1 x).2 (.inr p)) id)
     ·exact(hj.1 x).2 ((ho.part x (.inr hx)).imp (fun p=>(hj2.1 x).2 (.inr p)) id)
    ·intro x hx hy
     rcases hx with hx|hx
     ·subst hx;exact hnot (ho.part x (.inr hy))
     ·exact ho.dis x hx hy
    ·intro x hx hz
     rcases hx with hx|hx
     ·subst hx
      exact Classical.byContradiction fun hn=>hnot (ho.gone x hz hn)
     ·exact ho.ownA x hx hz
    ·intro hbw x hx
     rcases hx with hx|hx
     ·subst hx;exact hbA
     ·exact(hj2.1 x).2 (.inr (ho.stay hbw x hx))
   have coreV:∀(regs:List AV) (c':List AV) (x:Value) (v:Value) (B A S:FP),DI bw c regs c' K→Aq Z η w regs vs B→AX n regs→Ad Z η w (.bv x c') v A→AX n c'→Bn S A B→
    ∃Z' A' B' regs',HOut bw Z η w n vs S A (fun Z' A'=>Am Z' w (.box j c) v A') K regs Z' A' B' regs':=by
    intro regs c' x v B A S h hR hI ha hai hj
    simp only[Ad] at ha
    obtain⟨e0,b,arr,ty,S1,e,hb,hr,hj2⟩:=ha
    obtain⟨Z',A',B',regs',ho⟩:=FR c regs c' K h Z vs arr.toList B S1 (fun x=>S1 x∨B x) hR hI hr hai ⟨fun _=>Iff.rfl,fun x p q=>hj.2 x ((hj2.1 x).2 (.inr p)) q⟩
    have hbA:A b:=(hj2.1 b).2 (.inl rfl)
    have hnot:¬(S1 b∨B b):=fun x=>x.elim (fun x=>hj2.2 b rfl x) (fun x=>hj.2 b hbA x)
    refine⟨Z',fun x=>x=b∨A' x,B',regs',⟨ho.rel,ho.ids,?_,ho.zz,?_,?_,?_,?_,ho.ownB,?_,ho.fix,ho.k⟩⟩
    ·simp only[Am]
     exact⟨b,arr,ty,A',e,hb,ho.got,⟨fun x=>Iff.rfl,fun x p q=>hnot (by have:=ho.part x (.inl q);rw[p] at this;exact this)⟩⟩
    ·intro x hx hx'
     have:=ho.gone x hx hx'
     exact(hj.1 x).2 (this.imp (fun p=>(hj2.1 x).2 (.inr p)) id)
    ·intro x hx
     rcases hx with(hx|hx)|hx
     ·subst hx;exact(hj.1 x).2 (.inl hbA)
     ·exact(hj.1 x).2 ((ho.part x (.inl hx)).imp (fun p=>(hj2.1 x).2 (.inr p)) id)
     ·exact(hj.1 x).2 ((ho.part x (.inr hx)).imp (fun p=>(hj2.1 x).2 (.inr p)) id)
    ·intro x hx hy
     rcases hx with hx|hx
     ·subst hx;exact hnot (ho.part x (.inr hy))
     ·exact ho.dis x hx hy
    ·intro x hx hz
     rcases hx with hx|hx
     ·subst hx
      exact Classical.byContradiction fun hn=>hnot (ho.gone x hz hn)
     ·exact ho.ownA x hx hz
    ·intro hbw x hx
     rcases hx with hx|hx
     ·subst hx;exact hbA
     ·exact(hj2.1 x).2 (.inr (ho.stay hbw x hx))
   unfold DH at h;split at h
   ·rename_i i c'
    exact core regs c' i v B A S h hR hI ha hai hj
   ·rename_i id
    split at h
    ·exact h.elim
    ·split at h
     ·rename_i i c' regs' ht
      obtain⟨A1,B1,hj1,hio,hro,hrr⟩:=ED regs vs B _ _ hR ht
      obtain⟨h1,h2,h3⟩:=Fc regs _ _ hI ht
      simp only[Ad] at ha
      have hro':=hro
      simp only[Ad] at hro'
      obtain⟨_,b,arr,ty,S1,e,_⟩:=hro'
      have hv:v=η id:=ha.1
      rw[←hv] at hro
      obtain⟨Z',A',B',regs2,ho⟩:=core regs' c' i v B1 A1 S h hrr h3 hro h2 (by
       rw[show S=B from EL (Gq hj ha.2.2)];exact hj1)
      exact⟨Z',A',B',regs2,ho.rel,ho.ids,ho.got,ho.zz,ho.gone,ho.part,ho.dis,ho.ownA,ho.ownB,(fun hbw=>by cases hbw),(fun hbw=>by cases hbw),ho.k⟩
     ·exact h.elim
   ·rename_i u
    split at h
    ·exact h.elim
    ·split at h
     ·rename_i x c' regs' ht
      obtain⟨hxv,h⟩:=h
      obtain⟨A1,B1,hj1,hro,hrr⟩:=LZ regs vs B _ _ _ hR ht
      obtain⟨h2,h3⟩:=Ma regs _ _ _ hI ht
      simp only[Ad,Am] at ha
      have hv:v=x:=by rw[ha.1,hxv]
      rw[←hv] at hro
      obtain⟨Z',A',B',regs2,ho⟩:=coreV regs' c' v v B1 A1 S h hrr h3 hro h2 (by
       rw[show S=B from EL (Gq hj ha.2.2)];exact hj1)
      exact⟨Z',A',B',regs2,ho.rel,ho.ids,ho.got,ho.zz,ho.gone,ho.part,ho.dis,ho.ownA,ho.ownB,(fun hbw=>by cases hbw),(fun hbw=>by cases hbw),ho.k⟩
     ·exact h.elim
   ·exact h.elim
 | .bv y c,regs,a,K,h,Z,vs,v,B,A,S,hR,hI,ha,hai,hj=>by
   have core:∀(regs:List AV) (c':List AV) (v:Value) (B A S:FP),DI bw c regs c' K→Aq Z η w regs vs B→AX n regs→Ad Z η w (.bv y c') v A→AX n c'→Bn S A B→
    ∃Z' A' B' regs',HOut bw Z η w n vs S A (fun Z' A'=>Am Z' w (.bv y c) v A') K regs Z' A' B' regs':=by
    intro regs c' v B A S h hR hI ha hai hj
    simp only[Ad] at ha
    obtain⟨e0,b,arr,ty,S1,e,hb,hr,hj2⟩:=ha
    obtain⟨Z',A',B',regs',ho⟩:=FR c regs c' K h Z vs arr.toList B S1 (fun x=>S1 x∨B x) hR hI hr hai ⟨fun _=>Iff.rfl,fun x p q=>hj.2 x ((hj2.1 x).2 (.inr p)) q⟩
    have hbA:A b:=(hj2.1 b).2 (.inl rfl)
    have hnot:¬(S1 b∨B b):=fun x=>x.elim (fun x=>hj2.2 b rfl x) (fun x=>hj.2 b hbA x)
    refine⟨Z',fun x=>x=b∨A' x,B',regs',⟨ho.rel,ho.ids,?_,ho.zz,?_,?_,?_,?_,ho.ownB,?_,ho.fix,ho.k⟩⟩
    ·simp only[Am]
     exact⟨e0,b,arr,ty,A',e,hb,ho.got,⟨fun x=>Iff.rfl,fun x p q=>hnot (by have:=ho.part x (.inl q);rw[p] at this;exact this)⟩⟩
    ·intro x hx hx'
     have:=ho.gone x hx hx'
     exact(hj.1 x).2 (this.imp (fun p=>(hj2.1 x).2 (.inr p)) id)
    ·intro x hx
     rcases hx with(hx|hx)|hx
     ·subst hx;exact(hj.1 x).2 (.inl hbA)
     ·exact(hj.1 x).2 ((ho.part x (.inl hx)).imp (fun p=>(hj2.1 x).2 (.inr p)) id)
     ·exact(hj.1 x).2 ((ho.part x (.inr hx)).imp (fun p=>(hj2.1 x).2 (.inr p)) id)
    ·intro x hx hy
     rcases hx with hx|hx
     ·subst hx;exact hnot (ho.part x (.inr hy))
     ·exact ho.dis x hx hy
    ·intro x hx hz
     rcases hx with hx|hx
     ·subst hx
      exact Classical.byContradiction fun hn=>hnot (ho.gone x hz hn)
     ·exact ho.ownA x hx hz
    ·intro hbw x hx
     rcases hx with hx|hx
     ·subst hx;exact hbA
     ·exact(hj2.1 x).2 (.inr (ho.stay hbw x hx))
   unfold DH at h;split at h
   ·rename_i x c'
    obtain⟨rfl,h⟩:=h
    exact core regs c' v B A S h hR hI ha (by simpa only[AP] using hai) hj
   ·rename_i u
    split at h
    ·exact h.elim
    ·split at h
     ·rename_i x c' regs' ht
      obtain⟨⟨hxv,rfl⟩,h⟩:=h
      obtain⟨A1,B1,hj1,hro,hrr⟩:=LZ regs vs B _ _ _ hR ht
      obtain⟨h2,h3⟩:=Ma regs _ _ _ hI ht
      simp only[Ad,Am] at ha
      have hv:v=x:=by rw[ha.1,hxv]
      have hro':Ad Z η w (.bv x c') v A1:=by rw[hv];exact hro
      obtain⟨Z',A',B',regs2,ho⟩:=core regs' c' v B1 A1 S h hrr h3 hro' h2 (by
       rw[show S=B from EL (Gq hj ha.2.2)];exact hj1)
      exact⟨Z',A',B',regs2,ho.rel,ho.ids,ho.got,ho.zz,ho.gone,ho.part,ho.dis,ho.ownA,ho.ownB,(fun hbw=>by cases hbw),(fun hbw=>by cases hbw),ho.k⟩
     ·exact h.elim
   ·exact h.elim
 | .hv _,regs,a,K,h,Z,vs,v,B,A,S,hR,hI,ha,hai,hj=>by unfold DH at h;exact h.elim
 | .sl true j sz α f xs,regs,a,K,h,Z,vs,v,B,A,S,hR,hI,ha,hai,hj=>by
   unfold DH at h;split at h
   ·obtain⟨rfl,h⟩:=h
    refine⟨_,_,_,_,HOut.same hj hR hI (fun _ h=>h) ?_ h⟩
    simp only[Ad,Am] at ha ⊢
    refine⟨none,0,0,ha.1,rfl,Nat.le_refl _,.inl ⟨trivial,.inl ⟨rfl,rfl,ha.2⟩⟩⟩
   ·obtain⟨he,h⟩:=h
    refine⟨_,_,_,_,HOut.same hj hR hI (fun _ h=>h) ?_ h⟩
    simp only[Ad] at ha
    exact IM he ha.2
   ·rename_i id
    split at h
    ·exact h.elim
    ·split at h
     ·rename_i i sz' α' f' xs' regs' ht
      obtain⟨he,h⟩:=h
      obtain⟨A1,B1,hj1,hio,hro,hrr⟩:=ED regs vs B _ _ hR ht
      obtain⟨h1,h2,h3⟩:=Fc regs _ _ hI ht
      simp only[Ad] at ha hro
      have hS:S=B:=EL (Gq hj ha.2.2)
      subst hS
      have hg:Am Z w (.sl true j sz α f xs) v A1:=by rw[ha.1];exact IM he hro.2
      have ho:=HOut.same (bw:=false) (R:=fun Z' A'=>Am Z' w (.sl true j sz α f xs) v A') (K:=K) hj1 hrr h3 (fun _ h=>h) hg h
      exact⟨Z,A1,B1,regs',ho.rel,ho.ids,ho.got,ho.zz,ho.gone,ho.part,ho.dis,ho.ownA,ho.ownB,(fun hbw=>by cases hbw),(fun hbw=>by cases hbw),ho.k⟩
     ·exact h.elim
   ·exact h.elim
 | .sl false j sz α f xs,regs,a,K,h,Z,vs,v,B,A,S,hR,hI,ha,hai,hj=>by
   unfold DH at h;split at h
   ·obtain⟨rfl,h⟩:=h
    refine⟨_,_,_,_,HOut.same hj hR hI (fun _ h=>h) ?_ h⟩
    simp only[Ad,Am] at ha ⊢
    refine⟨none,0,0,ha.1,rfl,Nat.le_refl _,.inr ⟨trivial,ha.2,.inl trivial⟩⟩
   ·obtain⟨he,h⟩:=h
    refine⟨_,_,_,_,HOut.same hj hR hI (fun _ h=>h) ?_ h⟩
    simp only[Ad] at ha
    exact IM he ha.2
   ·obtain⟨he,h⟩:=h
    have hfr:=SJ (id:=0) (own':=true) ha
    have hzz:∀b,(Z b∧¬A b)→Z b:=fun b h=>h.1
    refine⟨fun b=>Z b∧¬A b,fun _=>False,B,regs,⟨CO (GR hzz) (fun _ _=>rfl) _ _ _ hI (fun _ _=>rfl) hR,hI,IM he hfr,hzz,?_,?_,fun _ h=>h.elim,fun _ h=>h.elim,?_,(fun _ _ h=>h.elim),(fun _=>rfl),h⟩⟩
    ·intro b h1 h2
     refine(hj.1 b).2 (.inl ?_)
     exact Classical.byContradiction fun hn=>h2 ⟨h1,hn⟩
    ·intro b hb;exact(hj.1 b).2 (.inr (hb.resolve_left id))
    ·intro _ b hb hz;exact⟨hz,fun x=>hj.2 b x hb⟩
   ·rename_i id
    split at h
    ·split at h
     ·rename_i i sz' α' f' xs' ho
      obtain⟨he,h⟩:=h
      obtain⟨A1,hA1,hio,hro⟩:=EC regs vs B _ hR ho
      simp only[Ad] at ha
      have hS:S=B:=EL (Gq hj ha.2.2)
      subst hS
      have hfr:=SJ (id:=0) (own':=true) hro
      have hzz:∀b,(Z b∧¬A1 b)→Z b:=fun b h=>h.1
      refine⟨fun b=>Z b∧¬A1 b,fun _=>False,S,regs,⟨CO (GR hzz) (fun _ _=>rfl) _ _ _ hI (fun _ _=>rfl) hR,hI,?_,hzz,?_,?_,fun _ h=>h.elim,fun _ h=>h.elim,(fun hh=>by simp at hh),(fun _ _ h=>h.elim),(fun _=>rfl),h⟩⟩
      ·rw[ha.1];exact IM he hfr
      ·intro b h1 h2
       exact Classical.byContradiction fun hn=>h2 ⟨h1,fun x=>hn (hA1 b x)⟩
      ·intro b hb;exact hb.resolve_left (fun x=>x)
     ·exact h.elim
    ·split at h
     ·rename_i i sz' α' f' xs' regs' ht
      obtain⟨he,h⟩:=h
      obtain⟨A1,B1,hj1,hio,hro,hrr⟩:=ED regs vs B _ _ hR ht
      obtain⟨h1,h2,h3⟩:=Fc regs _ _ hI ht
      simp only[Ad] at ha
      have hS:S=B:=EL (Gq hj ha.2.2)
      subst hS
      have hfr:=SJ (id:=0) (own':=true) hro
      have hzz:∀b,(Z b∧¬A1 b)→Z b:=fun b h=>h.1
      have hrr':=CO (GR (w:=w) hzz) (fun _ _=>rfl) _ _ _ h3 (fun _ _=>rfl) hrr
      refine⟨fun b=>Z b∧¬A1 b,fun _=>False,B1,_,⟨JD ?_ _ _ _ hrr',JE ?_ _ h3,?_,hzz,?_,?_,fun _ h=>h.elim,fun _ h=>h.elim,?_,(fun _ _ h=>h.elim),(fun hbw=>by cases hbw),h⟩⟩
      ·simp only[Ad];exact⟨(fun o=>by cases o),hfr⟩
      ·simp only[AP];intro o;cases o
      ·rw[ha.1];exact IM he hfr
      ·intro b h1 h2
       refine(hj1.1 b).2 (.inl ?_)
       exact Classical.byContradiction fun hn=>h2 ⟨h1,hn⟩
      ·intro b hb;exact(hj1.1 b).2 (.inr (hb.resolve_left (fun x=>x)))
      ·intro _ b hb hz;exact⟨hz,fun x=>hj1.2 b x hb⟩
     ·exact h.elim
   ·exact h.elim
 | .hole _,regs,a,K,h,Z,vs,v,B,A,S,hR,hI,ha,hai,hj=>by unfold DH at h;exact h.elim
 | .al _,regs,a,K,h,Z,vs,v,B,A,S,hR,hI,ha,hai,hj=>by unfold DH at h;exact h.elim
 | .po _ _ _ _,regs,a,K,h,Z,vs,v,B,A,S,hR,hI,ha,hai,hj=>by unfold DH at h;exact h.elim
theorem FR{bw:Bool}{η:Nat→Value}{w:World}{n:Nat}:∀(es:List AV) (regs:List AV) (azs:List AV) (K:List AV→Prop),DI bw es regs azs K→
 ∀(Z:FP) (vs:List Value) (us:List Value) (B A S:FP),Aq Z η w regs vs B→AX n regs→Aq Z η w azs us A→AX n azs→Bn S A B→
 ∃Z' A' B' regs',HOut bw Z η w n vs S A (fun Z' A'=>AZ Z' w es us A') K regs Z' A' B' regs'
 |[],regs,azs,K,h,Z,vs,us,B,A,S,hR,hI,ha,hai,hj=>by
  unfold DI at h
  split at h
  ·simp only[Aq] at ha
   refine⟨_,_,_,_,HOut.same hj hR hI (fun _ h=>h) ?_ h⟩
   simp only[AZ];exact ha
  ·exact h.elim
 |e::es,regs,azs,K,h,Z,vs,us,B,A,S,hR,hI,ha,hai,hj=>by
  unfold DI at h
  split at h
  ·exact h.elim
  ·rename_i a azs
   simp only[Aq] at ha
   simp only[AX] at hai
   obtain⟨v,us',A1,A2,eu,hj2,ha1,ha2⟩:=ha
   obtain⟨Z1,A1',B1',regs1,h1⟩:=WX e regs a _ h Z vs v B A1 (fun x=>A1 x∨B x) hR hI ha1 hai.1
    ⟨fun _=>Iff.rfl,fun x p q=>hj.2 x ((hj2.1 x).2 (.inl p)) q⟩
   have ha2':=CO (GR (w:=w) h1.zz) (fun _ _=>rfl) _ _ _ hai.2 (fun _ _=>rfl) ha2
   have hd:∀x,A2 x→¬(A1 x∨B x):=fun x p q=>q.elim (fun q=>hj2.2 x q p) (fun q=>hj.2 x ((hj2.1 x).2 (.inr p)) q)
   obtain⟨Z2,A2',B2',regs2,h2⟩:=FR es regs1 azs K h1.k Z1 vs us' B1' A2 (fun x=>A2 x∨B1' x) h1.rel h1.ids ha2' hai.2
    ⟨fun _=>Iff.rfl,fun x p q=>hd x p (h1.part x (.inr q))⟩
   have hsub:∀x,A1 x∨B x→S x:=fun x p=>(hj.1 x).2 (p.imp (fun p=>(hj2.1 x).2 (.inl p)) id)
   have hsub2:∀x,A2 x∨B1' x→S x:=fun x p=>p.elim (fun p=>(hj.1 x).2 (.inl ((hj2.1 x).2 (.inr p)))) (fun p=>hsub x (h1.part x (.inr p)))
   have hx:∀x,A1' x→¬(A2 x∨B1' x):=fun x p q=>q.elim (fun q=>hd x q (h1.part x (.inl p))) (fun q=>h1.dis x p q)
   refine⟨Z2,fun x=>A1' x∨A2' x,B2',regs2,⟨h2.rel,h2.ids,?_,fun b hb=>h1.zz b (h2.zz b hb),?_,?_,?_,?_,?_,?_,(fun hbw=>by rw[h2.fix hbw,h1.fix hbw]),h2.k⟩⟩
   ·simp only[AZ]
    refine⟨v,us',A1',A2',eu,⟨fun _=>Iff.rfl,fun x p q=>hx x p (h2.part x (.inl q))⟩,?_,h2.got⟩
    exact FO (GR h2.zz) _ _ _ (fun _ _=>rfl) h1.got
   ·intro b hz hz2
    by_cases hz1:Z1 b
    ·exact hsub2 b (h2.gone b hz1 hz2)
    ·exact hsub b (h1.gone b hz hz1)
   ·intro b hb
    rcases hb with(hb|hb)|hb
    ·exact hsub b (h1.part b (.inl hb))
    ·exact hsub2 b (h2.part b (.inl hb))
    ·exact hsub2 b (h2.part b (.inr hb))
   ·intro b hb hc
    rcases hb with hb|hb
    ·exact hx b hb (h2.part b (.inr hc))
    ·exact h2.dis b hb hc
   ·intro b hb hz
    rcases hb with hb|hb
    ·have hz1:=h1.ownA b hb hz
     exact Classical.byContradiction fun hn=>hx b hb (h2.gone b hz1 hn)
    ·have hz1:Z1 b:=Classical.byContradiction fun hn=>by
      have:=h1.gone b hz hn
      rcases Bool.eq_false_or_eq_true bw with hbw|hbw
      ·exact hd b (h2.stay hbw b hb) this
      ·rcases h2.part b (.inl hb) with hq|hq
       ·exact hd b hq this
       ·exact hn (h1.ownB hbw b hq hz)
     exact h2.ownA b hb hz1
   ·intro hbw b hb hz
    have hz1:Z1 b:=Classical.byContradiction fun hn=>by
     have:=h1.gone b hz hn
     rcases h2.part b (.inr hb) with hq|hq
     ·exact hd b hq this
     ·exact hn (h1.ownB hbw b hq hz)
    exact h2.ownB hbw b hb hz1
   ·intro hbw b hb
    rcases hb with hb|hb
    ·exact(hj2.1 b).2 (.inl (h1.stay hbw b hb))
    ·exact(hj2.1 b).2 (.inr (h2.stay hbw b hb))
end
end Go.Eng
end
section
set_option linter.unusedVariables false
set_option linter.unusedSimpArgs false
namespace Go.Eng
mutual
def Ek(n:Nat):AV→AV×Nat
 | .sl true _ sz α f xs=>(.sl true n sz α f xs,n+1)
 | .box _ c=>(.box n (Cr (n+1) c).1,(Cr (n+1) c).2)
 | .bv x c=>(.bv x (Cr n c).1,(Cr n c).2)
 | .agg fs=>(.agg (Cr n fs).1,(Cr n fs).2)
 | .tup fs=>(.tup (Cr n fs).1,(Cr n fs).2)
 | .clo fn fs=>(.clo fn (Cr n fs).1,(Cr n fs).2)
 |a=>(a,n)
def Cr(n:Nat):List AV→List AV×Nat
 |[]=>([],n)
 |a::azs=>((Ek n a).1::(Cr (Ek n a).2 azs).1,(Cr (Ek n a).2 azs).2)
end
mutual
theorem WY{Z:FP}{w:World}:∀(a:AV) (n:Nat) (v:Value) (S:FP) (η:Nat→Value),Am Z w a v S→
 n≤(Ek n a).2∧AP (Ek n a).2 (Ek n a).1∧∃η':Nat→Value,(∀i,i<n→η' i=η i)∧(∀η'',(∀i,i<(Ek n a).2→η'' i=η' i)→Ad Z η'' w (Ek n a).1 v S)
 | .sl true j sz α f xs,n,v,S,η,h=>by
   refine⟨Nat.le_succ n,fun _=>Nat.lt_succ_self n,fun i=>if i=n then v else η i,fun i hi=>if_neg (by omega),fun η'' hη=> ?_⟩
   simp only[Ek,Ad]
   refine⟨fun _=> ?_,by simpa only[Am] using h⟩
   rw[hη n (Nat.lt_succ_self n)];simp
 | .sl false j sz α f xs,n,v,S,η,h=>by
   refine⟨Nat.le_refl n,(fun o=>by cases o),η,fun _ _=>rfl,fun η'' hη=> ?_⟩
   simp only[Ek,Ad]
   exact⟨(fun o=>by cases o),h⟩
 | .box j c,n,v,S,η,h=>by
   simp only[Am] at h
   obtain⟨b,arr,ty,S1,e,hb,hr,hj⟩:=h
   obtain⟨h1,h2,η',h3,h4⟩:=Ie c (n+1) arr.toList S1 (fun i=>if i=n then v else η i) hr
   simp only[Ek,AP]
   refine⟨by omega,⟨by omega,h2⟩,η',fun i hi=>by rw[h3 i (by omega),if_neg (by omega)],fun η'' hη=> ?_⟩
   simp only[Ad]
   refine⟨?_,b,arr,ty,S1,e,hb,h4 η'' hη,hj⟩
   rw[hη n (by omega),h3 n (by omega)];simp
 | .bv x c,n,v,S,η,h=>by
   simp only[Am] at h
   obtain⟨e0,b,arr,ty,S1,e,hb,hr,hj⟩:=h
   obtain⟨h1,h2,η',h3,h4⟩:=Ie c n arr.toList S1 η hr
   simp only[Ek,AP]
   refine⟨h1,h2,η',h3,fun η'' hη=> ?_⟩
   simp only[Ad];exact⟨e0,b,arr,ty,S1,e,hb,h4 η'' hη,hj⟩
 | .hv _,n,v,S,η,h=>⟨Nat.le_refl n,trivial,η,fun _ _=>rfl,fun _ _=>h⟩
 | .agg fs,n,v,S,η,h=>by
   simp only[Am] at h
   obtain⟨cs,e,hr⟩:=h
   obtain⟨h1,h2,η',h3,h4⟩:=Ie fs n cs S η hr
   simp only[Ek,AP]
   refine⟨h1,h2,η',h3,fun η'' hη=> ?_⟩
   simp only[Ad];exact⟨cs,e,h4 η'' hη⟩
 | .tup fs,n,v,S,η,h=>by
   simp only[Am] at h
   obtain⟨cs,e,hr⟩:=h
   obtain⟨h1,h2,η',h3,h4⟩:=Ie fs n cs S η hr
   simp only[Ek,AP]
   refine⟨h1,h2,η',h3,fun η'' hη=> ?_⟩
   simp only[Ad];exact⟨cs,e,h4 η'' hη⟩
 | .clo fn fs,n,v,S,η,h=>by
   simp only[Am] at h
   obtain⟨cs,e,hr⟩:=h
   obtain⟨h1,h2,η',h3,h4⟩:=Ie fs n cs S η hr
   simp only[Ek,AP]
   refine⟨h1,h2,η',h3,fun η'' hη=> ?_⟩
   simp only[Ad];exact⟨cs,e,h4 η'' hη⟩
 | .int _ _,n,v,S,η,h=>⟨Nat.le_refl n,trivial,η,fun _ _=>rfl,fun _ _=>h⟩
 | .bool _,n,v,S,η,h=>⟨Nat.le_refl n,trivial,η,fun _ _=>rfl,fun _ _=>h⟩
 | .str _,n,v,S,η,h=>⟨Nat.le_refl n,trivial,η,fun _ _=>rfl,fun _ _=>h⟩
 | .val _,n,v,S,η,h=>⟨Nat.le_refl n,trivial,η,fun _ _=>rfl,fun _ _=>h⟩
 | .any,n,v,S,η,h=>⟨Nat.le_refl n,trivial,η,fun _ _=>rfl,fun _ _=>h⟩
 | .top,n,v,S,η,h=>⟨Nat.le_refl n,trivial,η,fun _ _=>rfl,fun _ _=>h⟩
 | .nil,n,v,S,η,h=>⟨Nat.le_refl n,trivial,η,fun _ _=>rfl,fun _ _=>h⟩
 | .pf _,n,v,S,η,h=>⟨Nat.le_refl n,trivial,η,fun _ _=>rfl,fun _ _=>h⟩
 | .hole _,n,v,S,η,h=>h.elim
 | .al _,n,v,S,η,h=>h.elim
 | .po _ _ _ _,n,v,S,η,h=>h.elim
theorem Ie{Z:FP}{w:World}:∀(azs:List AV) (n:Nat) (cs:List Value) (S:FP) (η:Nat→Value),AZ Z w azs cs S→
 n≤(Cr n azs).2∧AX (Cr n azs).2 (Cr n azs).1∧∃η':Nat→Value,(∀i,i<n→η' i=η i)∧(∀η'',(∀i,i<(Cr n azs).2→η'' i=η' i)→Aq Z η'' w (Cr n azs).1 cs S)
 |[],n,cs,S,η,h=>⟨Nat.le_refl n,trivial,η,fun _ _=>rfl,fun _ _=>h⟩
 |a::azs,n,cs,S,η,h=>by
  simp only[AZ] at h
  obtain⟨v,cs',A,B,e,hj,h1,h2⟩:=h
  obtain⟨a1,a2,η1,a3,a4⟩:=WY a n v A η h1
  obtain⟨b1,b2,η2,b3,b4⟩:=Ie azs (Ek n a).2 cs' B η1 h2
  simp only[Cr,AX]
  refine⟨by omega,⟨Ws b1 _ a2,b2⟩,η2,fun i hi=>by rw[b3 i (by omega),a3 i hi],fun η'' hη=> ?_⟩
  simp only[Aq]
  exact⟨v,cs',A,B,e,hj,a4 η'' (fun i hi=>by rw[hη i (by omega),b3 i hi]),b4 η'' hη⟩
end
mutual
def JF:AV→Prop
 | .sl true _ _ _ f _=>∀x,Hq (f x)
 | .sl false _ _ _ _ _=>False
 | .pf _=>False
 | .box _ c=>Hq c
 | .bv _ c=>Hq c
 | .agg fs=>Hq fs
 | .tup fs=>Hq fs
 | .clo _ fs=>Hq fs
 |_=>True
def Hq:List AV→Prop
 |[]=>True
 |a::azs=>JF a∧Hq azs
end
mutual
theorem a4Q{Z Z':FP}{w:World}:∀(a:AV) (v:Value) (S:FP),JF a→Am Z w a v S→Am Z' w a v S
 | .sl true j sz α f xs,v,S,hc,h=>by
   simp only[Am] at h ⊢
   simp only[JF] at hc
   obtain⟨a,n,c,e,hn,hcc,h⟩:=h
   refine⟨a,n,c,e,hn,hcc,?_⟩
   rcases h with⟨ho,h⟩|⟨ho,_⟩
   ·refine .inl ⟨ho,?_⟩
    rcases h with h|⟨b,off,arr,ty,S1,ha,hb,hsz,hr,hj⟩
    ·exact .inl h
    ·exact .inr ⟨b,off,arr,ty,S1,ha,hb,hsz,HY xs _ S1 (fun x cs A hA hx=>JG (f x) cs A (hc x) hx) hr,hj⟩
   ·cases ho
 | .sl false j sz α f xs,v,S,hc,h=>hc.elim
 | .pf _,v,S,hc,h=>hc.elim
 | .box j c,v,S,hc,h=>by
   simp only[Am] at h ⊢
   simp only[JF] at hc
   obtain⟨b,arr,ty,S1,e,hb,hr,hj⟩:=h
   exact⟨b,arr,ty,S1,e,hb,JG c _ S1 hc hr,hj⟩
 | .bv _ c,v,S,hc,h=>by
   simp only[Am] at h ⊢
   simp only[JF] at hc
   obtain⟨e0,b,arr,ty,S1,e,hb,hr,hj⟩:=h
   exact⟨e0,b,arr,ty,S1,e,hb,JG c _ S1 hc hr,hj⟩
 | .hv _,v,S,hc,h=>h
 | .agg fs,v,S,hc,h=>by
   simp only[Am] at h ⊢;simp only[JF] at hc
   obtain⟨cs,e,hr⟩:=h;exact⟨cs,e,JG fs cs S hc hr⟩
 | .tup fs,v,S,hc,h=>by
   simp only[Am] at h ⊢;simp only[JF] at hc
   obtain⟨cs,e,hr⟩:=h;exact⟨cs,e,JG fs cs S hc hr⟩
 | .clo fn fs,v,S,hc,h=>by
   simp only[Am] at h ⊢;simp only[JF] at hc
   obtain⟨cs,e,hr⟩:=h;exact⟨cs,e,JG fs cs S hc hr⟩
 | .int _ _,v,S,hc,h=>h
 | .bool _,v,S,hc,h=>h
 | .str _,v,S,hc,h=>h
 | .val _,v,S,hc,h=>h
 | .any,v,S,hc,h=>h
 | .top,v,S,hc,h=>h
 | .nil,v,S,hc,h=>h
 | .hole _,v,S,hc,h=>h
 | .al _,v,S,hc,h=>h
 | .po _ _ _ _,v,S,hc,h=>h
theorem JG{Z Z':FP}{w:World}:∀(azs:List AV) (cs:List Value) (S:FP),Hq azs→AZ Z w azs cs S→AZ Z' w azs cs S
 |[],cs,S,hc,h=>h
 |a::azs,cs,S,hc,h=>by
  simp only[AZ] at h ⊢;simp only[Hq] at hc
  obtain⟨v,cs',A,B,e,hj,h1,h2⟩:=h
  exact⟨v,cs',A,B,e,hj,a4Q a v A hc.1 h1,JG azs cs' B hc.2 h2⟩
end
structure Sig:Type 1 where
 X:Type
 args:X→List AV
 pre:X→Prop
 Y:Type
 post:X→Y→Prop
 res:X→Y→AV
 outs:X→Y→List AV
 keep:Bool
 fixed:List Nat:=[]
 caps:List (Nat×Fn×Nat):=[]
def JH:List (Nat×Fn×Nat)→List Value→Prop
 |[],_=>True
 |(p,fn,j)::l,vs=>(∃v,vs[p]? =some (FM fn [v])∧vs[j]? =some v)∧JH l vs
structure After (Z:FP) (w:World) (A:FP) (Z':FP) (w':World) (A':FP):Prop where
 os:w'.os=w.os
 tape:w'.tape=w.tape
 output:w'.output=w.output
 size:w.heap.size≤w'.heap.size
 old:∀b,b<w.heap.size→¬A b→w'.heap[b]? =w.heap[b]? ∧(Z' b↔Z b)
 own:∀b,A' b→Z' b∧b<w'.heap.size∧(b<w.heap.size→A b)
def SK(keep:Bool)(p:Prop):Prop:=match keep with
 |true=>True
 |false=>p
def a4R(S:Sig):Prop:=∀x y,S.pre x→S.post x y→SK S.keep (Hq (S.res x y::S.outs x y))
def Aj(G:GInv)(P:Program)(f:FuncId)(S:Sig):Prop:=
 ((∃fn,P.funcs[f]? =some fn∧(fn.name== "runtime.NumGoroutine")=false∧fn.body.isNone=false)∧a4R S)∧
 ∀x,S.pre x→∀Z w vals A,G.p Z w→AZ Z w (S.args x) vals A→(∀b,A b→Z b∧b<w.heap.size)→JH S.caps vals→
  Calls P f vals.toArray w fun e w'=>∃y v Z' A',S.post x y∧e= .returned v∧AZ Z' w' (S.res x y::S.outs x y) (v::vals) A'∧After Z w A Z' w' A'
def SL:AV→Bool
 | .sl true _ _ _ _ _=>true
 | .box _ _=>true
 | .bv _ _=>true
 |_=>false
def SM(e:AV):AV:=match SL e with|true=>e|false=> .top
def SN(e:AV):AV:=match SL e with|true=> .top|false=>e
theorem WZ{Z:FP}{w:World}:∀(es:List AV) (cs:List Value) (A B S:FP),AZ Z w (es.map SM) cs A→AZ Z w (es.map SN) cs B→Bn S A B→AZ Z w es cs S
 |[],cs,A,B,S,h1,h2,hs=>by
  simp only[List.map,AZ] at h1 h2 ⊢
  exact⟨h1.1,fun b hb=>((hs.1 b).1 hb).elim (h1.2 b) (h2.2 b)⟩
 |e::es,cs,A,B,S,h1,h2,hs=>by
  simp only[List.map,AZ] at h1 h2 ⊢
  obtain⟨v,cs',A1,B1,e1,hj,h3,h4⟩:=h1
  obtain⟨v',cs'',A2,B2,e2,hj2,h5,h6⟩:=h2
  rw[e1] at e2
  simp only[List.cons.injEq] at e2
  obtain⟨rfl,rfl⟩:=e2
  have hd:∀b,A1 b∨B1 b→¬(A2 b∨B2 b):=fun b x y=>hs.2 b ((hj.1 b).2 x) ((hj2.1 b).2 y)
  refine⟨v,cs',fun b=>A1 b∨A2 b,fun b=>B1 b∨B2 b,e1,⟨fun b=> ?_,fun b x y=> ?_⟩,?_,WZ es cs' B1 B2 _ h4 h6 ⟨fun _=>Iff.rfl,fun b x y=>hd b (.inr x) (.inr y)⟩⟩
  ·rw[hs.1 b,hj.1 b,hj2.1 b]
   exact⟨fun h=>h.elim (fun h=>h.elim (fun h=> .inl (.inl h)) (fun h=> .inr (.inl h))) (fun h=>h.elim (fun h=> .inl (.inr h)) (fun h=> .inr (.inr h))),
    fun h=>h.elim (fun h=>h.elim (fun h=> .inl (.inl h)) (fun h=> .inr (.inl h))) (fun h=>h.elim (fun h=> .inl (.inr h)) (fun h=> .inr (.inr h)))⟩
  ·rcases x with x|x<;>rcases y with y|y
   ·exact hj.2 b x y
   ·exact hd b (.inl x) (.inr y)
   ·exact hd b (.inr y) (.inl x)
   ·exact hj2.2 b x y
  ·unfold SM SN at*
   cases hm:SL e
   ·rw[hm] at h3 h5
    simp only[Am] at h3
    have:(fun b=>A1 b∨A2 b)=A2:=EL (fun b=>⟨fun h=>h.elim (fun h=>(h3 b h).elim) id,.inr⟩)
    rw[this];exact h5
   ·rw[hm] at h3 h5
    simp only[Am] at h5
    have:(fun b=>A1 b∨A2 b)=A1:=EL (fun b=>⟨fun h=>h.elim id (fun h=>(h5 b h).elim),.inl⟩)
    rw[this];exact h3
def GS(regs:List AV)(nx:Nat):List AV→List AV→(List AV→Nat→Prop)→Prop
 |[],[],K=>K regs nx
 |a::azs,o::os,K=>match o with
  | .top=>GS regs nx azs os K
  | .box _ c=>match a with
    | .al id=>match Ej id (.box id (Cr nx c).1) regs with
      |some regs'=>GS regs' (Cr nx c).2 azs os K
      |none=>False
    | .val v=>match Gt (Cr nx c).1 regs with
      |some (x,regs')=>x=v∧GS regs' (Cr nx c).2 azs os K
      |none=>False
    |_=>False
  | .bv _ c=>match a with
    | .val v=>match Gt (Cr nx c).1 regs with
      |some (x,regs')=>x=v∧GS regs' (Cr nx c).2 azs os K
      |none=>False
    |_=>False
  | .sl true _ sz α f xs=>match a with
    | .al id=>match Ej id (.sl true id sz α f xs) regs with
      |some regs'=>GS regs' nx azs os K
      |none=>False
    |_=>False
  |_=>False
 |_,_,_=>False
theorem Ny{Z:FP}{w:World}{K:List AV→Nat→Prop}:∀(azs os:List AV) (regs:List AV) (nx:Nat),GS regs nx azs os K→
 ∀(η:Nat→Value) (vs us:List Value) (B A S:FP),Aq Z η w regs vs B→AX nx regs→Aq Z η w azs us (fun _=>False)→AX nx azs→
 AZ Z w os us A→Bn S A B→
 ∃regs' nx',K regs' nx'∧nx≤nx'∧AX nx' regs'∧∃η':Nat→Value,(∀i,i<nx→η' i=η i)∧Aq Z η' w regs' vs S
 |[],[],regs,nx,h,η,vs,us,B,A,S,hR,hI,ha,hai,ho,hj=>by
  simp only[GS] at h
  simp only[AZ] at ho
  refine⟨regs,nx,h,Nat.le_refl _,hI,η,fun _ _=>rfl,?_⟩
  rw[show S=B from EL (Gq hj ho.2)];exact hR
 |[],_::_,regs,nx,h,η,vs,us,B,A,S,hR,hI,ha,hai,ho,hj=>by simp [GS] at h
 |_::_,[],regs,nx,h,η,vs,us,B,A,S,hR,hI,ha,hai,ho,hj=>by simp [GS] at h
 |a::azs,o::os,regs,nx,h,η,vs,us,B,A,S,hR,hI,ha,hai,ho,hj=>by
  simp only[AZ] at ho
  obtain⟨v,us',A1,A2,eu,hj2,ho1,ho2⟩:=ho
  subst eu
  simp only[AX] at hai
  simp only[Aq] at ha
  obtain⟨v0,us0,B1,B2,eu0,hj0,ha1,ha2⟩:=ha
  simp only[List.cons.injEq] at eu0
  obtain⟨rfl,rfl⟩:=eu0
  rw[EA (HX hj0 AW).1] at ha1
  rw[EA (HX hj0 AW).2] at ha2
  have hjj:Bn S A2 (fun x=>A1 x∨B x):=by
   refine⟨fun x=> ?_,fun x p q=>q.elim (fun q=>hj2.2 x q p) (fun q=>hj.2 x ((hj2.1 x).2 (.inr p)) q)⟩
   rw[hj.1 x,hj2.1 x]
   exact⟨fun h=>h.elim (fun h=>h.elim (fun h=> .inr (.inl h)) .inl) (fun h=> .inr (.inr h)),fun h=>h.elim (fun h=> .inl (.inr h)) (fun h=>h.elim (fun h=> .inl (.inl h)) .inr)⟩
  have hjB:Bn (fun x=>A1 x∨B x) A1 B:=⟨fun _=>Iff.rfl,fun x p q=>hj.2 x ((hj2.1 x).2 (.inl p)) q⟩
  have vcase:∀(c:List AV) (u x:Value) (regs1:List AV),a= .val u→(∃b arr ty S1,v= .pointer (some ⟨b,0,none⟩)∧w.heap[b]? =some (.cells arr ty (0,0))∧AZ Z w c arr.toList S1∧Bn A1 (one b) S1)→
   Gt (Cr nx c).1 regs=some (x,regs1)→x=u→GS regs1 (Cr nx c).2 azs os K→
   ∃regs' nx',K regs' nx'∧nx≤nx'∧AX nx' regs'∧∃η':Nat→Value,(∀i,i<nx→η' i=η i)∧Aq Z η' w regs' vs S:=by
   intro c u x regs1 hau hbx hpl hxu hk
   subst hau;subst hxu
   obtain⟨b,arr,ty,S1,e,hb,hr,hj3⟩:=hbx
   obtain⟨h1,h2,η1,h3,h4⟩:=Ie c nx arr.toList S1 η hr
   have hv:v=x:=by simp only[Ad,Am] at ha1;exact ha1.1
   have hbox:Ad Z η1 w (.bv x (Cr nx c).1) x A1:=by
    simp only[Ad]
    refine⟨trivial,b,arr,ty,S1,?_,hb,h4 η1 (fun _ _=>rfl),hj3⟩
    rw[←hv];exact e
   have hR1:=CO (n:=nx) (Z':=Z) (w':=w) (fun b hb _=>⟨hb,rfl⟩) h3 _ _ _ hI (fun _ _=>rfl) hR
   have hpg:=Nv regs vs B (fun x=>A1 x∨B x) x regs1 hR1 hjB hpl hbox
   have hids1:AX (Cr nx c).2 regs1:=Nw h2 _ _ _ (Fs h1 _ hI) hpl
   obtain⟨regs',nx',g0,g1,g2,η2,g3,g4⟩:=Ny azs os regs1 _ hk η1 vs us' _ A2 S hpg hids1 (CO (n:=nx) (Z':=Z) (w':=w) (fun b hb _=>⟨hb,rfl⟩) h3 _ _ _ hai.2 (fun _ _=>rfl) ha2) (Fs h1 _ hai.2) ho2 hjj
   exact⟨regs',nx',g0,by omega,g2,η2,fun i hi=>by rw[g3 i (by omega),h3 i hi],g4⟩
  unfold GS at h
  split at h
  ·simp only[Am] at ho1
   exact Ny azs os regs nx h η vs us' B A S hR hI ha2 hai.2 (by rw[show A=A2 from EL (Gq hj2 ho1)];exact ho2) hj
  ·rename_i j c
   split at h
   ·rename_i id
    split at h
    ·rename_i regs1 hpl
     simp only[Am] at ho1
     obtain⟨b,arr,ty,S1,e,hb,hr,hj3⟩:=ho1
     obtain⟨h1,h2,η1,h3,h4⟩:=Ie c nx arr.toList S1 η hr
     have hid:id<nx:=hai.1
     have hv:v=η id:=by simp only[Ad] at ha1;exact ha1.1
     have hbox:Ad Z η1 w (.box id (Cr nx c).1) (η1 id) A1:=by
      simp only[Ad]
      refine⟨trivial,b,arr,ty,S1,?_,hb,h4 η1 (fun _ _=>rfl),hj3⟩
      rw[h3 id hid,←hv];exact e
     have hR1:=CO (n:=nx) (Z':=Z) (w':=w) (fun b hb _=>⟨hb,rfl⟩) h3 _ _ _ hI (fun _ _=>rfl) hR
     have hpg:=Ho hbox regs vs B (fun x=>A1 x∨B x) regs1 hR1 hjB hpl
     have hids1:AX (Cr nx c).2 regs1:=Hp (by simp only[AP];exact⟨by omega,h2⟩) _ _ (Fs h1 _ hI) hpl
     obtain⟨regs',nx',g0,g1,g2,η2,g3,g4⟩:=Ny azs os regs1 _ h η1 vs us' _ A2 S hpg hids1 (CO (n:=nx) (Z':=Z) (w':=w) (fun b hb _=>⟨hb,rfl⟩) h3 _ _ _ hai.2 (fun _ _=>rfl) ha2) (Fs h1 _ hai.2) ho2 hjj
     exact⟨regs',nx',g0,by omega,g2,η2,fun i hi=>by rw[g3 i (by omega),h3 i hi],g4⟩
    ·exact h.elim
   ·rename_i u
    split at h
    ·rename_i x regs1 hpl
     simp only[Am] at ho1
     exact vcase c u x regs1 rfl ho1 hpl h.1 h.2
    ·exact h.elim
   ·exact h.elim
  ·rename_i y c
   split at h
   ·rename_i u
    split at h
    ·rename_i x regs1 hpl
     simp only[Am] at ho1
     exact vcase c u x regs1 rfl ho1.2 hpl h.1 h.2
    ·exact h.elim
   ·exact h.elim
  ·rename_i j sz α f xs
   split at h
   ·rename_i id
    split at h
    ·rename_i regs1 hpl
     have hid:id<nx:=hai.1
     have hv:v=η id:=by simp only[Ad] at ha1;exact ha1.1
     have hown:Ad Z η w (.sl true id sz α f xs) (η id) A1:=by
      simp only[Ad]
      refine⟨fun _=>trivial,?_⟩
      rw[←hv];exact ho1
     have hpg:=Ho hown regs vs B (fun x=>A1 x∨B x) regs1 hR hjB hpl
     have hids1:AX nx regs1:=Hp (by simp only[AP];exact fun _=>hid) _ _ hI hpl
     exact Ny azs os regs1 nx h η vs us' _ A2 S hpg hids1 ha2 hai.2 ho2 hjj
    ·exact h.elim
   ·exact h.elim
  ·exact h.elim
theorem Pf{Z:FP}{η:Nat→Value}{w:World}:∀(azs:List AV) (vs:List Value) (A:FP) (p:Nat) (a:AV),Aq Z η w azs vs A→azs[p]? =some a→∃v B,vs[p]? =some v∧Ad Z η w a v B
 |[],vs,A,p,a,h,ha=>by simp at ha
 |x::azs,vs,A,p,a,h,ha=>by
  simp only[Aq] at h
  obtain⟨v,cs',A1,B1,rfl,hj,h1,h2⟩:=h
  cases p with
  |zero=>simp at ha;subst ha;exact⟨v,A1,by simp,h1⟩
  |succ p=>
   simp only[List.getElem?_cons_succ] at ha ⊢
   exact Pf azs cs' B1 p a h2 ha
def Pg:List (Nat×Fn×Nat)→List AV→Prop
 |[],_=>True
 |(p,fn,j)::l,azs=>(match azs[p]?,azs[j]? with
    |some (.clo fn' [.al id]),some (.al id')=>match Nx fn' fn,Nat.beq id id' with
     |true,true=>True
     |_,_=>False
    |_,_=>False)∧Pg l azs
theorem Xa{Z:FP}{η:Nat→Value}{w:World}{azs:List AV}{us:List Value}{A:FP}(hr:Aq Z η w azs us A):∀l,Pg l azs→JH l us
 |[],_=>trivial
 |(p,fn,j)::l,h=>by
  obtain⟨h1,h2⟩:=h
  refine⟨?_,Xa hr l h2⟩
  split at h1
  ·rename_i fn' id id' e1 e2
   split at h1
   ·rename_i q1 q2
    have q1:=SI q1;have q2:=Nat.eq_of_beq_eq_true q2
    subst q1;subst q2
    obtain⟨v,B,g1,g2⟩:=Pf _ _ _ _ _ hr e1
    obtain⟨u,B',g3,g4⟩:=Pf _ _ _ _ _ hr e2
    simp only[Ad,Aq] at g2 g4
    obtain⟨cs,rfl,v',cs',A',B'',rfl,_,⟨rfl,_,_⟩,rfl,_⟩:=g2
    obtain⟨rfl,_,_⟩:=g4
    exact⟨_,g1,g3⟩
   ·exact h1.elim
  ·exact h1.elim
end Go.Eng
end
section
set_option linter.unusedVariables false
set_option linter.unusedSimpArgs false
namespace Go.Eng
def SO(S:Sig)(s:St)(dst:Option Nat)(args:List AV)(K:St→Prop):Prop:=
 ∃x:S.X,S.pre x∧DI false ((S.args x).map SM) s.regs args fun r1=>
  DI (!S.keep) ((S.args x).map SN) r1 args fun r2=>
   ∀y,S.post x y→GS r2 s.nx args (S.outs x y) fun r3 n3=>K ⟨setR r3 dst (Ek n3 (S.res x y)).1,(Ek n3 (S.res x y)).2⟩
def Nz(S:Sig)(s:St)(dst:Option Nat)(args:List AV)(K:St→Prop):Prop:=match S.caps with
 |[]=>SO S s dst args K
 |c::cs=>Pg (c::cs) args∧SO S s dst args K
theorem a4S{S:Sig}{s:St}{dst:Option Nat}{args:List AV}{K:St→Prop}(h:Nz S s dst args K):(match S.caps with|[]=>True|c::cs=>Pg (c::cs) args)∧SO S s dst args K:=by
 unfold Nz at h
 cases hc:S.caps with
 |nil=>rw[hc] at h;exact⟨trivial,h⟩
 |cons c cs=>rw[hc] at h;exact h
theorem Xb{P:Program}{f:FuncId}{S:Sig}{C:Ctx}(hc:Aj C.G P f S){s:St}{dst:Option Nat}{args:List AV}{K:St→Prop}(h:Nz S s dst args K)
 {a:Act} {w:World} {η:Nat→Value} {Z T:FP} (hi:Inst C s a w η Z T) {us:List Value} (ha:Aq Z η w args us (fun _=>False)) (hai:AX s.nx args):
 Calls P f us.toArray w fun e w'=>∃v s',e= .returned v∧K s'∧Rel C s' (a.put dst v) w':=by
 obtain⟨hcaps,x,hpre,h⟩:=a4S h
 have hcaps:JH S.caps us:=by
  refine Xa ha _ ?_
  cases hcc:S.caps with
  |nil=>trivial
  |cons c cs=>rw[hcc] at hcaps;exact hcaps
 obtain⟨Z1,A1,B1,r1,h1⟩:=FR _ s.regs args _ h Z a.tmps.toList us T (fun _=>False) T hi.rel hi.ids ha hai (Cj T)
 have ha1:=CO (GR (w:=w) h1.zz) (fun _ _=>rfl) _ _ _ hai (fun _ _=>rfl) ha
 obtain⟨Z2,A2,B2,r2,h2⟩:=FR _ r1 args _ h1.k Z1 a.tmps.toList us B1 (fun _=>False) B1 h1.rel h1.ids ha1 hai (Cj B1)
 have h12:=Dv (GR (w:=w) h2.zz) _ _ _ (fun _ _=>rfl) h1.got
 have hTZ:∀b,T b→Z b:=fun b hb=>(hi.own b hb).1
 have hA1T:∀b,A1 b→T b:=fun b hb=>h1.part b (.inl hb)
 have hB1T:∀b,B1 b→T b:=fun b hb=>h1.part b (.inr hb)
 have hA2B:∀b,A2 b→B1 b:=fun b hb=>h2.part b (.inl hb)
 have hB2B:∀b,B2 b→B1 b:=fun b hb=>h2.part b (.inr hb)
 have hB1Z:∀b,B1 b→Z1 b:=fun b hb=>h1.ownB rfl b hb (hTZ b (hB1T b hb))
 have hA1Z1:∀b,A1 b→Z1 b:=fun b hb=>h1.ownA b hb (hTZ b (hA1T b hb))
 have hA1Z:∀b,A1 b→Z2 b:=fun b hb=>Classical.byContradiction fun hn=>h1.dis b hb (h2.gone b (hA1Z1 b hb) hn)
 have hA2Z:∀b,A2 b→Z2 b:=fun b hb=>h2.ownA b hb (hB1Z b (hA2B b hb))
 have hjA:Bn (fun b=>A1 b∨A2 b) A1 A2:=⟨fun _=>Iff.rfl,fun b x y=>h1.dis b x (hA2B b y)⟩
 have hargs:=WZ _ _ _ _ _ h12 h2.got hjA
 have hAZ:∀b,A1 b∨A2 b→Z2 b∧b<w.heap.size:=fun b hb=>
  ⟨hb.elim (hA1Z b) (hA2Z b),(hi.own b (hb.elim (hA1T b) (fun h=>hB1T b (hA2B b h)))).2.1⟩
 refine(hc.2 x hpre Z2 w us _ (C.G.mono _ _ _ _ (fun b hb _=>⟨fun x=>hb (h1.zz b (h2.zz b x)),rfl⟩) hi.ok.glob) hargs hAZ hcaps).mono ?_
 rintro e w' ⟨y,v,Z',A',hpost,rfl,hres,haft⟩
 have hk:=h2.k y hpost;have hkeep:=hc.1.2 x y hpre hpost
 obtain⟨Zr,B,hrB,hrI,hZr,hBA,hBT,hBB⟩:∃Zr B,Aq Zr η w r2 a.tmps.toList B∧AX s.nx r2∧(∀b,¬Zr b→b<w.heap.size→¬(A1 b∨A2 b)∧¬B b∧¬Z2 b)∧
  (∀b,B b→¬(A1 b∨A2 b))∧(∀b,B b→T b)∧(S.keep=true→∀b,B b→Z2 b):=by
  rcases Bool.eq_false_or_eq_true S.keep with hk|hk
  ·refine⟨Z2,B2,h2.rel,h2.ids,fun b hz hb=>⟨fun x=>hz (hAZ b x).1,fun x=> ?_,hz⟩,fun b hb x=> ?_,fun b hb=>hB1T b (hB2B b hb),fun _ b hb=> ?_⟩
   ·exact hz (h2.ownB (by simp [hk]) b x (hB1Z b (hB2B b x)))
   ·exact x.elim (fun x=>h1.dis b x (hB2B b hb)) (fun x=>h2.dis b x hb)
   ·exact h2.ownB (by simp [hk]) b hb (hB1Z b (hB2B b hb))
  ·have hfix:=h2.fix (by simp [hk])
   have hA2e:∀b,¬A2 b:=fun b hb=>h2.stay (by simp [hk]) b hb
   refine⟨Z1,B1,by rw[hfix];exact h1.rel,h2.ids,fun b hz hb=>⟨fun x=>hz (h2.zz b (hAZ b x).1),fun x=>hz (hB1Z b x),fun x=>hz (h2.zz b x)⟩,fun b hb x=> ?_,hB1T,fun hh=> ?_⟩
   ·exact x.elim (fun x=>h1.dis b x hb) (hA2e b)
   ·rw[hk] at hh;cases hh
 let Zc:FP:=fun b=>Z' b∨B b
 have hold:∀b,b<w.heap.size→¬(A1 b∨A2 b)→w'.heap[b]? =w.heap[b]? ∧(Z' b↔Z2 b):=haft.old
 have hr2:Aq Zc η w' r2 a.tmps.toList B:=by
  refine CO (n:=s.nx) (fun b hz hb=> ?_) (fun _ _=>rfl) _ _ _ hrI (fun b hb=> ?_) hrB
  ·obtain⟨g1,g2,g3⟩:=hZr b hz hb
   obtain⟨g4,g5⟩:=hold b hb g1
   exact⟨fun x=>x.elim (fun x=>g3 (g5.1 x)) g2,g4⟩
  ·exact(hold b (hi.own b (hBT b hb)).2.1 (hBA b hb)).1
 have hargs':Aq Zc η w' args us (fun _=>False):=by
  refine CO (n:=s.nx) (fun b hz hb=> ?_) (fun _ _=>rfl) _ _ _ hai (fun b hb=>hb.elim) ha
  have g1:¬(A1 b∨A2 b):=fun x=>hz (h1.zz b (h2.zz b (hAZ b x).1))
  obtain⟨g4,g5⟩:=hold b hb g1
  exact⟨fun x=>x.elim (fun x=>hz (h1.zz b (h2.zz b (g5.1 x)))) (fun x=>hz (hTZ b (hBT b x))),g4⟩
 have hres':AZ Zc w' (S.res x y::S.outs x y) (v::us) A':=by
  rcases Bool.eq_false_or_eq_true S.keep with hk|hk
  ·refine Dv (fun b hz hb=>⟨fun x=>x.elim hz (fun x=>hz ?_),rfl⟩) _ _ _ (fun _ _=>rfl) hres
   exact(hold b (hi.own b (hBT b x)).2.1 (hBA b x)).2.2 (hBB hk b x)
  ·rw[hk] at hkeep
   exact JG _ _ _ hkeep hres
 have hA'own:=haft.own
 simp only[AZ] at hres'
 obtain⟨v',us',Ar,Ao,e1,hjr,hr1,hr3⟩:=hres'
 simp only[List.cons.injEq] at e1
 obtain⟨rfl,rfl⟩:=e1
 have hBA':∀b,B b→¬A' b:=fun b hb x=>hBA b hb ((hA'own b x).2.2 (hi.own b (hBT b hb)).2.1)
 ·obtain⟨r3,n3,hk,p1,p2,η1,p3,p4⟩:=Ny args _ r2 s.nx hk η a.tmps.toList us B Ao (fun b=>Ao b∨B b) hr2 hrI hargs' hai hr3
   ⟨fun _=>Iff.rfl,fun b x y=>hBA' b y ((hjr.1 b).2 (.inr x))⟩
  obtain⟨q1,q2,η2,q3,q4⟩:=WY (S.res x y) n3 v Ar η1 hr1
  have hv:=q4 η2 (fun _ _=>rfl)
  have p5:=CO (n:=n3) (Z':=Zc) (w':=w') (fun b hb _=>⟨hb,rfl⟩) q3 _ _ _ p2 (fun _ _=>rfl) p4
  refine⟨v,_,rfl,hk,?_⟩
  obtain⟨S',hS',hfin⟩:∃S',(∀b,S' b→A' b∨B b)∧Aq Zc η2 w' (setR r3 dst (Ek n3 (S.res x y)).1) (a.put dst v).tmps.toList S':=by
   cases dst with
   |none=>exact⟨_,fun b hb=>hb.elim (fun h=> .inl ((hjr.1 b).2 (.inr h))) .inr,p5⟩
   |some d=>
    rw[Nj]
    simp only[setR]
    rcases Nat.lt_or_ge d r3.length with hd|hd
    ·obtain⟨S',hs,hr⟩:=Sd p5 hd hv (fun b x y=>y.elim (fun y=>hjr.2 b x y) (fun y=>hBA' b y ((hjr.1 b).2 (.inl x))))
     exact⟨S',fun b hb=>(hs b hb).elim (fun h=>h.elim (fun h=> .inl ((hjr.1 b).2 (.inr h))) .inr) (fun h=> .inl ((hjr.1 b).2 (.inl h))),hr⟩
    ·rw[List.set_eq_of_length_le hd,List.set_eq_of_length_le (by rw[Fa _ _ _ p5];exact hd)]
     exact⟨_,fun b hb=>hb.elim (fun h=> .inl ((hjr.1 b).2 (.inr h))) .inr,p5⟩
  refine⟨η2,Zc,S',⟨by rw[Nk];exact hi.defers,hfin,?_,fun b hb=> ?_,?_⟩⟩
  ·cases dst with
   |none=>exact Fs q1 _ p2
   |some d=>exact IJ _ _ _ (Fs q1 _ p2) q2
  ·rcases hS' b hb with hb|hb
   ·obtain⟨g1,g2,g3⟩:=hA'own b hb
    refine⟨.inl g1,g2,fun h0=> ?_⟩
    have hTb:T b:=(g3 (Nat.lt_of_lt_of_le h0 hi.ok.size)).elim (hA1T b) (fun h=>hB1T b (hA2B b h))
    exact(hi.own b hTb).2.2 h0
   ·exact⟨.inr hb,Nat.lt_of_lt_of_le (hi.own b (hBT b hb)).2.1 haft.size,fun h0=>(hi.own b (hBT b hb)).2.2 h0⟩
  ·refine⟨haft.os.trans hi.ok.os,haft.tape.trans hi.ok.tape,haft.output.trans hi.ok.output,Nat.le_trans hi.ok.size haft.size,fun b h0 hs=> ?_⟩
   have hnT:¬T b:=fun x=>hs ((hi.own b x).2.2 h0)
   have hnA:¬(A1 b∨A2 b):=fun x=>hnT (x.elim (hA1T b) (fun h=>hB1T b (hA2B b h)))
   obtain⟨g1,g2⟩:=hold b (Nat.lt_of_lt_of_le h0 hi.ok.size) hnA
   obtain⟨g3,g4⟩:=hi.ok.old b h0 hs
   refine⟨g1.trans g3,⟨fun x=> ?_,fun x=> ?_⟩⟩
   ·rcases x with x|x
    ·exact g4.1 (h1.zz b (h2.zz b (g2.1 x)))
    ·exact(hnT (hBT b x)).elim
   ·refine .inl (g2.2 ?_)
    have z0:=g4.2 x
    have z1:Z1 b:=Classical.byContradiction fun hn=>hnT (h1.gone b z0 hn)
    exact Classical.byContradiction fun hn=>hnT (hB1T b (h2.gone b z1 hn))
end Go.Eng
end
section
set_option linter.unusedVariables false
set_option linter.unusedSimpArgs false
namespace Go.Eng
structure Grew (w w':World) (A:FP):Prop where
 os:w'.os=w.os
 tape:w'.tape=w.tape
 output:w'.output=w.output
 size:w.heap.size≤w'.heap.size
 old:∀b,b<w.heap.size→¬A b→w'.heap[b]? =w.heap[b]?
theorem Inst.next{C:Ctx}{s:St}{a:Act}{w:World}{η:Nat→Value}{Z T:FP}(hi:Inst C s a w η Z T){Z1 A1:FP}
 (hzz:∀b,Z1 b→Z b) (hgone:∀b,Z b→¬Z1 b→T b) (hA1T:∀b,A1 b→T b)
 {w':World} (hg:Grew w w' A1) {regs':List AV} {n':Nat} {η':Nat→Value} {S':FP} {a':Act} (hd:a'.defers=a.defers)
 (hrel:Aq (fun c=>Z1 c∨w.heap.size≤c) η' w' regs' a'.tmps.toList S') (hids:AX n' regs')
 (hS':∀b,S' b→(Z1 b∨w.heap.size≤b)∧(T b∨w.heap.size≤b)∧b<w'.heap.size):
 Inst C ⟨regs',n'⟩ a' w' η' (fun c=>Z1 c∨w.heap.size≤c) S':=by
 refine⟨hd.trans hi.defers,hrel,hids,fun b hb=> ?_,?_⟩
 ·obtain⟨g1,g2,g3⟩:=hS' b hb
  refine⟨g1,g3,fun h0=> ?_⟩
  rcases g2 with g2|g2
  ·exact(hi.own b g2).2.2 h0
  ·exact absurd (Nat.lt_of_lt_of_le h0 hi.ok.size) (by omega)
 ·refine⟨hg.os.trans hi.ok.os,hg.tape.trans hi.ok.tape,hg.output.trans hi.ok.output,Nat.le_trans hi.ok.size hg.size,fun b h0 hs=> ?_⟩
  have hnT:¬T b:=fun x=>hs ((hi.own b x).2.2 h0)
  have hlt:=Nat.lt_of_lt_of_le h0 hi.ok.size
  obtain⟨g3,g4⟩:=hi.ok.old b h0 hs
  refine⟨(hg.old b hlt (fun x=>hnT (hA1T b x))).trans g3,⟨fun x=> ?_,fun x=> ?_⟩⟩
  ·rcases x with x|x
   ·exact g4.1 (hzz b x)
   ·omega
  ·exact .inl (Classical.byContradiction fun hn=>hnT (hgone b (g4.2 x) hn))
theorem Inst.putOwn{C:Ctx}{s:St}{a:Act}{w:World}{η:Nat→Value}{Z T:FP}(hi:Inst C s a w η Z T){Z1 A1 B1:FP}{regs1:List AV}
 (hr:Aq Z1 η w regs1 a.tmps.toList B1) (hids:AX s.nx regs1)
 (hzz:∀b,Z1 b→Z b) (hgone:∀b,Z b→¬Z1 b→T b) (hA1T:∀b,A1 b→T b) (hB1T:∀b,B1 b→T b) (hdis:∀b,A1 b→B1 b→False)
 (hA1Z:∀b,A1 b→Z1 b) (hB1Z:∀b,B1 b→Z1 b)
 {w':World} (hg:Grew w w' A1) {r:AV} {v:Value} {n':Nat} {A':FP} {η':Nat→Value} (hn:s.nx≤n') (hη:∀i,i<s.nx→η' i=η i)
 (hrr:Ad (fun c=>Z1 c∨w.heap.size≤c) η' w' r v A') (hri:AP n' r) (hA':∀b,A' b→(A1 b∨w.heap.size≤b)∧b<w'.heap.size) (dst:Option Nat):
 Rel C ⟨setR regs1 dst r,n'⟩ (a.put dst v) w':=by
 have hr':Aq (fun c=>Z1 c∨w.heap.size≤c) η' w' regs1 a.tmps.toList B1:=by
  refine CO (n:=s.nx) (fun b hz hb=>⟨fun x=>x.elim hz (fun x=>by omega),hg.old b hb (fun x=>hz (hA1Z b x))⟩) hη _ _ _ hids (fun b hb=> ?_) hr
  exact hg.old b (hi.own b (hB1T b hb)).2.1 (fun x=>hdis b x hb)
 have hlt:∀b,B1 b→b<w.heap.size:=fun b hb=>(hi.own b (hB1T b hb)).2.1
 obtain⟨S',hS',hfin⟩:∃S',(∀b,S' b→B1 b∨A' b)∧Aq (fun c=>Z1 c∨w.heap.size≤c) η' w' (setR regs1 dst r) (a.put dst v).tmps.toList S':=by
  cases dst with
  |none=>exact⟨_,fun b hb=> .inl hb,hr'⟩
  |some d=>
   rw[Nj]
   simp only[setR]
   rcases Nat.lt_or_ge d regs1.length with hd|hd
   ·exact Sd hr' hd hrr (fun b x y=>(hA' b x).1.elim (fun x=>hdis b x y) (fun x=>by have:=hlt b y;omega))
   ·rw[List.set_eq_of_length_le hd,List.set_eq_of_length_le (by rw[Fa _ _ _ hr'];exact hd)]
    exact⟨_,fun b hb=> .inl hb,hr'⟩
 refine⟨η',_,S',hi.next hzz hgone hA1T hg (by rw[Nk]) hfin ?_ (fun b hb=> ?_)⟩
 ·cases dst with
  |none=>exact Fs hn _ hids
  |some d=>exact IJ _ _ _ (Fs hn _ hids) hri
 ·rcases hS' b hb with hb|hb
  ·exact⟨.inl (hB1Z b hb),.inl (hB1T b hb),Nat.lt_of_lt_of_le (hlt b hb) hg.size⟩
  ·obtain⟨g1,g2⟩:=hA' b hb
   exact⟨g1.imp (hA1Z b) id,g1.imp (hA1T b) id,g2⟩
def EE(w:World)(o:Obj):World:= {w with heap:=w.heap.push o}
theorem Kv(w:World)(o:Obj)(A:FP):Grew w (EE w o) A:=
 ⟨rfl,rfl,rfl,by simp [EE],fun b hb _=>by simp only[EE];rw[Array.getElem?_push,if_neg (by omega)]⟩
theorem Ph(w:World)(o:Obj):(EE w o).heap[w.heap.size]? =some o:=by
 show(w.heap.push o)[w.heap.size]? =some o
 rw[Array.getElem?_push,if_pos rfl]
theorem Pi(w:World)(o:Obj):(EE w o).heap.size=w.heap.size+1:=by simp [EE]
theorem Md{P:Program}{e:TypeId}{cells:Array Value}{w:World}:(newRow e cells).run P w= .ok (ad w.heap.size 0) (EE w (.cells cells e (0,0))):=rfl
def Pj(s:St)(dst:Option Nat)(x:AV)(K:St→Prop):Prop:=
 match IK x with
 |some ls=>K ⟨setR s.regs dst (.box s.nx ls),s.nx+1⟩
 |none=>False
theorem Xc{P:Program}{s:St}{dst:Option Nat}{x:AV}{K:St→Prop}(h:Pj s dst x K){C:Ctx}{a:Act}{w:World}{η:Nat→Value}{Z T:FP}
 (hi:Inst C s a w η Z T) {v:Value} (hx:Ad Z η w x v (fun _=>False)) (hxi:AP s.nx x) (e:TypeId):
 ∃u w' s',(do pure (Value.pointer (some (←newVar e v))):Sem Value).run P w= .ok u w'∧K s'∧Rel C s' (a.put dst u) w':=by
 unfold Pj at h
 split at h
 ·rename_i ls hl
  obtain⟨hr,hc⟩:=OT hx hl
  refine⟨.pointer (some (ad w.heap.size 0)),EE w (.cells v.cells e (0,0)),_,by unfold newVar;rw[AU Md];rfl,h,?_⟩
  have hids:AX s.nx ls:=by
   cases x<;>simp only[IK,Option.some.injEq,reduceCtorEq] at hl<;>try(subst hl;exact⟨hxi,trivial⟩)
   case agg fs=>
    split at hl
    ·simp only[Option.some.injEq] at hl;subst hl;simpa only[AP] using hxi
    ·cases hl
  refine hi.putOwn (A1:=fun _=>False) (η':=fun i=>if i=s.nx then .pointer (some (ad w.heap.size 0)) else η i) (A':=one w.heap.size) hi.rel hi.ids (fun _ h=>h) (fun _ h h'=>(h' h).elim) (fun _ h=>h.elim)
   (fun _ h=>h) (fun _ h=>h.elim) (fun _ h=>h.elim) (fun b hb=>(hi.own b hb).1) (Kv _ _ _) (Nat.le_succ _) (fun i hi=>if_neg (by omega)) ?_ ?_ ?_ dst
  ·simp only[Ad]
   refine⟨by simp,w.heap.size,v.cells,e,fun _=>False,rfl,Ph _ _,?_,II _⟩
   exact CO (n:=s.nx) (fun b hz hb=>⟨fun x=>x.elim hz (fun x=>by omega),(Kv w _ (fun _=>False)).old b hb id⟩) (fun i hi=>if_neg (by omega)) _ _ _ hids (fun b hb=>hb.elim) hr
  ·simp only[AP];exact⟨Nat.lt_succ_self _,Fs (Nat.le_succ _) _ hids⟩
  ·intro b hb;rw[Pi];simp only[one] at hb;omega
 ·exact h.elim
end Go.Eng
end
section
set_option linter.unusedVariables false
set_option linter.unusedSimpArgs false
namespace Go.Eng
def SP(P:Program)(s:St)(dst:Option Nat)(t:TypeId)(id:Nat)(lo hi:Option AV)(K:St→Prop):Prop:=
 match DA id s.regs with
 |some (.sl true j sz α f xs,r1)=>match JC P t with
  |some (_,es)=>match Nat.beq sz es with
   |true=>match GN 0 lo,GN xs.length hi with
    |some p,some q=>(0≤p∧p≤q∧q≤(xs.length:Int))∧K ⟨setR r1 dst (.sl true s.nx sz α f (Ns lo.isSome hi.isSome p q xs)),s.nx+1⟩
    |_,_=>False
   |false=>False
  |none=>False
 |_=>False
theorem a4T{P:Program}{s:St}{dst:Option Nat}{t:TypeId}{id:Nat}{lo hi:Option AV}{K:St→Prop}(h:SP P s dst t id lo hi K)
 {C:Ctx} {a:Act} {w:World} {η:Nat→Value} {Z T:FP} (hin:Inst C s a w η Z T) {xv:Value} {lov hiv:Option Value} (hx:Ad Z η w (.al id) xv (fun _=>False))
 (hlo:∀a,lo=some a→∃v,lov=some v∧Ad Z η w a v (fun _=>False)) (hlon:lo=none→lov=none)
 (hhi:∀a,hi=some a→∃v,hiv=some v∧Ad Z η w a v (fun _=>False)) (hhin:hi=none→hiv=none):
 ∃u w' s',(Instr.sliceAt t xv lov hiv none).run P w= .ok u w'∧K s'∧Rel C s' (a.put dst u) w':=by
 unfold SP at h
 split at h
 rotate_left
 ·exact h.elim
 rename_i j sz α f xs r1 htake
 split at h
 rotate_left
 ·exact h.elim
 rename_i e es he
 obtain⟨hu,inf,hinf,hsz⟩:=LV he
 split at h
 rotate_left
 ·exact h.elim
 rename_i hb
 have hb:=Nat.eq_of_beq_eq_true hb
 subst hb
 split at h
 rotate_left
 ·exact h.elim
 rename_i p q hp hq
 obtain⟨⟨h0,h1,h2⟩,h⟩:=h
 rw[Su hp hq] at h
 obtain⟨A,B,hj,hown,ho,hr1⟩:=ED _ _ T _ _ hin.rel htake
 obtain⟨hid,hoi,hri⟩:=Fc _ _ _ hin.ids htake
 simp only[Ad] at hx
 rw[hx.1]
 simp only[Ad,Am] at ho
 obtain⟨_,a0,n',c,ev,hn,hc,hr⟩:=ho
 rcases hr with⟨_,hr⟩|⟨hh,_⟩
 rotate_left
 ·cases hh
 rw[ev]
 subst hn
 have hrun:(Instr.sliceAt t (.slice a0 xs.length c) lov hiv none).run P w= .ok (.slice (if c=p.toNat then a0 else a0.map (·.add (p.toNat*sz))) (q.toNat-p.toNat) (c-p.toNat)) w:=by
  unfold Instr.sliceAt Instr.slice
  rw[AU (Dc hu w)]
  simp only[]
  rw[AU (Dc hu w)]
  simp only[]
  rw[AU (Sw hc h0 h1 h2 (LW hp hlo hlon) (LW hq hhi hhin))]
  simp only[]
  rw[AU (FQ hinf w),hsz];rfl
 have hAT:∀b,A b→T b:=fun b hb=>(hj.1 b).2 (.inl hb)
 have hBT:∀b,B b→T b:=fun b hb=>(hj.1 b).2 (.inr hb)
 let v:Value:= .slice (if c=p.toNat then a0 else a0.map (·.add (p.toNat*sz))) (q.toNat-p.toNat) (c-p.toNat)
 obtain⟨A',hA',hnew⟩:∃A',(∀b,A' b→A b)∧Am Z w (.sl true s.nx sz α f ((xs.take q.toNat).drop p.toNat)) v A':=by
  rcases hr with⟨ha,hcz,hAe⟩|⟨b,off,arr,ty,S1,ha,hbk,hfit,hrows,hjb⟩
  ·refine⟨fun _=>False,fun _ h=>h.elim,?_⟩
   subst ha
   simp only[Am]
   have:p.toNat=0:=by omega
   refine⟨none,q.toNat-p.toNat,c-p.toNat,by simp [v],by simp;omega,by omega,.inl ⟨trivial,.inl ⟨rfl,by omega,AW⟩⟩⟩
  ·subst ha
   obtain⟨S2,hs2,hr2⟩:=Sy q.toNat xs _ _ hrows
   obtain⟨S3,hs3,hr3⟩:=Sx p.toNat _ _ _ hr2
   rw[List.drop_drop] at hr3
   have hS31:∀x,S3 x→S1 x:=fun x hx=>hs2 x (hs3 x hx)
   have hj3:Bn (fun x=>one b x∨S3 x) (one b) S3:=⟨fun _=>Iff.rfl,fun x y z=>hjb.2 x y (hS31 x z)⟩
   refine⟨fun x=>one b x∨S3 x,fun x hx=>(hjb.1 x).2 (hx.imp (fun h=>h) (hS31 x)),?_⟩
   have hqp:q.toNat-p.toNat=((xs.take q.toNat).drop p.toNat).length:=by simp;omega
   by_cases hcp:c=p.toNat
   ·have hnil:(xs.take q.toNat).drop p.toNat=[]:=by
     apply List.drop_eq_nil_of_le;simp;omega
    have hS3:emp S3:=by rw[hnil] at hr3;exact hr3
    rw[hnil]
    simp only[Am]
    refine⟨some ⟨b,off,none⟩,q.toNat-p.toNat,c-p.toNat,by simp [v,hcp],by rw[hqp,hnil],by omega,.inl ⟨trivial,.inr ⟨b,off,arr,ty,S3,rfl,hbk,?_,?_,hj3⟩⟩⟩
    ·have:c-p.toNat=0:=by omega
     rw[this];have:0≤c*sz:=Nat.zero_le _;omega
    ·exact hS3
   ·simp only[Am]
    refine⟨some (ad b (off+p.toNat*sz)),q.toNat-p.toNat,c-p.toNat,?_,hqp,by omega,.inl ⟨trivial,.inr ⟨b,off+p.toNat*sz,arr,ty,S3,rfl,hbk,?_,hr3,hj3⟩⟩⟩
    ·simp only[v,if_neg hcp]
     exact congrArg (fun x=>Value.slice (some x) _ _) (GK b off _)
    ·have:(c-p.toNat)*sz+p.toNat*sz=c*sz:=by rw[←Nat.add_mul];congr 1;omega
     omega
 refine⟨v,w,_,hrun,h,?_⟩
 have hcell:Db v:=Sc hnew
 refine hin.putOwn (A1:=A) (B1:=B) (A':=A') (η':=fun i=>if i=s.nx then v else η i) hr1 hri (fun _ h=>h) (fun _ h h'=>(h' h).elim) hAT hBT (fun b x y=>hj.2 b x y)
  (fun b hb=>(hin.own b (hAT b hb)).1) (fun b hb=>(hin.own b (hBT b hb)).1) (w':=w) ⟨rfl,rfl,rfl,Nat.le_refl _,fun _ _ _=>rfl⟩ (Nat.le_succ _) (fun i hi=>if_neg (by omega)) ?_ ?_ ?_ dst
 ·simp only[Ad]
  refine⟨fun _=>by simp,?_⟩
  exact FO (fun b hz hb=>⟨fun x=>x.elim hz (fun x=>by omega),rfl⟩) _ _ _ (fun _ _=>rfl) hnew
 ·simp only[AP];exact fun _=>Nat.lt_succ_self _
 ·intro b hb;exact⟨.inl (hA' b hb),(hin.own b (hAT b (hA' b hb))).2.1⟩
end Go.Eng
end
section
set_option linter.unusedVariables false
set_option linter.unusedSimpArgs false
namespace Go.Eng
structure ES:Type 1 where
 α:Type
 f:α→List AV
theorem SQ(l:List Value):∀(cs:List Value) (j:Nat) (arr:Array Value) (off:Nat),off+j+cs.length≤arr.size→
 ((cs.zipIdx j).foldl (fun(a:Array Value) (p:Value×Nat)=>a.setIfInBounds (off+p.2) p.1) arr).toList=BT arr.toList (off+j) cs
 |[],j,arr,off,h=>by simp [BT]
 |c::cs,j,arr,off,h=>by
  simp only[List.zipIdx_cons,List.foldl_cons]
  rw[SQ l cs (j+1) _ off (by simp at h ⊢;omega)]
  simp only[BT,Array.toList_setIfInBounds]
  have hlt:off+j<arr.toList.length:=by simp at h ⊢;omega
  have e1:(arr.toList.set (off+j) c).take (off+(j+1))=arr.toList.take (off+j)++[c]:=by
   rw[show off+(j+1)=off+j+1 by omega]
   rw[List.take_succ_eq_append_getElem (by simpa using hlt)]
   simp [List.take_set_of_le]
  have e2:(arr.toList.set (off+j) c).drop (off+(j+1)+cs.length)=arr.toList.drop (off+j+(c::cs).length):=by
   rw[List.drop_set_of_lt (by omega)];congr 1;simp;omega
  rw[e1,e2];simp
theorem Xd(sz:Nat):∀(vs:List Value) (j:Nat) (cells:Array Value),(∀v∈vs,v.cells.size=sz)→(j+vs.length)*sz≤cells.size→
 ∃out:Array Value,Instr.fill (fun i=>some (i*sz,sz)) cells ((vs.zipIdx j).map fun p=>(p.2,p.1))=some out∧
  out.toList=BT cells.toList (j*sz) (vs.map (·.cells.toList)).flatten
 |[],j,cells,hv,hl=>⟨cells,by simp [Instr.fill],by simp [BT]⟩
 |v::vs,j,cells,hv,hl=>by
  have hsz:v.cells.size=sz:=hv v (by simp)
  have hl':j*sz+sz+vs.length*sz≤cells.size:=by
   have:(j+(v::vs).length)*sz=j*sz+sz+vs.length*sz:=by simp [Nat.add_mul];omega
   omega
  simp only[List.zipIdx_cons,List.map_cons,Instr.fill]
  rw[if_neg (by simp [hsz];omega)]
  have hf:=SQ [] v.cells.toList 0 cells (j*sz) (by simp [hsz];omega)
  have hfold:(v.cells.zipIdx.foldl (fun cs (x:Value×Nat)=>cs.setIfInBounds (j*sz+x.2) x.1) cells)=
   ((v.cells.toList.zipIdx 0).foldl (fun(a:Array Value) (p:Value×Nat)=>a.setIfInBounds (j*sz+p.2) p.1) cells):=by
   rw[←Array.foldl_toList];simp
  rw[←hfold] at hf
  have hlen:(BT cells.toList (j*sz+0) v.cells.toList).length=cells.toList.length:=OQ (by simp [hsz];omega)
  obtain⟨out,ho,hout⟩:=Xd sz vs (j+1) (v.cells.zipIdx.foldl (fun cs (x:Value×Nat)=>cs.setIfInBounds (j*sz+x.2) x.1) cells) (fun u hu=>hv u (by simp [hu])) (by
   have:(v.cells.zipIdx.foldl (fun cs (x:Value×Nat)=>cs.setIfInBounds (j*sz+x.2) x.1) cells).size=cells.size:=by
    rw[←Array.length_toList,hf,hlen];simp
   rw[this];simp [Nat.add_mul];omega)
  refine⟨out,ho,?_⟩
  rw[hout,hf]
  have hvl:v.cells.toList.length=sz:=by simp [hsz]
  simp only[BT,Nat.add_zero,List.map_cons,List.flatten_cons]
  have e:(j+1)*sz=j*sz+sz:=by simp [Nat.add_mul]
  rw[e]
  have hjl:(cells.toList.take (j*sz)).length=j*sz:=by simp;omega
  have t1:(cells.toList.take (j*sz)++v.cells.toList++cells.toList.drop (j*sz+v.cells.toList.length)).take (j*sz+sz)=cells.toList.take (j*sz)++v.cells.toList:=by
   rw[List.take_append_of_le_length (by rw[List.length_append,hjl,hvl];omega)]
   rw[List.take_of_length_le (by rw[List.length_append,hjl,hvl];omega)]
  have t2:∀m,(cells.toList.take (j*sz)++v.cells.toList++cells.toList.drop (j*sz+v.cells.toList.length)).drop (j*sz+sz+m)=cells.toList.drop (j*sz+sz+m):=by
   intro m
   rw[List.drop_append]
   have:(cells.toList.take (j*sz)++v.cells.toList).length=j*sz+sz:=by rw[List.length_append,hjl,hvl]
   rw[this,List.drop_of_length_le (by rw[this];omega),List.drop_drop,hvl]
   simp only[List.nil_append];congr 1;omega
  rw[t1,t2]
  simp only[List.append_assoc,List.length_append,hvl,Nat.add_assoc]
def SR{α:Type}(f:α→List AV):List (List AV)→List AV→(List α→List AV→Prop)→Prop
 |[],regs,K=>K [] regs
 |l::ls,regs,K=>∃x:α,DI false (f x) regs l fun regs'=>SR f ls regs' fun xs=>K (x::xs)
theorem Xe{η:Nat→Value}{w:World}{n:Nat}{α:Type}{f:α→List AV}(sz:Nat):∀(ls:List (List AV)) (regs:List AV) (K:List α→List AV→Prop),SR f ls regs K→
 ∀(Z:FP) (vs:List Value) (css:List (List Value)) (B:FP),Aq Z η w regs vs B→AX n regs→css.length=ls.length→
 (∀(i:Nat) (l:List AV) (cs:List Value),ls[i]? =some l→css[i]? =some cs→Aq Z η w l cs (fun _=>False)∧AX n l∧cs.length=sz)→(∀b,B b→Z b)→
 ∃Z' A' B' regs' xs,Aq Z' η w regs' vs B'∧AX n regs'∧Rows sz (fun x cs A=>AZ Z' w (f x) cs A) xs css.flatten A'∧xs.length=ls.length∧
  (∀b,Z' b→Z b)∧(∀b,Z b→¬Z' b→B b)∧(∀b,A' b∨B' b→B b)∧(∀b,A' b→B' b→False)∧(∀b,A' b→Z' b)∧(∀b,B' b→Z' b)∧K xs regs'
 |[],regs,K,h,Z,vs,css,B,hR,hI,hl,hp,hB=>by
  have:css=[]:=List.length_eq_zero_iff.1 hl
  subst this
  exact⟨Z,fun _=>False,B,regs,[],hR,hI,AW,rfl,fun _ h=>h,fun _ h h'=>(h' h).elim,fun b h=>h.resolve_left id,fun _ h=>h.elim,fun _ h=>h.elim,hB,h⟩
 |l::ls,regs,K,h,Z,vs,css,B,hR,hI,hl,hp,hB=>by
  obtain⟨x,h⟩:=h
  cases css with
  |nil=>simp at hl
  |cons cs css=>
   obtain⟨g1,g2,g3⟩:=hp 0 l cs rfl rfl
   obtain⟨Z1,A1,B1,r1,ho⟩:=FR (f x) regs l _ h Z vs cs B (fun _=>False) B hR hI g1 g2 (Cj B)
   have hB1:∀b,B1 b→Z1 b:=fun b hb=>ho.ownB rfl b hb (hB b (ho.part b (.inr hb)))
   have hA1:∀b,A1 b→Z1 b:=fun b hb=>ho.ownA b hb (hB b (ho.part b (.inl hb)))
   obtain⟨Z2,A2,B2,r2,xs,k1,k2,k3,k4,k5,k6,k7,k8,k9,k10,k11⟩:=Xe sz ls r1 _ ho.k Z1 vs css B1 ho.rel ho.ids (by simpa using hl)
    (fun i l' cs' h1 h2=>by
      obtain⟨p1,p2,p3⟩:=hp (i+1) l' cs' (by simpa using h1) (by simpa using h2)
      exact⟨CO (GR (w:=w) ho.zz) (fun _ _=>rfl) _ _ _ p2 (fun _ _=>rfl) p1,p2,p3⟩) hB1
   have hA1Z2:∀b,A1 b→Z2 b:=fun b hb=>Classical.byContradiction fun hn=>ho.dis b hb (k6 b (hA1 b hb) hn)
   refine⟨Z2,fun b=>A1 b∨A2 b,B2,r2,x::xs,k1,k2,?_,by simp [k4],fun b hb=>ho.zz b (k5 b hb),?_,?_,?_,?_,k10,k11⟩
   ·refine⟨A1,A2,⟨fun _=>Iff.rfl,fun b p q=>ho.dis b p (k7 b (.inl q))⟩,?_,?_,?_⟩
    ·simp [g3]
    ·simp only[List.flatten_cons]
     rw[List.take_append_of_le_length (by omega),List.take_of_length_le (by omega)]
     exact Dv (GR k5) _ _ _ (fun _ _=>rfl) ho.got
    ·simp only[List.flatten_cons]
     rw[List.drop_append_of_le_length (by omega),List.drop_of_length_le (by omega)]
     exact k3
   ·intro b hz hz2
    by_cases hz1:Z1 b
    ·exact ho.part b (.inr (k6 b hz1 hz2))
    ·exact ho.gone b hz hz1
   ·intro b hb
    rcases hb with(hb|hb)|hb
    ·exact ho.part b (.inl hb)
    ·exact ho.part b (.inr (k7 b (.inl hb)))
    ·exact ho.part b (.inr (k7 b (.inr hb)))
   ·intro b hb hc
    rcases hb with hb|hb
    ·exact ho.dis b hb (k7 b (.inr hc))
    ·exact k8 b hb hc
   ·intro b hb
    exact hb.elim (hA1Z2 b) (k9 b)
def NA(regs:List AV)(sz:Nat):List (Nat×Operand)→Nat→Option (List (List AV))
 |[],_=>some []
 |(i,x)::ps,j=>match Nat.beq i j with
  |true=>match IK (Bi regs x) with
   |some l=>match Nat.beq l.length sz with
    |true=>match NA regs sz ps (j+1) with
     |some ls=>some (l::ls)
     |none=>none
    |false=>none
   |none=>none
  |false=>none
theorem SS{n:Nat}{x:AV}{ls:List AV}(hxi:AP n x)(hl:IK x=some ls):AX n ls:=by
 cases x<;>simp only[IK,Option.some.injEq,reduceCtorEq] at hl<;>try(subst hl;exact⟨hxi,trivial⟩)
 case agg fs=>
  split at hl
  ·simp only[Option.some.injEq] at hl;subst hl;simpa only[AP] using hxi
  ·cases hl
theorem Xf{Z:FP}{η:Nat→Value}{w:World}{n:Nat}{regs:List AV}{a:Act}{S:FP}(hR:Aq Z η w regs a.tmps.toList S)(hI:AX n regs){sz:Nat}:
 ∀(ps:List (Nat×Operand)) (j:Nat) (ls:List (List AV)),NA regs sz ps j=some ls→
 ps.map (fun p=>(p.1,a.eval p.2))=((ps.map fun p=>a.eval p.2).zipIdx j).map (fun p=>(p.2,p.1))∧ls.length=ps.length∧
 (∀v∈ps.map (fun p=>a.eval p.2),v.cells.size=sz)∧
 (∀(i:Nat) (l:List AV) (cs:List Value),ls[i]? =some l→(ps.map fun p=>(a.eval p.2).cells.toList)[i]? =some cs→Aq Z η w l cs (fun _=>False)∧AX n l∧cs.length=sz)
 |[],j,ls,h=>by
  simp only[NA,Option.some.injEq] at h;subst h
  exact⟨rfl,rfl,by simp,by simp⟩
 |(i,x)::ps,j,ls,h=>by
  unfold NA at h
  split at h
  ·rename_i hij
   have hij:=Nat.eq_of_beq_eq_true hij
   subst hij
   split at h
   ·rename_i l hl
    split at h
    ·rename_i hlen
     have hlen:=Nat.eq_of_beq_eq_true hlen
     split at h
     ·rename_i ls' hls
      simp only[Option.some.injEq] at h;subst h
      obtain⟨p1,p2,p3,p4⟩:=Xf hR hI ps (i+1) ls' hls
      obtain⟨q1,q2⟩:=OT (EB hR x) hl
      have hsz:(a.eval x).cells.toList.length=sz:=by rw[Fa _ _ _ q1];exact hlen
      refine⟨by simp [p1],by simp [p2],?_,?_⟩
      ·intro v hv
       simp only[List.map_cons,List.mem_cons] at hv
       rcases hv with rfl|hv
       ·simpa using hsz
       ·exact p3 v hv
      ·intro k l' cs h1 h2
       cases k with
       |zero=>
        simp at h1 h2;subst h1;subst h2
        exact⟨q1,SS (GM hI x) hl,hsz⟩
       |succ k=>exact p4 k l' cs (by simpa using h1) (by simpa using h2)
     ·cases h
    ·cases h
   ·cases h
  ·cases h
def SU(P:Program)(E:TypeId→Option ES)(s:St)(dst:Option Nat)(t:TypeId)(len:Nat)(parts:List (Nat×Operand))(K:St→Prop):Prop:=
 match JC P t,E t with
 |some (e,sz),some es=>match P.info? e with
  |some i=>match i.zero with
   |some z=>match NA s.regs sz parts 0,Nat.beq parts.length len,Nat.ble (len*sz) 16777216,Nat.blt 0 sz,Nat.beq z.cells.size sz with
    |some ls,true,true,true,true=>SR es.f ls s.regs fun xs regs'=>K ⟨setR regs' dst (.sl true s.nx sz es.α es.f xs),s.nx+1⟩
    |_,_,_,_,_=>False
   |none=>False
  |none=>False
 |_,_=>False
theorem a4U{P:Program}{E:TypeId→Option ES}{s:St}{dst:Option Nat}{t:TypeId}{len:Nat}{parts:Array (Nat×Operand)}{K:St→Prop}
 (h:SU P E s dst t len parts.toList K) {C:Ctx} {a:Act} {w:World} {η:Nat→Value} {Z T:FP} (hi:Inst C s a w η Z T):
 ∃u w' s',(Instr.buildSlice t len (parts.map fun p=>(p.1,a.eval p.2))).run P w= .ok u w'∧K s'∧Rel C s' (a.put dst u) w':=by
 unfold SU at h
 split at h
 ·rename_i e sz es he hE
  obtain⟨hu,inf,hinf,hsz⟩:=LV he
  split at h
  ·rename_i i hi2
   rw[hinf] at hi2;simp only[Option.some.injEq] at hi2;subst hi2
   split at h
   ·rename_i z hz
    split at h
    ·rename_i ls hls hlen hle hpos hzs
     have hlen:=Nat.eq_of_beq_eq_true hlen
     have hle:=Nat.le_of_ble_eq_true hle
     have hpos:0<sz:=Nat.le_of_ble_eq_true hpos
     have hzs:=Nat.eq_of_beq_eq_true hzs
     obtain⟨p1,p2,p3,p4⟩:=Xf (a:=a) hi.rel hi.ids parts.toList 0 ls hls
     obtain⟨Z1,A1,B1,r1,xs,k1,k2,k3,k4,k5,k6,k7,k8,k9,k10,k11⟩:=Xe sz ls s.regs _ h Z a.tmps.toList
      (parts.toList.map fun p=>(a.eval p.2).cells.toList) T hi.rel hi.ids (by simp [p2]) (fun i l cs h1 h2=>p4 i l cs h1 h2) (fun b hb=>(hi.own b hb).1)
     obtain⟨out,ho,hout⟩:=Xd sz (parts.toList.map fun p=>a.eval p.2) 0 ((Array.range (len*sz)).map (fun k=>(if len*sz=0 then #[] else z.cells)[k % (if len*sz=0 then #[] else z.cells).size]!)) p3 (by simp [hlen])
     have hflat:out.toList=(parts.toList.map fun p=>(a.eval p.2).cells.toList).flatten:=by
      rw[hout]
      simp only[BT,Nat.zero_mul,List.take_zero,List.nil_append,Nat.zero_add,List.map_map]
      rw[List.drop_of_length_le]
      ·simp;rfl
      ·have hall:∀(l:List (Nat×Operand)),(∀v∈l.map (fun p=>a.eval p.2),v.cells.size=sz)→((l.map ((fun x=>x.cells.toList)∘fun p=>a.eval p.2)).flatten).length=l.length*sz:=by
        intro l
        induction l with
        |nil=>intro _;simp
        |cons q l ih=>
         intro hq
         simp only[List.map_cons,List.flatten_cons,List.length_append,Function.comp]
         have h1:=hq (a.eval q.2) (by simp)
         have h2:=ih (fun v hv=>hq v (by simp at hv ⊢;exact .inr hv))
         rw[h2];simp [h1,Nat.succ_mul];omega
       rw[hall _ p3,hlen];simp
     refine⟨.slice (some (ad w.heap.size 0)) len len,EE w (.cells out e (0,0)),_,?_,k11,?_⟩
     ·unfold Instr.buildSlice
      rw[AU (Dc hu w)]
      simp only[]
      rw[AU (FQ hinf w),hsz]
      rw[if_neg (by omega)]
      have hparts:(parts.map fun p=>(p.1,a.eval p.2)).toList=((parts.toList.map fun p=>a.eval p.2).zipIdx 0).map (fun p=>(p.2,p.1)):=by
       rw[←p1];simp
      rw[hparts]
      by_cases h0:len*sz=0
      ·simp only[h0,if_true] at ho ⊢
       rw[AU (Cc P _ w)]
       simp only[ho]
       rw[AU Md];rfl
      ·simp only[h0,if_false] at ho ⊢
       rw[AU (LN hinf hz w)]
       rw[AU (Cc P _ w)]
       simp only[ho]
       rw[AU Md];rfl
     ·refine hi.putOwn (A1:=A1) (η':=fun i=>if i=s.nx then .slice (some (ad w.heap.size 0)) len len else η i) (A':=fun b=>b=w.heap.size∨A1 b) k1 k2 k5 k6 (fun b hb=>k7 b (.inl hb)) (fun b hb=>k7 b (.inr hb)) k8 k9 k10
       (Kv _ _ _) (Nat.le_succ _) (fun i hi=>if_neg (by omega)) ?_ ?_ ?_ dst
      ·simp only[Ad,Am]
       refine⟨fun _=>by simp,some (ad w.heap.size 0),len,len,rfl,?_,Nat.le_refl _,.inl ⟨trivial,.inr ⟨w.heap.size,0,out,e,A1,rfl,Ph _ _,?_,?_,?_⟩⟩⟩
       ·rw[k4,p2];simpa using hlen.symm
       ·have:out.toList.length=len*sz:=by
         rw[hout,OQ]
         ·simp
         ·have hall:∀(l:List Value),(∀v∈l,v.cells.size=sz)→((l.map (·.cells.toList)).flatten).length=l.length*sz:=by
           intro l
           induction l with
           |nil=>intro _;simp
           |cons q l ih=>
            intro hq
            simp only[List.map_cons,List.flatten_cons,List.length_append]
            rw[ih (fun v hv=>hq v (by simp [hv]))]
            simp [hq q (by simp),Nat.succ_mul];omega
          rw[hall _ p3];simp [hlen]
        simp at this;omega
       ·rw[List.drop_zero,hflat]
        exact HY xs _ A1 (fun x cs A hA hx=>Dv (fun b hz hb=>⟨fun x=>x.elim hz (fun x=>by omega),(Kv w _ (fun _=>False)).old b hb id⟩) _ _ _
         (fun b hb=>(Kv w _ (fun _=>False)).old b (hi.own b (k7 b (.inl (hA b hb)))).2.1 id) hx) k3
       ·exact⟨fun b=>Iff.rfl,fun b h1 h2=>by
         simp only[one] at h1
         have:=(hi.own b (k7 b (.inl h2))).2.1;omega⟩
      ·simp only[AP];intro _;exact Nat.lt_succ_self _
      ·intro b hb
       rw[Pi]
       rcases hb with hb|hb
       ·omega
       ·have:=(hi.own b (k7 b (.inl hb))).2.1
        exact⟨.inl hb,by omega⟩
    ·exact h.elim
   ·exact h.elim
  ·exact h.elim
 ·exact h.elim
end Go.Eng
end
