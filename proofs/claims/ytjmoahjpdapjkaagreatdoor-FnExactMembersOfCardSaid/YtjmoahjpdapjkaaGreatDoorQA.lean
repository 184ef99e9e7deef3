/- A part of the proof: the engine and the contracts, joined. -/
import Derived.Calls
import Derived.KernelRfl
import Derived.Laws.Strings
import Derived.Laws.StructEq
import Derived.Laws.BytesString
section
set_option linter.unusedVariables false
namespace Go.Eng
abbrev FP:=Nat→Prop
def emp(S:FP):Prop:=∀b,¬S b
def one(b:Nat):FP:=fun c=>c=b
def Bn(S A B:FP):Prop:=(∀b,S b↔(A b∨B b))∧(∀b,A b→B b→False)
def Db:Value→Prop
 | .agg _=>False
 | .tuple _=>False
 |_=>True
def FM:Fn→List Value→Value
 | .yield g,cs=> .func (.func g) cs.toArray #[]
 |fn,cs=> .func fn #[] cs.toArray
theorem Ng{fn:Fn}{cs:List Value}:Db (FM fn cs):=by cases fn<;>trivial
inductive AV:Type 1
 |int (k:IntKind) (n:Int)
 |bool (b:Bool)
 |str (l:List UInt8)
 |val (v:Value)
 |any
 |top
 |nil
 |hole (id:Nat)
 |al (id:Nat)
 |po (id k sz off:Nat)
 |agg (fs:List AV)
 |tup (vs:List AV)
 |box (id:Nat) (c:List AV)
 |bv (x:Value) (c:List AV)
 |hv (x:Value)
 |pf (c:List AV)
 |clo (fn:Fn) (caps:List AV)
 |sl (own:Bool) (id sz:Nat) (α:Type) (f:α→List AV) (xs:List α)
def Rows{α:Type}(sz:Nat)(R:α→List Value→FP→Prop):List α→List Value→FP→Prop
 |[],_,S=>emp S
 |x::xs,cs,S=>∃A B,Bn S A B∧(cs.take sz).length=sz∧R x (cs.take sz) A∧Rows sz R xs (cs.drop sz) B
mutual
def Am(Z:FP)(w:World):AV→Value→FP→Prop
 | .int k n,v,S=>v= .int k n∧emp S
 | .bool b,v,S=>v= .bool b∧emp S
 | .str l,v,S=>v= .string ⟨l.toArray⟩∧emp S
 | .val x,v,S=>v=x∧Db x∧emp S
 | .any,v,S=>Db v∧emp S
 | .top,v,S=>emp S
 | .nil,v,S=>v= .slice none 0 0∧emp S
 | .agg fs,v,S=>∃cs:List Value,v= .agg cs.toArray∧AZ Z w fs cs S
 | .tup fs,v,S=>∃cs:List Value,v= .tuple cs.toArray∧AZ Z w fs cs S
 | .clo fn fs,v,S=>∃cs:List Value,v=FM fn cs∧AZ Z w fs cs S
 | .box _ c,v,S=>∃b arr ty S1,v= .pointer (some ⟨b,0,none⟩)∧w.heap[b]? =some (.cells arr ty (0,0))∧
    AZ Z w c arr.toList S1∧Bn S (one b) S1
 | .bv x c,v,S=>v=x∧∃b arr ty S1,v= .pointer (some ⟨b,0,none⟩)∧w.heap[b]? =some (.cells arr ty (0,0))∧
    AZ Z w c arr.toList S1∧Bn S (one b) S1
 | .hv x,v,S=>v=x∧Db x∧emp S
 | .pf c,v,S=>emp S∧∃b off arr ty fr cs rest S1,v= .pointer (some ⟨b,off,none⟩)∧¬Z b∧w.heap[b]? =some (.cells arr ty fr)∧
    arr.toList.drop off=cs++rest∧AZ Z w c cs S1∧emp S1
 | .sl own _ sz _ f xs,v,S=>∃a n c,v= .slice a n c∧n=xs.length∧n≤c∧
    ((own=true∧((a=none∧c=0∧emp S)∨∃b off arr ty S1,a=some ⟨b,off,none⟩∧w.heap[b]? =some (.cells arr ty (0,0))∧
       off+c*sz≤arr.size∧Rows sz (fun x cs A=>AZ Z w (f x) cs A) xs (arr.toList.drop off) S1∧Bn S (one b) S1))∨
     (own=false∧emp S∧(xs=[]∨∃b off arr ty fr,a=some ⟨b,off,none⟩∧¬Z b∧w.heap[b]? =some (.cells arr ty fr)∧
       Rows sz (fun x cs A=>AZ Z w (f x) cs A) xs (arr.toList.drop off) S)))
 | .hole _,_,_=>False
 | .al _,_,_=>False
 | .po _ _ _ _,_,_=>False
def AZ(Z:FP)(w:World):List AV→List Value→FP→Prop
 |[],cs,S=>cs=[]∧emp S
 |a::azs,cs,S=>∃v cs' A B,cs=v::cs'∧Bn S A B∧Am Z w a v A∧AZ Z w azs cs' B
end
theorem Gq{S A B:FP}(h:Bn S A B)(ha:emp A):∀b,S b↔B b:=by
 intro b;rw[h.1 b];exact⟨fun| .inl x=>(ha b x).elim| .inr x=>x,.inr⟩
theorem Wq{S A B:FP}(h:Bn S A B)(hb:emp B):∀b,S b↔A b:=by
 intro b;rw[h.1 b];exact⟨fun| .inr x=>(hb b x).elim| .inl x=>x,.inl⟩
theorem EL{A B:FP}(h:∀b,A b↔B b):A=B:=funext fun b=>propext (h b)
theorem Cj(S:FP):Bn S (fun _=>False) S:=⟨fun b=>by simp,fun b h=>h.elim⟩
theorem II(S:FP):Bn S S (fun _=>False):=⟨fun b=>by simp,fun b _ h=>h⟩
theorem Wr{S A B:FP}(h:Bn S A B):Bn S B A:=⟨fun b=>by rw[h.1 b];exact or_comm,fun b x y=>h.2 b y x⟩
theorem Jw{S A B C D:FP}(h:Bn S A B)(h2:Bn B C D):∃E,Bn S E D∧Bn E A C:=
 ⟨fun b=>A b∨C b,⟨fun b=>by rw[h.1 b,h2.1 b];exact or_assoc.symm,fun b x y=>x.elim (fun x=>h.2 b x ((h2.1 b).2 (.inr y))) (fun x=>h2.2 b x y)⟩,
   ⟨fun b=>Iff.rfl,fun b x y=>h.2 b x ((h2.1 b).2 (.inl y))⟩⟩
theorem Nh{S A B C D:FP}(h:Bn S A B)(h2:Bn A C D):∃E,Bn S C E∧Bn E D B:=
 ⟨fun b=>D b∨B b,⟨fun b=>by rw[h.1 b,h2.1 b];exact or_assoc,fun b x y=>y.elim (fun y=>h2.2 b x y) (fun y=>h.2 b ((h2.1 b).2 (.inl x)) y)⟩,
   ⟨fun b=>Iff.rfl,fun b x y=>h.2 b ((h2.1 b).2 (.inr x)) y⟩⟩
theorem HX{S A B:FP}(h:Bn S A B)(hs:emp S):emp A∧emp B:=
 ⟨fun b x=>hs b ((h.1 b).2 (.inl x)),fun b x=>hs b ((h.1 b).2 (.inr x))⟩
theorem AW:emp (fun _=>False):=fun _ h=>h
theorem EA{S:FP}(h:emp S):S=fun _=>False:=funext fun b=>propext ⟨fun x=>h b x,False.elim⟩
theorem HY{α:Type}{sz:Nat}{R R':α→List Value→FP→Prop}:∀(xs:List α) (cs:List Value) (S:FP),
 (∀x cs A,(∀b,A b→S b)→R x cs A→R' x cs A)→Rows sz R xs cs S→Rows sz R' xs cs S
 |[],_,_,_,h=>h
 |x::xs,cs,S,hr,h=>by
  obtain⟨A,B,hj,hl,h1,h2⟩:=h
  exact⟨A,B,hj,hl,hr _ _ _ (fun b hb=>(hj.1 b).2 (.inl hb)) h1,HY xs _ B (fun x cs A' hA=>hr x cs A' (fun b hb=>(hj.1 b).2 (.inr (hA b hb)))) h2⟩
mutual
theorem FO{Z Z':FP}{w w':World}(hZ:∀b,¬Z b→b<w.heap.size→¬Z' b∧w'.heap[b]? =w.heap[b]?):
 ∀(a:AV) (v:Value) (S:FP),(∀b,S b→w'.heap[b]? =w.heap[b]?)→Am Z w a v S→Am Z' w' a v S
 | .int _ _,_,_,_,h=>h
 | .bool _,_,_,_,h=>h
 | .str _,_,_,_,h=>h
 | .val _,_,_,_,h=>h
 | .any,_,_,_,h=>h
 | .top,_,_,_,h=>h
 | .nil,_,_,_,h=>h
 | .agg fs,v,S,hS,h=>by
   simp only[Am] at h ⊢;obtain⟨cs,e,h⟩:=h;exact⟨cs,e,Dv hZ fs cs S hS h⟩
 | .tup fs,v,S,hS,h=>by
   simp only[Am] at h ⊢;obtain⟨cs,e,h⟩:=h;exact⟨cs,e,Dv hZ fs cs S hS h⟩
 | .clo _ fs,v,S,hS,h=>by
   simp only[Am] at h ⊢;obtain⟨cs,e,h⟩:=h;exact⟨cs,e,Dv hZ fs cs S hS h⟩
 | .box _ c,v,S,hS,h=>by
   simp only[Am] at h ⊢
   obtain⟨b,arr,ty,S1,e,hb,h,hj⟩:=h
   exact⟨b,arr,ty,S1,e,by rw[hS b ((hj.1 b).2 (.inl rfl))];exact hb,Dv hZ c _ S1 (fun b hb=>hS b ((hj.1 b).2 (.inr hb))) h,hj⟩
 | .bv _ c,v,S,hS,h=>by
   simp only[Am] at h ⊢
   obtain⟨e0,b,arr,ty,S1,e,hb,h,hj⟩:=h
   exact⟨e0,b,arr,ty,S1,e,by rw[hS b ((hj.1 b).2 (.inl rfl))];exact hb,Dv hZ c _ S1 (fun b hb=>hS b ((hj.1 b).2 (.inr hb))) h,hj⟩
 | .hv _,_,_,_,h=>h
 | .pf c,v,S,hS,h=>by
   simp only[Am] at h ⊢
   obtain⟨he,b,off,arr,ty,fr,cs,rest,S1,e,hz,hb,hd,h,h1⟩:=h
   have hlt:b<w.heap.size:=by
    rcases Nat.lt_or_ge b w.heap.size with hh|hh
    ·exact hh
    ·simp [Array.getElem?_eq_none hh] at hb
   exact⟨he,b,off,arr,ty,fr,cs,rest,S1,e,(hZ b hz hlt).1,by rw[(hZ b hz hlt).2];exact hb,hd,Dv hZ c _ S1 (fun b hb=>(h1 b hb).elim) h,h1⟩
 | .sl own _ sz α f xs,v,S,hS,h=>by
   simp only[Am] at h ⊢
   obtain⟨a,n,c,e,hn,hc,h⟩:=h
   refine⟨a,n,c,e,hn,hc,?_⟩
   rcases h with⟨ho,h⟩|⟨ho,he,h⟩
   ·refine .inl ⟨ho,?_⟩
    rcases h with h|⟨b,off,arr,ty,S1,ha,hb,hsz,hr,hj⟩
    ·exact .inl h
    ·refine .inr ⟨b,off,arr,ty,S1,ha,by rw[hS b ((hj.1 b).2 (.inl rfl))];exact hb,hsz,?_,hj⟩
     exact HY xs _ S1 (fun x cs A hA hx=>Dv hZ (f x) cs A (fun b hb=>hS b ((hj.1 b).2 (.inr (hA b hb)))) hx) hr
   ·refine .inr ⟨ho,he,?_⟩
    rcases h with h|⟨b,off,arr,ty,fr,ha,hz,hb,hr⟩
    ·exact .inl h
    ·have hlt:b<w.heap.size:=by
      rcases Nat.lt_or_ge b w.heap.size with hh|hh
      ·exact hh
      ·simp [Array.getElem?_eq_none hh] at hb
     refine .inr ⟨b,off,arr,ty,fr,ha,(hZ b hz hlt).1,by rw[(hZ b hz hlt).2];exact hb,?_⟩
     exact HY xs _ S (fun x cs A hA hx=>Dv hZ (f x) cs A (fun b hb=>hS b (hA b hb)) hx) hr
 | .hole _,_,_,_,h=>h
 | .al _,_,_,_,h=>h
 | .po _ _ _ _,_,_,_,h=>h
theorem Dv{Z Z':FP}{w w':World}(hZ:∀b,¬Z b→b<w.heap.size→¬Z' b∧w'.heap[b]? =w.heap[b]?):
 ∀(azs:List AV) (cs:List Value) (S:FP),(∀b,S b→w'.heap[b]? =w.heap[b]?)→AZ Z w azs cs S→AZ Z' w' azs cs S
 |[],_,_,_,h=>h
 |a::azs,cs,S,hS,h=>by
  simp only[AZ] at h ⊢
  obtain⟨v,cs',A,B,e,hj,h1,h2⟩:=h
  exact⟨v,cs',A,B,e,hj,FO hZ a v A (fun b hb=>hS b ((hj.1 b).2 (.inl hb))) h1,Dv hZ azs cs' B (fun b hb=>hS b ((hj.1 b).2 (.inr hb))) h2⟩
end
end Go.Eng
end
section
set_option linter.unusedVariables false
namespace Go.Eng
def EM:Value→Addr
 | .slice (some a) _ _=>a
 | .pointer (some a)=>a
 |_=>⟨0,0,none⟩
mutual
def Ad(Z:FP)(η:Nat→Value)(w:World):AV→Value→FP→Prop
 | .al id,v,S=>v=η id∧Db v∧emp S
 | .hole id,v,S=>v=η id∧Db v∧emp S
 | .po id k sz off,v,S=>v= .pointer (some ⟨(EM (η id)).block,(EM (η id)).off+(k*sz+off),none⟩)∧emp S
 | .agg fs,v,S=>∃cs:List Value,v= .agg cs.toArray∧Aq Z η w fs cs S
 | .tup fs,v,S=>∃cs:List Value,v= .tuple cs.toArray∧Aq Z η w fs cs S
 | .clo fn fs,v,S=>∃cs:List Value,v=FM fn cs∧Aq Z η w fs cs S
 | .box id c,v,S=>v=η id∧∃b arr ty S1,v= .pointer (some ⟨b,0,none⟩)∧w.heap[b]? =some (.cells arr ty (0,0))∧
    Aq Z η w c arr.toList S1∧Bn S (one b) S1
 | .bv x c,v,S=>v=x∧∃b arr ty S1,v= .pointer (some ⟨b,0,none⟩)∧w.heap[b]? =some (.cells arr ty (0,0))∧
    Aq Z η w c arr.toList S1∧Bn S (one b) S1
 | .hv x,v,S=>Am Z w (.hv x) v S
 | .sl own id sz α f xs,v,S=>(own=true→v=η id)∧Am Z w (.sl own id sz α f xs) v S
 | .int k n,v,S=>Am Z w (.int k n) v S
 | .bool b,v,S=>Am Z w (.bool b) v S
 | .str l,v,S=>Am Z w (.str l) v S
 | .val x,v,S=>Am Z w (.val x) v S
 | .any,v,S=>Am Z w .any v S
 | .top,v,S=>Am Z w .top v S
 | .nil,v,S=>Am Z w .nil v S
 | .pf c,v,S=>Am Z w (.pf c) v S
def Aq(Z:FP)(η:Nat→Value)(w:World):List AV→List Value→FP→Prop
 |[],cs,S=>cs=[]∧emp S
 |a::azs,cs,S=>∃v cs' A B,cs=v::cs'∧Bn S A B∧Ad Z η w a v A∧Aq Z η w azs cs' B
end
mutual
def AP(n:Nat):AV→Prop
 | .al id=>id<n
 | .hole id=>id<n
 | .po id _ _ _=>id<n
 | .agg fs=>AX n fs
 | .tup fs=>AX n fs
 | .clo _ fs=>AX n fs
 | .box id c=>id<n∧AX n c
 | .bv _ c=>AX n c
 | .sl own id _ _ _ _=>own=true→id<n
 |_=>True
def AX(n:Nat):List AV→Prop
 |[]=>True
 |a::azs=>AP n a∧AX n azs
end
mutual
theorem Ws{n m:Nat}(h:n≤m):∀a:AV,AP n a→AP m a
 | .al _,x=>Nat.lt_of_lt_of_le x h
 | .hole _,x=>Nat.lt_of_lt_of_le x h
 | .po _ _ _ _,x=>Nat.lt_of_lt_of_le x h
 | .agg fs,x=>by simp only[AP] at x ⊢;exact Fs h fs x
 | .tup fs,x=>by simp only[AP] at x ⊢;exact Fs h fs x
 | .clo _ fs,x=>by simp only[AP] at x ⊢;exact Fs h fs x
 | .box _ c,x=>by simp only[AP] at x ⊢;exact⟨Nat.lt_of_lt_of_le x.1 h,Fs h c x.2⟩
 | .bv _ c,x=>by simp only[AP] at x ⊢;exact Fs h c x
 | .hv _,x=>x
 | .sl _ _ _ _ _ _,x=>fun o=>Nat.lt_of_lt_of_le (x o) h
 | .int _ _,x=>x
 | .bool _,x=>x
 | .str _,x=>x
 | .val _,x=>x
 | .any,x=>x
 | .top,x=>x
 | .nil,x=>x
 | .pf _,x=>x
theorem Fs{n m:Nat}(h:n≤m):∀azs:List AV,AX n azs→AX m azs
 |[],x=>x
 |a::azs,x=>by simp only[AX] at x ⊢;exact⟨Ws h a x.1,Fs h azs x.2⟩
end
structure Moves (Z Z':FP) (w w':World):Prop where
 fz:∀b,¬Z b→b<w.heap.size→¬Z' b∧w'.heap[b]? =w.heap[b]?
mutual
theorem a4e{n:Nat}{Z Z':FP}{η η':Nat→Value}{w w':World}(hZ:∀b,¬Z b→b<w.heap.size→¬Z' b∧w'.heap[b]? =w.heap[b]?)
 (hη:∀i,i<n→η' i=η i):
 ∀(a:AV) (v:Value) (S:FP),AP n a→(∀b,S b→w'.heap[b]? =w.heap[b]?)→Ad Z η w a v S→Ad Z' η' w' a v S
 | .al id,v,S,hi,hS,h=>by
   simp only[Ad] at h ⊢;simp only[AP] at hi;rw[hη id hi];exact h
 | .hole id,v,S,hi,hS,h=>by
   simp only[Ad] at h ⊢;simp only[AP] at hi;rw[hη id hi];exact h
 | .po id _ _ _,v,S,hi,hS,h=>by
   simp only[Ad] at h ⊢;simp only[AP] at hi;rw[hη id hi];exact h
 | .agg fs,v,S,hi,hS,h=>by
   simp only[Ad] at h ⊢;simp only[AP] at hi;obtain⟨cs,e,h⟩:=h;exact⟨cs,e,CO hZ hη fs cs S hi hS h⟩
 | .tup fs,v,S,hi,hS,h=>by
   simp only[Ad] at h ⊢;simp only[AP] at hi;obtain⟨cs,e,h⟩:=h;exact⟨cs,e,CO hZ hη fs cs S hi hS h⟩
 | .clo _ fs,v,S,hi,hS,h=>by
   simp only[Ad] at h ⊢;simp only[AP] at hi;obtain⟨cs,e,h⟩:=h;exact⟨cs,e,CO hZ hη fs cs S hi hS h⟩
 | .box id c,v,S,hi,hS,h=>by
   simp only[Ad] at h ⊢;simp only[AP] at hi
   obtain⟨e0,b,arr,ty,S1,e,hb,h,hj⟩:=h
   exact⟨by rw[hη id hi.1];exact e0,b,arr,ty,S1,e,by rw[hS b ((hj.1 b).2 (.inl rfl))];exact hb,CO hZ hη c _ S1 hi.2 (fun b hb=>hS b ((hj.1 b).2 (.inr hb))) h,hj⟩
 | .bv _ c,v,S,hi,hS,h=>by
   simp only[Ad] at h ⊢;simp only[AP] at hi
   obtain⟨e0,b,arr,ty,S1,e,hb,h,hj⟩:=h
   exact⟨e0,b,arr,ty,S1,e,by rw[hS b ((hj.1 b).2 (.inl rfl))];exact hb,CO hZ hη c _ S1 hi (fun b hb=>hS b ((hj.1 b).2 (.inr hb))) h,hj⟩
 | .hv _,v,S,_,hS,h=>FO hZ _ v S hS h
 | .sl own id sz α f xs,v,S,hi,hS,h=>by
   simp only[Ad] at h ⊢;simp only[AP] at hi
   exact⟨fun o=>by rw[hη id (hi o)];exact h.1 o,FO hZ _ v S hS h.2⟩
 | .int _ _,v,S,_,hS,h=>FO hZ _ v S hS h
 | .bool _,v,S,_,hS,h=>FO hZ _ v S hS h
 | .str _,v,S,_,hS,h=>FO hZ _ v S hS h
 | .val _,v,S,_,hS,h=>FO hZ _ v S hS h
 | .any,v,S,_,hS,h=>FO hZ _ v S hS h
 | .top,v,S,_,hS,h=>FO hZ _ v S hS h
 | .nil,v,S,_,hS,h=>FO hZ _ v S hS h
 | .pf _,v,S,_,hS,h=>FO hZ _ v S hS h
theorem CO{n:Nat}{Z Z':FP}{η η':Nat→Value}{w w':World}(hZ:∀b,¬Z b→b<w.heap.size→¬Z' b∧w'.heap[b]? =w.heap[b]?)
 (hη:∀i,i<n→η' i=η i):
 ∀(azs:List AV) (cs:List Value) (S:FP),AX n azs→(∀b,S b→w'.heap[b]? =w.heap[b]?)→Aq Z η w azs cs S→Aq Z' η' w' azs cs S
 |[],_,_,_,_,h=>h
 |a::azs,cs,S,hi,hS,h=>by
  simp only[Aq] at h ⊢;simp only[AX] at hi
  obtain⟨v,cs',A,B,e,hj,h1,h2⟩:=h
  exact⟨v,cs',A,B,e,hj,a4e hZ hη a v A hi.1 (fun b hb=>hS b ((hj.1 b).2 (.inl hb))) h1,
   CO hZ hη azs cs' B hi.2 (fun b hb=>hS b ((hj.1 b).2 (.inr hb))) h2⟩
end
mutual
def CT:AV→AV
 | .sl true id _ _ _ _=> .al id
 | .box id _=> .al id
 | .bv x _=> .val x
 | .hv x=> .val x
 | .agg fs=> .agg (Ft fs)
 | .clo fn fs=> .clo fn (Ft fs)
 | .tup fs=> .tup (Ft fs)
 | .hole id=> .al id
 |a=>a
def Ft:List AV→List AV
 |[]=>[]
 |a::azs=>CT a::Ft azs
end
theorem Sc{Z:FP}{w:World}{own id sz α f xs v S}(h:Am Z w (.sl own id sz α f xs) v S):Db v:=by
 simp only[Am] at h;obtain⟨a,n,c,e,_⟩:=h;subst e;trivial
mutual
theorem Wt{Z:FP}{η:Nat→Value}{w:World}:∀(a:AV) (v:Value) (S:FP),Ad Z η w a v S→Ad Z η w (CT a) v (fun _=>False)
 | .al id,v,S,h=>by simp only[Ad,CT] at h ⊢;exact⟨h.1,h.2.1,AW⟩
 | .hole id,v,S,h=>by simp only[Ad,CT] at h ⊢;exact⟨h.1,h.2.1,AW⟩
 | .po id _ _ _,v,S,h=>by simp only[Ad,CT] at h ⊢;exact⟨h.1,AW⟩
 | .agg fs,v,S,h=>by
   simp only[Ad,CT] at h ⊢;obtain⟨cs,e,h⟩:=h;exact⟨cs,e,LK fs cs S h⟩
 | .tup fs,v,S,h=>by
   simp only[Ad,CT] at h ⊢;obtain⟨cs,e,h⟩:=h;exact⟨cs,e,LK fs cs S h⟩
 | .clo _ fs,v,S,h=>by
   simp only[Ad,CT] at h ⊢;obtain⟨cs,e,h⟩:=h;exact⟨cs,e,LK fs cs S h⟩
 | .box id c,v,S,h=>by
   simp only[Ad,CT] at h ⊢
   obtain⟨e0,b,arr,ty,S1,e,_⟩:=h
   exact⟨e0,by rw[e];trivial,AW⟩
 | .bv x c,v,S,h=>by
   simp only[Ad,CT,Am] at h ⊢
   obtain⟨e0,b,arr,ty,S1,e,_⟩:=h
   exact⟨e0,by rw[←e0,e];trivial,AW⟩
 | .hv x,v,S,h=>by simp only[Ad,CT,Am] at h ⊢;exact⟨h.1,h.2.1,AW⟩
 | .sl true id sz α f xs,v,S,h=>by
   simp only[Ad,CT] at h ⊢
   exact⟨h.1 trivial,Sc h.2,AW⟩
 | .sl false id sz α f xs,v,S,h=>by
   simp only[Ad,CT] at h ⊢
   refine⟨fun o=>by simp at o,?_⟩
   have h:=h.2
   have he:emp S:=by
    simp only[Am] at h
    obtain⟨a,n,c,e,hn,hc,h⟩:=h
    rcases h with⟨ho,_⟩|⟨_,he,_⟩
    ·simp at ho
    ·exact he
   rwa [EA he] at h
 | .int _ _,v,S,h=>by simp only[Ad,CT,Am] at h ⊢;exact⟨h.1,AW⟩
 | .bool _,v,S,h=>by simp only[Ad,CT,Am] at h ⊢;exact⟨h.1,AW⟩
 | .str _,v,S,h=>by simp only[Ad,CT,Am] at h ⊢;exact⟨h.1,AW⟩
 | .val _,v,S,h=>by simp only[Ad,CT,Am] at h ⊢;exact⟨h.1,h.2.1,AW⟩
 | .any,v,S,h=>by simp only[Ad,CT,Am] at h ⊢;exact⟨h.1,AW⟩
 | .top,v,S,h=>by simp only[Ad,CT,Am] at h ⊢;exact AW
 | .nil,v,S,h=>by simp only[Ad,CT,Am] at h ⊢;exact⟨h.1,AW⟩
 | .pf _,v,S,h=>by simp only[Ad,CT,Am] at h ⊢;exact⟨AW,h.2⟩
theorem LK{Z:FP}{η:Nat→Value}{w:World}:∀(azs:List AV) (cs:List Value) (S:FP),Aq Z η w azs cs S→Aq Z η w (Ft azs) cs (fun _=>False)
 |[],cs,S,h=>by simp only[Aq,Ft] at h ⊢;exact⟨h.1,AW⟩
 |a::azs,cs,S,h=>by
  simp only[Aq,Ft] at h ⊢
  obtain⟨v,cs',A,B,e,hj,h1,h2⟩:=h
  exact⟨v,cs',_,_,e,Cj _,Wt a v A h1,LK azs cs' B h2⟩
end
mutual
theorem Wu{n:Nat}:∀a:AV,AP n a→AP n (CT a)
 | .al _,h=>h
 | .hole _,h=>h
 | .po _ _ _ _,h=>h
 | .agg fs,h=>by simp only[AP,CT] at h ⊢;exact LL fs h
 | .tup fs,h=>by simp only[AP,CT] at h ⊢;exact LL fs h
 | .clo _ fs,h=>by simp only[AP,CT] at h ⊢;exact LL fs h
 | .box id c,h=>by simp only[AP,CT] at h ⊢;exact h.1
 | .bv _ _,h=>trivial
 | .hv _,h=>trivial
 | .sl true id sz α f xs,h=>by simp only[AP,CT] at h ⊢;exact h trivial
 | .sl false id sz α f xs,h=>h
 | .int _ _,h=>h
 | .bool _,h=>h
 | .str _,h=>h
 | .val _,h=>h
 | .any,h=>h
 | .top,h=>h
 | .nil,h=>h
 | .pf _,h=>h
theorem LL{n:Nat}:∀azs:List AV,AX n azs→AX n (Ft azs)
 |[],h=>h
 |a::azs,h=>by simp only[AX,Ft] at h ⊢;exact⟨Wu a h.1,LL azs h.2⟩
end
theorem Hm{Z:FP}{η:Nat→Value}{w:World}:∀(azs:List AV) (vs:List Value) (S:FP) (i:Nat) (a:AV),Aq Z η w azs vs S→azs[i]? =some a→
 ∃v A B,vs[i]? =some v∧Ad Z η w a v A∧Bn S A B∧
  ∀a' v' A' S',Ad Z η w a' v' A'→Bn S' A' B→Aq Z η w (azs.set i a') (vs.set i v') S'
 |[],vs,S,i,a,h,hi=>by simp at hi
 |x::azs,vs,S,0,a,h,hi=>by
  simp only[Aq] at h
  obtain⟨v,cs',A,B,e,hj,h1,h2⟩:=h
  simp at hi;subst hi;subst e
  refine⟨v,A,B,rfl,h1,hj,fun a' v' A' S' hr hj'=> ?_⟩
  simp only[List.set,Aq]
  exact⟨v',cs',A',B,rfl,hj',hr,h2⟩
 |x::azs,vs,S,i+1,a,h,hi=>by
  simp only[Aq] at h
  obtain⟨v,cs',A,B,e,hj,h1,h2⟩:=h
  subst e
  obtain⟨u,C,D,hu,hr,hj2,hk⟩:=Hm azs cs' B i a h2 (by simpa using hi)
  obtain⟨E,hE,hEA⟩:=Jw hj hj2
  obtain⟨E',hE',hE2⟩:=Jw hj (Wr hj2)
  have hcd:Bn (fun b=>A b∨D b) A D:=⟨fun _=>Iff.rfl,fun b x y=>hj.2 b x ((hj2.1 b).2 (.inr y))⟩
  refine⟨u,C,fun b=>A b∨D b,by simpa using hu,hr,⟨fun b=> ?_,fun b x y=> ?_⟩,fun a' v' A' S' hr' hj'=> ?_⟩
  ·rw[hj.1 b,hj2.1 b];exact⟨fun h=>h.elim (fun h=> .inr (.inl h)) (fun h=>h.elim .inl (fun h=> .inr (.inr h))),fun h=>h.elim (fun h=> .inr (.inl h)) (fun h=>h.elim .inl (fun h=> .inr (.inr h)))⟩
  ·exact y.elim (fun y=>hj.2 b y ((hj2.1 b).2 (.inl x))) (fun y=>hj2.2 b x y)
  ·simp only[List.set,Aq]
   refine⟨v,cs'.set i v',A,fun b=>A' b∨D b,rfl,⟨fun b=> ?_,fun b x y=> ?_⟩,h1,hk a' v' A' _ hr' ⟨fun _=>Iff.rfl,fun b x y=>hj'.2 b x (.inr y)⟩⟩
   ·rw[hj'.1 b];exact⟨fun h=>h.elim (fun h=> .inr (.inl h)) (fun h=>h.elim .inl (fun h=> .inr (.inr h))),fun h=>h.elim (fun h=> .inr (.inl h)) (fun h=>h.elim .inl (fun h=> .inr (.inr h)))⟩
   ·exact y.elim (fun y=>hj'.2 b y (.inl x)) (fun y=>hcd.2 b x y)
theorem Fa{Z:FP}{η:Nat→Value}{w:World}:∀(azs:List AV) (vs:List Value) (S:FP),Aq Z η w azs vs S→vs.length=azs.length
 |[],vs,S,h=>by simp only[Aq] at h;simp [h.1]
 |a::azs,vs,S,h=>by
  simp only[Aq] at h
  obtain⟨v,cs',A,B,e,hj,h1,h2⟩:=h
  subst e;simp [Fa azs cs' B h2]
theorem Ni{Z:FP}{η:Nat→Value}{w:World}{azs:List AV}{vs:List Value}{S:FP}(h:Aq Z η w azs vs S)(i:Nat){a':AV}{v':Value}
 (hr:Ad Z η w a' v' (fun _=>False)):∃S',(∀b,S' b→S b)∧Aq Z η w (azs.set i a') (vs.set i v') S':=by
 rcases Nat.lt_or_ge i azs.length with hi|hi
 ·obtain⟨v,A,B,hv,h1,hj,hk⟩:=Hm azs vs S i azs[i] h (by simp)
  exact⟨B,fun b hb=>(hj.1 b).2 (.inr hb),hk a' v' _ B hr (Cj B)⟩
 ·rw[List.set_eq_of_length_le hi,List.set_eq_of_length_le (by rw[Fa _ _ _ h];exact hi)]
  exact⟨S,fun _ h=>h,h⟩
theorem Sd{Z:FP}{η:Nat→Value}{w:World}{azs:List AV}{vs:List Value}{S:FP}(h:Aq Z η w azs vs S){i:Nat}(hi:i<azs.length){a':AV}{v':Value}
 {A':FP} (hr:Ad Z η w a' v' A') (hd:∀b,A' b→¬S b):∃S',(∀b,S' b→S b∨A' b)∧Aq Z η w (azs.set i a') (vs.set i v') S':=by
 obtain⟨v,A,B,hv,h1,hj,hk⟩:=Hm azs vs S i azs[i] h (by simp)
 refine⟨fun b=>A' b∨B b,fun b hb=>hb.elim .inr (fun hb=> .inl ((hj.1 b).2 (.inr hb))),hk a' v' A' _ hr ⟨fun _=>Iff.rfl,fun b x y=>hd b x ((hj.1 b).2 (.inr y))⟩⟩
theorem OO{n:Nat}:∀(azs:List AV) (i:Nat) (a:AV),AX n azs→azs[i]? =some a→AP n a
 |[],i,a,_,hi=>by simp at hi
 |x::azs,0,a,h,hi=>by simp at hi;subst hi;exact h.1
 |x::azs,i+1,a,h,hi=>OO azs i a h.2 (by simpa using hi)
theorem IJ{n:Nat}:∀(azs:List AV) (i:Nat) (a:AV),AX n azs→AP n a→AX n (azs.set i a)
 |[],i,a,h,_=>h
 |x::azs,0,a,h,ha=>⟨ha,h.2⟩
 |x::azs,i+1,a,h,ha=>⟨h.1,IJ azs i a h.2 ha⟩
end Go.Eng
end
section
set_option linter.unusedVariables false
set_option linter.unusedSimpArgs false
namespace Go.Eng
@[simp] theorem run_pure {α:Type} (P:Program) (x:α) (w:World):(Sem.pure x).run P w= .ok x w:=rfl
@[simp] theorem Cc {α:Type} (P:Program) (x:α) (w:World):(pure x:Sem α).run P w= .ok x w:=rfl
theorem Fb{α β:Type}(P:Program)(s:Sem α)(f:α→Sem β)(w:World):(s>>=f).run P w=match s.run P w with
 | .ok x w'=>(f x).run P w'
 | .halt h w'=> .halt h w':=by
 show(Sem.bind s f).run P w=_
 induction s generalizing w with
 |pure a=>rfl
 |load m a k ih=>
  simp only[Sem.bind,Sem.run]
  cases w.cell? a with
  |some v=>exact ih v w
  |none=>simp only[];cases w.farLoad P a (m== .atomic) with
   |ok r=>exact ih _ w
   |error h=>rfl
 |store m a v k ih=>
  simp only[Sem.bind]
  cases v<;>first|rfl|(simp only[Sem.run];cases w.cell? a with
   |some u=>simp only[];cases w.frozen? a with
    |true=>rfl
    |false=>exact ih _
   |none=>simp only[];cases w.farStore P a _ (m== .atomic) with
    |ok r=>exact ih _
    |error h=>rfl)
 |new o k ih=>exact ih _ _
 |shape r k ih=>exact ih _ _
 |freeze a n k ih=>exact ih _
 |frozen a k ih=>exact ih _ _
 |getObj r k ih=>
  simp only[Sem.bind,Sem.run]
  cases w.heap[r]? with
  |none=>rfl
  |some o=>cases o<;>first|rfl|exact ih _ _
 |setObj r o k ih=>
  simp only[Sem.bind,Sem.run]
  cases w.heap[r]? with
  |none=>rfl
  |some o=>cases o<;>first|rfl|exact ih _
 |choose q k ih=>
  simp only[Sem.bind,Sem.run]
  split
  ·exact ih _ _
  ·exact ih _ _
 |sys c k ih=>exact ih _ _
 |program k ih=>exact ih _ _
 |mark m k ih=>exact ih _
 |halt h=>rfl
theorem AU{α β:Type}{P:Program}{s:Sem α}{f:α→Sem β}{w w':World}{x:α}(h:s.run P w= .ok x w'):(s>>=f).run P w=(f x).run P w':=by
 rw[Fb,h]
theorem LM{P:Program}{t:TypeId}{i:TypeInfo}(h:P.info? t=some i)(w:World):(typeInfo t).run P w= .ok i w:=by
 simp only[typeInfo,program,Fb,Sem.run,h]
 rfl
theorem Dc{P:Program}{t:TypeId}{d:TypeDesc}(h:P.underlying t=some d)(w:World):(underlying t).run P w= .ok d w:=by
 simp only[underlying,program,Fb,Sem.run,h]
 rfl
theorem FQ{P:Program}{t:TypeId}{i:TypeInfo}(h:P.info? t=some i)(w:World):(sizeOf t).run P w= .ok i.size w:=by
 simp only[sizeOf];rw[AU (LM h w)];rfl
theorem LN{P:Program}{t:TypeId}{i:TypeInfo}{z:Value}(h:P.info? t=some i)(hz:i.zero=some z)(w:World):(zeroValue t).run P w= .ok z w:=by
 simp only[zeroValue];rw[AU (LM h w)];simp only[hz];rfl
def Ks:TypeDesc→Bool
 | .struct _=>true
 | .array _ _=>true
 |_=>false
theorem Kt{P:Program}{t:TypeId}{d:TypeDesc}(h:P.underlying t=some d)(w:World):(isAgg t).run P w= .ok (Ks d) w:=by
 simp only[isAgg];rw[AU (Dc h w)]
 cases d<;>rfl
def ad(b off:Nat):Addr:=⟨b,off,none⟩
@[simp] theorem GK (b off n:Nat):(ad b off).add n=ad b (off+n):=by
  unfold Addr.add ad;split
  ·rename_i h;subst h;rfl
  ·rfl
theorem OP{w:World}{b off:Nat}{arr:Array Value}{ty:TypeId}{fr:Nat×Nat}(h:w.heap[b]? =some (.cells arr ty fr)):w.cell? (ad b off)=arr[off]? :=by
 simp [World.cell?,ad,h]
theorem a4f{w:World}{b off:Nat}{arr:Array Value}{ty:TypeId}(h:w.heap[b]? =some (.cells arr ty (0,0))):w.frozen? (ad b off)=false:=by
 simp [World.frozen?,ad,h]
theorem Se{P:Program}{w:World}{a:Addr}{v:Value}(h:w.cell? a=some v):(load a).run P w= .ok v w:=by
 simp [load,Sem.run,h]
theorem Wv{P:Program}{w:World}{b off:Nat}:∀(cs:List Value) (i:Nat) (acc:Array Value),
 (∀j,j<cs.length→w.cell? (ad b (off+(i+j)))=cs[j]?)→(loadCellsFrom (ad b off) i cs.length acc).run P w= .ok (acc++cs.toArray) w
 |[],i,acc,h=>by simp [loadCellsFrom]
 |c::cs,i,acc,h=>by
  simp only[List.length_cons,loadCellsFrom]
  have h0:=h 0 (by simp)
  simp at h0
  rw[AU (Se (v:=c) (by simpa using h0))]
  rw[Wv cs (i+1) (acc.push c) (fun j hj=>by have:=h (j+1) (by simpa using hj);simpa [Nat.add_assoc,Nat.add_comm 1 j] using this)]
  simp
theorem Sf{P:Program}{w:World}{b off:Nat}{arr:Array Value}{ty:TypeId}{fr:Nat×Nat}(hb:w.heap[b]? =some (.cells arr ty fr))
 {cs rest:List Value} (hc:arr.toList.drop off=cs++rest):(loadCells (ad b off) cs.length).run P w= .ok cs.toArray w:=by
 unfold loadCells
 rw[Wv cs 0 #[] (fun j hj=> ?_)]
 ·simp
 ·rw[OP hb]
  have:(arr.toList.drop off)[j]? =(cs++rest)[j]? :=by rw[hc]
  rw[List.getElem?_drop,List.getElem?_append_left hj] at this
  simpa [Array.getElem?_toList] using this
def BT(l:List Value)(off:Nat)(cs:List Value):List Value:=l.take off++cs++l.drop (off+cs.length)
structure Wrote (w w':World) (b:Nat) (arr':Array Value) (ty:TypeId):Prop where
 os:w'.os=w.os
 tape:w'.tape=w.tape
 output:w'.output=w.output
 size:w'.heap.size=w.heap.size
 blk:w'.heap[b]? =some (.cells arr' ty (0,0))
 oth:∀c,c≠b→w'.heap[c]? =w.heap[c]?
theorem a4g(l:List Value)(off:Nat):BT l off []=l:=by simp [BT]
theorem OQ{l:List Value}{off:Nat}{cs:List Value}(h:off+cs.length≤l.length):(BT l off cs).length=l.length:=by
 simp [BT];omega
theorem Sh{P:Program}{b off:Nat}{ty:TypeId}:∀(cs:List Value) (i:Nat) (w:World) (arr:Array Value),w.heap[b]? =some (.cells arr ty (0,0))→
 off+i+cs.length≤arr.size→(∀c∈cs,Db c)→∃w',(storeCells (ad b off) cs i).run P w= .ok () w'∧Wrote w w' b (BT arr.toList (off+i) cs).toArray ty
 |[],i,w,arr,hb,hl,hc=>by
  refine⟨w,by simp [storeCells],⟨rfl,rfl,rfl,rfl,?_,fun _ _=>rfl⟩⟩
  rw[a4g];simpa using hb
 |c::cs,i,w,arr,hb,hl,hc=>by
  have hlt:off+i<arr.size:=by simp at hl;omega
  have hst:(store (ad b (off+i)) c).run P w= .ok () (w.setCell (ad b (off+i)) c):=by
   have hcell:Db c:=hc c (by simp)
   have h1:w.cell? (ad b (off+i))=some arr[off+i]:=by rw[OP hb];simp [hlt]
   have h2:=a4f (off:=off+i) hb
   cases c<;>first|exact hcell.elim|simp [store,Sem.run,h1,h2]
  have hb':(w.setCell (ad b (off+i)) c).heap[b]? =some (.cells (arr.setIfInBounds (off+i) c) ty (0,0)):=by
   simp [World.setCell,ad,Array.getElem?_modify,hb]
  obtain⟨w',hr,hw⟩:=Sh (P:=P) (off:=off) cs (i+1) (w.setCell (ad b (off+i)) c) _ hb' (by simp at hl ⊢;omega) (fun x hx=>hc x (by simp [hx]))
  refine⟨w',?_,?_⟩
  ·simp only[storeCells]
   rw[GK,AU hst]
   exact hr
  ·refine⟨hw.os.trans rfl,hw.tape.trans rfl,hw.output.trans rfl,by rw[hw.size];simp [World.setCell],?_,fun x hx=> ?_⟩
   ·rw[hw.blk]
    congr 2
    apply congrArg List.toArray
    simp only[BT,Array.toList_setIfInBounds]
    have e1:(arr.toList.set (off+i) c).take (off+(i+1))=arr.toList.take (off+i)++[c]:=by
     rw[show off+(i+1)=off+i+1 by omega]
     rw[List.take_succ_eq_append_getElem (by simp;omega)]
     simp [List.take_set_of_le]
    have e2:(arr.toList.set (off+i) c).drop (off+(i+1)+cs.length)=arr.toList.drop (off+i+(c::cs).length):=by
     rw[List.drop_set_of_lt (by omega)];congr 1;simp;omega
    rw[e1,e2];simp
   ·rw[hw.oth x hx]
    simp only[World.setCell,ad,Array.getElem?_modify]
    rw[if_neg (by omega)]
end Go.Eng
end
section
set_option linter.unusedVariables false
set_option linter.unusedSimpArgs false
namespace Go.Eng
structure St where
 regs:List AV
 nx:Nat
structure GInv where
 p:FP→World→Prop
 mono:∀Z Z' w w',(∀b,¬Z b→b<w.heap.size→¬Z' b∧w'.heap[b]? =w.heap[b]?)→p Z w→p Z' w'
structure Ctx where
 w0:World
 Z0:FP
 S0:FP
 G:GInv
 glob:G.p Z0 w0
 sub:∀b,S0 b→Z0 b
structure OkW (C:Ctx) (Z:FP) (w:World):Prop where
 os:w.os=C.w0.os
 tape:w.tape=C.w0.tape
 output:w.output=C.w0.output
 size:C.w0.heap.size≤w.heap.size
 old:∀b,b<C.w0.heap.size→¬C.S0 b→w.heap[b]? =C.w0.heap[b]? ∧(Z b↔C.Z0 b)
theorem OkW.glob{C:Ctx}{Z:FP}{w:World}(h:OkW C Z w):C.G.p Z w:=
 C.G.mono _ _ _ _ (fun b hb hlt=>have h1:=h.old b hlt (fun x=>hb (C.sub b x));⟨fun x=>hb (h1.2.1 x),h1.1⟩) C.glob
structure Inst (C:Ctx) (s:St) (a:Act) (w:World) (η:Nat→Value) (Z S:FP):Prop where
 defers:a.defers=[]
 rel:Aq Z η w s.regs a.tmps.toList S
 ids:AX s.nx s.regs
 own:∀b,S b→Z b∧b<w.heap.size∧(b<C.w0.heap.size→C.S0 b)
 ok:OkW C Z w
def Rel(C:Ctx)(s:St)(a:Act)(w:World):Prop:=∃η Z S,Inst C s a w η Z S
def setR(regs:List AV)(dst:Option Nat)(r:AV):List AV:=match dst with
 |some d=>regs.set d r
 |none=>regs
theorem Nj(a:Act)(d:Nat)(v:Value):(a.put (some d) v).tmps.toList=a.tmps.toList.set d v:=by
 simp [Act.put]
theorem Nk(a:Act)(d:Option Nat)(v:Value):(a.put d v).defers=a.defers:=by
 cases d<;>rfl
theorem Inst.put{C:Ctx}{s:St}{a:Act}{w:World}{η:Nat→Value}{Z S:FP}(h:Inst C s a w η Z S)(dst:Option Nat){r:AV}{v:Value}
 (hr:Ad Z η w r v (fun _=>False)) (hi:AP s.nx r):Rel C ⟨setR s.regs dst r,s.nx⟩ (a.put dst v) w:=by
 cases dst with
 |none=>exact⟨η,Z,S,h⟩
 |some d=>
  obtain⟨S',hs,hr'⟩:=Ni h.rel d hr
  refine⟨η,Z,S',⟨by rw[Nk];exact h.defers,by rw[Nj];exact hr',IJ _ _ _ h.ids hi,fun b hb=>h.own b (hs b hb),h.ok⟩⟩
def GL:Value→AV
 | .int k n=> .int k n
 | .bool b=> .bool b
 | .string s=> .str s.data.toList
 | .slice none 0 0=> .nil
 | .agg _=> .top
 | .tuple _=> .top
 |v=> .val v
def LO:Value→AV
 | .agg cs=> .agg (cs.toList.map GL)
 | .tuple _=> .top
 |v=>GL v
def Bi(regs:List AV):Operand→AV
 | .tmp t=>CT (regs.getD t .top)
 | .const v=>LO v
 | .func f=> .clo (.func f) []
 | .global _=> .top
theorem Ww(Z:FP)(η:Nat→Value)(w:World)(v:Value):Ad Z η w (GL v) v (fun _=>False):=by
 cases v with
 |slice a n c=>
  unfold GL
  split<;>simp_all [Ad,Am,emp,Db]
 |_=>simp [GL,Ad,Am,emp,Db]
theorem Nl(Z:FP)(η:Nat→Value)(w:World):∀l:List Value,Aq Z η w (l.map GL) l (fun _=>False)
 |[]=>by simp [Aq,emp]
 |v::l=>by simp only[List.map,Aq];exact⟨v,l,_,_,rfl,Cj _,Ww Z η w v,Nl Z η w l⟩
theorem Wx(Z:FP)(η:Nat→Value)(w:World)(v:Value):Ad Z η w (LO v) v (fun _=>False):=by
 unfold LO
 split
 ·simp only[Ad];exact⟨_,by simp,Nl Z η w _⟩
 ·simp only[Ad,Am];exact AW
 ·exact Ww Z η w v
theorem Wy(n:Nat)(v:Value):AP n (GL v):=by
 unfold GL;split<;>trivial
theorem Nm(n:Nat):∀l:List Value,AX n (l.map GL)
 |[]=>trivial
 |v::l=>⟨Wy n v,Nm n l⟩
theorem Wz(n:Nat)(v:Value):AP n (LO v):=by
 unfold LO;split
 ·simp only[AP];exact Nm n _
 ·trivial
 ·exact Wy n v
theorem EB{Z:FP}{η:Nat→Value}{w:World}{regs:List AV}{a:Act}{S:FP}(h:Aq Z η w regs a.tmps.toList S)(x:Operand):
 Ad Z η w (Bi regs x) (a.eval x) (fun _=>False):=by
 cases x with
 |const v=>exact Wx Z η w v
 |func f=>simp only[Bi,Act.eval,Ad,Aq];exact⟨[],rfl,rfl,AW⟩
 |global g=>simp only[Bi,Ad,Am];exact AW
 |tmp t=>
  simp only[Bi,Act.eval]
  rcases Nat.lt_or_ge t regs.length with ht|ht
  ·obtain⟨v,A,B,hv,hr,hj,_⟩:=Hm regs a.tmps.toList S t regs[t] h (by simp)
   have e1:regs.getD t .top=regs[t]:=by simp [List.getD,ht]
   have e2:a.tmps.getD t undef=v:=by
    have:a.tmps[t]? =some v:=by simpa [Array.getElem?_toList] using hv
    simp [Array.getD_eq_getD_getElem?,this]
   rw[e1,e2];exact Wt _ _ _ hr
  ·have e1:regs.getD t .top= .top:=by simp [List.getD,ht]
   rw[e1];simp only[CT,Ad,Am];exact AW
theorem GM{n:Nat}{regs:List AV}(h:AX n regs)(x:Operand):AP n (Bi regs x):=by
 cases x with
 |const v=>exact Wz n v
 |func f=>simp only[Bi,AP,AX]
 |global g=>trivial
 |tmp t=>
  simp only[Bi]
  rcases Nat.lt_or_ge t regs.length with ht|ht
  ·have e1:regs.getD t .top=regs[t]:=by simp [List.getD,ht]
   rw[e1];exact Wu _ (OO regs t _ h (by simp))
  ·have e1:regs.getD t .top= .top:=by simp [List.getD,ht]
   rw[e1];trivial
def Hn:AV→Bool
 | .agg _=>false
 | .tup _=>false
 | .top=>false
 |_=>true
theorem Si{Z:FP}{η:Nat→Value}{w:World}{a:AV}{v:Value}{S:FP}(h:Ad Z η w a v S)(hl:Hn a=true):Db v:=by
 cases a<;>simp only[Hn,Bool.false_eq_true] at hl<;>simp only[Ad,Am] at h
 case int=>rw[h.1];trivial
 case bool=>rw[h.1];trivial
 case str=>rw[h.1];trivial
 case val=>rw[h.1];exact h.2.1
 case any=>exact h.1
 case nil=>rw[h.1];trivial
 case hole=>exact h.2.1
 case al=>exact h.2.1
 case po=>rw[h.1];trivial
 case box=>obtain⟨_,b,arr,ty,S1,e,_⟩:=h;rw[e];trivial
 case bv=>obtain⟨_,b,arr,ty,S1,e,_⟩:=h;rw[e];trivial
 case hv=>rw[h.1];exact h.2.1
 case pf=>obtain⟨_,b,off,arr,ty,fr,cs,rest,S1,e,_⟩:=h;rw[e];trivial
 case clo=>obtain⟨cs,e,_⟩:=h;rw[e];exact Ng
 case sl=>obtain⟨_,a,n,c,e,_⟩:=h;rw[e];trivial
theorem WA{v:Value}(h:Db v):v.cells= #[v]:=by cases v<;>first|rfl|exact h.elim
def IK:AV→Option (List AV)
 | .agg fs=>if fs.all Hn then some fs else none
 | .tup _=>none
 | .top=>none
 |a=>some [a]
theorem WB{Z:FP}{η:Nat→Value}{w:World}:∀(fs:List AV) (cs:List Value) (S:FP),Aq Z η w fs cs S→fs.all Hn=true→∀c∈cs,Db c
 |[],cs,S,h,hl=>by simp only[Aq] at h;simp [h.1]
 |f::fs,cs,S,h,hl=>by
  simp only[Aq] at h
  obtain⟨v,cs',A,B,e,hj,h1,h2⟩:=h
  simp only[List.all_cons,Bool.and_eq_true] at hl
  subst e
  intro c hc
  rcases List.mem_cons.1 hc with rfl|hc
  ·exact Si h1 hl.1
  ·exact WB fs cs' B h2 hl.2 c hc
theorem OT{Z:FP}{η:Nat→Value}{w:World}{a:AV}{v:Value}{S:FP}{ls:List AV}(h:Ad Z η w a v S)(hl:IK a=some ls):
 Aq Z η w ls v.cells.toList S∧(∀c∈v.cells.toList,Db c):=by
 have leafcase:∀a:AV,Hn a=true→Ad Z η w a v S→Aq Z η w [a] v.cells.toList S∧(∀c∈v.cells.toList,Db c):=by
  intro a hl h
  have hc:=Si h hl
  rw[WA hc]
  exact⟨⟨v,[],S,fun _=>False,rfl,II S,h,rfl,AW⟩,by simpa using hc⟩
 cases a<;>simp only[IK,Option.some.injEq,reduceCtorEq] at hl<;>try(subst hl;exact leafcase _ rfl h)
 case agg fs=>
  split at hl
  ·rename_i hall
   simp only[Option.some.injEq] at hl;subst hl
   simp only[Ad] at h
   obtain⟨cs,e,h⟩:=h
   subst e
   simp only[Value.cells]
   exact⟨h,WB fs cs S h hall⟩
  ·simp at hl
end Go.Eng
end
section
set_option linter.unusedVariables false
set_option linter.unusedSimpArgs false
namespace Go.Eng
def HZ:AV→AV
 | .int k n=> .int k n
 | .bool b=> .bool b
 | .str l=> .str l
 | .val v=> .val v
 | .nil=> .nil
 | .pf c=> .pf c
 | .sl false _ sz α f xs=> .sl false 0 sz α f xs
 | .agg _=> .top
 | .tup _=> .top
 | .top=> .top
 | .hole _=> .top
 | .al _=> .top
 | .po _ _ _ _=> .top
 |_=> .any
theorem a4h(n:Nat)(a:AV):AP n (HZ a):=by
 cases a<;>try trivial
 case sl own id sz α f xs=>
  cases own
  ·simp only[HZ,AP];intro h;cases h
  ·trivial
theorem OU(n:Nat):∀l:List AV,AX n (l.map HZ)
 |[]=>trivial
 |a::l=>⟨a4h n a,OU n l⟩
theorem a4i{Z:FP}{η:Nat→Value}{w:World}{a:AV}{v:Value}{S:FP}(h:Am Z w a v S):Ad Z η w (HZ a) v (fun _=>False):=by
 cases a<;>simp only[Am] at h
 case int=>exact⟨h.1,AW⟩
 case bool=>exact⟨h.1,AW⟩
 case str=>exact⟨h.1,AW⟩
 case val=>exact⟨h.1,h.2.1,AW⟩
 case any=>exact⟨h.1,AW⟩
 case top=>exact AW
 case nil=>exact⟨h.1,AW⟩
 case agg=>exact AW
 case tup=>exact AW
 case box=>obtain⟨b,arr,ty,S1,e,_⟩:=h;exact⟨by rw[e];trivial,AW⟩
 case bv=>obtain⟨_,b,arr,ty,S1,e,_⟩:=h;exact⟨by rw[e];trivial,AW⟩
 case hv=>exact⟨by rw[h.1];exact h.2.1,AW⟩
 case pf=>simp only[HZ,Ad,Am];exact⟨AW,h.2⟩
 case clo=>obtain⟨cs,e,_⟩:=h;exact⟨by rw[e];exact Ng,AW⟩
 case sl own id sz α f xs=>
  cases own
  ·obtain⟨a,n,c,e,hn,hc,h⟩:=h
   rcases h with⟨ho,_⟩|⟨_,he,h⟩
   ·cases ho
   ·simp only[HZ,Ad,Am]
    refine⟨(fun o=>by cases o),a,n,c,e,hn,hc,.inr ⟨trivial,AW,?_⟩⟩
    rw[EA he] at h
    exact h
  ·obtain⟨a,n,c,e,_⟩:=h
   exact⟨by rw[e];trivial,AW⟩
theorem OV{Z:FP}{η:Nat→Value}{w:World}:∀(azs:List AV) (cs:List Value) (S:FP),AZ Z w azs cs S→Aq Z η w (azs.map HZ) cs (fun _=>False)
 |[],cs,S,h=>by simp only[AZ] at h;simp only[List.map,Aq];exact⟨h.1,AW⟩
 |a::azs,cs,S,h=>by
  simp only[AZ] at h
  obtain⟨v,cs',A,B,e,hj,h1,h2⟩:=h
  simp only[List.map,Aq]
  exact⟨v,cs',_,_,e,Cj _,a4i h1,OV azs cs' B h2⟩
theorem Nn{Z:FP}{η:Nat→Value}{w:World}:∀(n:Nat) (azs:List AV) (cs:List Value),Aq Z η w azs cs (fun _=>False)→
 Aq Z η w (azs.drop n) (cs.drop n) (fun _=>False)
 |0,azs,cs,h=>by simpa using h
 |n+1,[],cs,h=>by simp only[Aq] at h;simp [h.1,Aq,emp]
 |n+1,a::azs,cs,h=>by
  simp only[Aq] at h
  obtain⟨v,cs',A,B,e,hj,h1,h2⟩:=h
  have hB:=(HX hj AW).2
  rw[EA hB] at h2
  subst e
  simpa using Nn n azs cs' h2
theorem No{Z:FP}{η:Nat→Value}{w:World}:∀(n:Nat) (azs:List AV) (cs:List Value),Aq Z η w azs cs (fun _=>False)→
 Aq Z η w (azs.take n) (cs.take n) (fun _=>False)
 |0,azs,cs,h=>by simp [Aq,emp]
 |n+1,[],cs,h=>by simp only[Aq] at h;simp [h.1,Aq,emp]
 |n+1,a::azs,cs,h=>by
  simp only[Aq] at h
  obtain⟨v,cs',A,B,e,hj,h1,h2⟩:=h
  have hB:=(HX hj AW).2
  have hA:=(HX hj AW).1
  rw[EA hB] at h2
  rw[EA hA] at h1
  subst e
  simp only[List.take_succ_cons,Aq]
  exact⟨v,_,_,_,rfl,Cj _,h1,No n azs cs' h2⟩
theorem Jx{n:Nat}:∀(k:Nat) (l:List AV),AX n l→AX n (l.drop k)
 |0,l,h=>by simpa using h
 |k+1,[],h=>by simpa using h
 |k+1,a::l,h=>by simpa using Jx k l h.2
theorem LP{n:Nat}:∀(k:Nat) (l:List AV),AX n l→AX n (l.take k)
 |0,l,h=>by simp [AX]
 |k+1,[],h=>by simp [AX]
 |k+1,a::l,h=>by simpa [AX] using ⟨h.1,LP k l h.2⟩
structure Sees (w w':World):Prop where
 size:w.heap.size≤w'.heap.size
 old:∀b,b<w.heap.size→w'.heap[b]? =w.heap[b]?
theorem Sees.refl(w:World):Sees w w:=⟨Nat.le_refl _,fun _ _=>rfl⟩
theorem Sees.blk{w w':World}(h:Sees w w'){b:Nat}{o:Obj}(hb:w.heap[b]? =some o):w'.heap[b]? =some o:=by
 rcases Nat.lt_or_ge b w.heap.size with hh|hh
 ·rw[h.old b hh];exact hb
 ·simp [Array.getElem?_eq_none hh] at hb
def Jy(P:Program)(t:TypeId)(c:List AV)(K:AV→Prop):Prop:=
 match P.underlying t,P.info? t with
 |some d,some i=>match Ks d with
  |true=>match Nat.beq (c.take i.size).length i.size with
   |true=>K (.agg (c.take i.size))
   |false=>False
  |false=>match c with
   |a::_=>K a
   |[]=>False
 |_,_=>False
theorem WC{P:Program}{t:TypeId}{c:List AV}{K:AV→Prop}(hvc:Jy P t c K){Z:FP}{η:Nat→Value}{w:World}{b off n:Nat}{arr:Array Value}
 {ty:TypeId} {fr:Nat×Nat} (_hb:w.heap[b]? =some (.cells arr ty fr)) {cs rest:List Value} (hd:arr.toList.drop off=cs++rest)
 (hr:Aq Z η w c cs (fun _=>False)) (hi:AX n c):
 ∃v r,(∀w':World,w'.heap[b]? =some (.cells arr ty fr)→(loadVar t (ad b off)).run P w'= .ok v w')∧Ad Z η w r v (fun _=>False)∧AP n r∧K r:=by
 unfold Jy at hvc
 split at hvc
 ·rename_i d i hu hinfo
  split at hvc
  ·rename_i hagg
   split at hvc
   ·rename_i hl
    have hl':=Nat.eq_of_beq_eq_true hl
    refine⟨.agg (cs.take i.size).toArray,_,?_,?_,?_,hvc⟩
    ·intro w' hw'
     simp only[loadVar]
     rw[AU (Kt hu w'),hagg]
     simp only[if_true]
     rw[AU (FQ hinfo w')]
     have hlen:(cs.take i.size).length=i.size:=by
      have:=Fa _ _ _ (No i.size c cs hr);omega
     have:=Sf (P:=P) (off:=off) hw' (cs:=cs.take i.size) (rest:=cs.drop i.size++rest) (by rw[hd,←List.append_assoc,List.take_append_drop])
     rw[hlen] at this
     rw[AU this];rfl
    ·simp only[Ad];exact⟨_,rfl,No _ _ _ hr⟩
    ·simp only[AP];exact LP _ _ hi
   ·exact hvc.elim
  ·rename_i hagg
   split at hvc
   ·rename_i a _
    simp only[Aq] at hr
    obtain⟨v,cs',A,B,e,hj,h1,h2⟩:=hr
    have hA:=(HX hj AW).1
    rw[EA hA] at h1
    refine⟨v,a,fun w' hw'=> ?_,h1,hi.1,hvc⟩
    simp only[loadVar]
    rw[AU (Kt hu w'),hagg]
    simp only[Bool.false_eq_true,if_false]
    refine Se ?_
    rw[OP hw']
    have:(arr.toList.drop off)[0]? =some v:=by rw[hd,e];rfl
    rw[List.getElem?_drop] at this
    simpa [Array.getElem?_toList] using this
   ·exact hvc.elim
 ·exact hvc.elim
theorem OW{P:Program}{t:TypeId}{c:List AV}{K:AV→Prop}(hvc:Jy P t c K){Z:FP}{η:Nat→Value}{w:World}{b off n:Nat}{arr:Array Value}
 {ty:TypeId} {fr:Nat×Nat} (hb:w.heap[b]? =some (.cells arr ty fr)) {cs rest:List Value} (hd:arr.toList.drop off=cs++rest)
 (hr:Aq Z η w c cs (fun _=>False)) (hi:AX n c):
 ∃v r,(∀w',Sees w w'→(loadVar t (ad b off)).run P w'= .ok v w')∧Ad Z η w r v (fun _=>False)∧AP n r∧K r:=by
 obtain⟨v,r,h1,h2,h3,h4⟩:=WC hvc hb hd hr hi
 exact⟨v,r,fun w' hw'=>h1 w' (hw'.blk hb),h2,h3,h4⟩
mutual
def Cd(id:Nat):AV→Option AV
 | .sl true i sz α f xs=>match Nat.beq i id with|true=>some (.sl true i sz α f xs)|false=>none
 | .box i c=>match Nat.beq i id with|true=>some (.box i c)|false=>DG id c
 | .bv _ c=>DG id c
 | .agg fs=>DG id fs
 | .tup fs=>DG id fs
 | .clo _ fs=>DG id fs
 |_=>none
def DG(id:Nat):List AV→Option AV
 |[]=>none
 |a::azs=>match Cd id a with
  |some o=>some o
  |none=>DG id azs
end
def Jz(id:Nat):AV→Prop
 | .sl true i _ _ _ _=>i=id
 | .box i _=>i=id
 |_=>False
mutual
theorem a4j{Z:FP}{η:Nat→Value}{w:World}{id:Nat}:∀(a:AV) (v:Value) (S:FP) (o:AV),Ad Z η w a v S→Cd id a=some o→
 ∃A,(∀b,A b→S b)∧Jz id o∧Ad Z η w o (η id) A
 | .sl true i sz α f xs,v,S,o,h,hf=>by
   simp only[Cd] at hf
   split at hf
   ·rename_i hb;simp only[Option.some.injEq] at hf;subst hf
    have:=Nat.eq_of_beq_eq_true hb;subst this
    refine⟨S,fun _ x=>x,rfl,?_⟩
    have h':=h
    simp only[Ad] at h'
    rw[←h'.1 trivial];exact h
   ·simp at hf
 | .sl false i sz α f xs,v,S,o,h,hf=>by simp [Cd] at hf
 | .box i c,v,S,o,h,hf=>by
   simp only[Cd] at hf
   split at hf
   ·rename_i hb;simp only[Option.some.injEq] at hf;subst hf
    have:=Nat.eq_of_beq_eq_true hb;subst this
    refine⟨S,fun _ x=>x,rfl,?_⟩
    have h':=h
    simp only[Ad] at h'
    rw[←h'.1];exact h
   ·simp only[Ad] at h
    obtain⟨_,b,arr,ty,S1,_,_,h,hj⟩:=h
    obtain⟨A,hA,h1,h2⟩:=EC c _ S1 o h hf
    exact⟨A,fun b hb=>(hj.1 b).2 (.inr (hA b hb)),h1,h2⟩
 | .bv _ c,v,S,o,h,hf=>by
   simp only[Cd] at hf;simp only[Ad] at h
   obtain⟨_,b,arr,ty,S1,_,_,h,hj⟩:=h
   obtain⟨A,hA,h1,h2⟩:=EC c _ S1 o h hf
   exact⟨A,fun b hb=>(hj.1 b).2 (.inr (hA b hb)),h1,h2⟩
 | .hv _,v,S,o,h,hf=>by simp [Cd] at hf
 | .agg fs,v,S,o,h,hf=>by
   simp only[Cd] at hf;simp only[Ad] at h
   obtain⟨cs,_,h⟩:=h
   exact EC fs cs S o h hf
 | .tup fs,v,S,o,h,hf=>by
   simp only[Cd] at hf;simp only[Ad] at h
   obtain⟨cs,_,h⟩:=h
   exact EC fs cs S o h hf
 | .clo _ fs,v,S,o,h,hf=>by
   simp only[Cd] at hf;simp only[Ad] at h
   obtain⟨cs,_,h⟩:=h
   exact EC fs cs S o h hf
 | .int _ _,v,S,o,h,hf=>by simp [Cd] at hf
 | .bool _,v,S,o,h,hf=>by simp [Cd] at hf
 | .str _,v,S,o,h,hf=>by simp [Cd] at hf
 | .val _,v,S,o,h,hf=>by simp [Cd] at hf
 | .any,v,S,o,h,hf=>by simp [Cd] at hf
 | .top,v,S,o,h,hf=>by simp [Cd] at hf
 | .nil,v,S,o,h,hf=>by simp [Cd] at hf
 | .hole _,v,S,o,h,hf=>by simp [Cd] at hf
 | .al _,v,S,o,h,hf=>by simp [Cd] at hf
 | .po _ _ _ _,v,S,o,h,hf=>by simp [Cd] at hf
 | .pf _,v,S,o,h,hf=>by simp [Cd] at hf
theorem EC{Z:FP}{η:Nat→Value}{w:World}{id:Nat}:∀(azs:List AV) (cs:List Value) (S:FP) (o:AV),Aq Z η w azs cs S→DG id azs=some o→
 ∃A,(∀b,A b→S b)∧Jz id o∧Ad Z η w o (η id) A
 |[],cs,S,o,h,hf=>by simp [DG] at hf
 |a::azs,cs,S,o,h,hf=>by
  simp only[Aq] at h
  obtain⟨v,cs',A,B,e,hj,h1,h2⟩:=h
  simp only[DG] at hf
  split at hf
  ·rename_i o' ho
   simp only[Option.some.injEq] at hf;subst hf
   obtain⟨A',hA,x,y⟩:=a4j a v A _ h1 ho
   exact⟨A',fun b hb=>(hj.1 b).2 (.inl (hA b hb)),x,y⟩
  ·obtain⟨A',hA,x,y⟩:=EC azs cs' B o h2 hf
   exact⟨A',fun b hb=>(hj.1 b).2 (.inr (hA b hb)),x,y⟩
end
mutual
theorem a4k{n id:Nat}:∀(a:AV) (o:AV),AP n a→Cd id a=some o→AP n o
 | .sl true i sz α f xs,o,h,hf=>by
   simp only[Cd] at hf
   split at hf
   ·simp only[Option.some.injEq] at hf;subst hf;exact h
   ·simp at hf
 | .sl false i sz α f xs,o,h,hf=>by simp [Cd] at hf
 | .box i c,o,h,hf=>by
   simp only[Cd] at hf
   split at hf
   ·simp only[Option.some.injEq] at hf;subst hf;exact h
   ·exact JA c o h.2 hf
 | .bv _ c,o,h,hf=>by simp only[Cd] at hf;simp only[AP] at h;exact JA c o h hf
 | .hv _,o,h,hf=>by simp [Cd] at hf
 | .agg fs,o,h,hf=>by simp only[Cd] at hf;simp only[AP] at h;exact JA fs o h hf
 | .tup fs,o,h,hf=>by simp only[Cd] at hf;simp only[AP] at h;exact JA fs o h hf
 | .clo _ fs,o,h,hf=>by simp only[Cd] at hf;simp only[AP] at h;exact JA fs o h hf
 | .int _ _,o,h,hf=>by simp [Cd] at hf
 | .bool _,o,h,hf=>by simp [Cd] at hf
 | .str _,o,h,hf=>by simp [Cd] at hf
 | .val _,o,h,hf=>by simp [Cd] at hf
 | .any,o,h,hf=>by simp [Cd] at hf
 | .top,o,h,hf=>by simp [Cd] at hf
 | .nil,o,h,hf=>by simp [Cd] at hf
 | .hole _,o,h,hf=>by simp [Cd] at hf
 | .al _,o,h,hf=>by simp [Cd] at hf
 | .po _ _ _ _,o,h,hf=>by simp [Cd] at hf
 | .pf _,o,h,hf=>by simp [Cd] at hf
theorem JA{n id:Nat}:∀(azs:List AV) (o:AV),AX n azs→DG id azs=some o→AP n o
 |[],o,h,hf=>by simp [DG] at hf
 |a::azs,o,h,hf=>by
  simp only[DG] at hf
  split at hf
  ·rename_i o' ho
   simp only[Option.some.injEq] at hf;subst hf
   exact a4k a _ h.1 ho
  ·exact JA azs o h.2 hf
end
theorem Sj{α:Type}{sz:Nat}{R:α→List Value→FP→Prop}:∀(xs:List α) (cs:List Value) (S:FP) (k:Nat) (x:α),Rows sz R xs cs S→xs[k]? =some x→
 ∃A,(∀b,A b→S b)∧((cs.drop (k*sz)).take sz).length=sz∧R x ((cs.drop (k*sz)).take sz) A
 |[],cs,S,k,x,h,hk=>by simp at hk
 |y::xs,cs,S,0,x,h,hk=>by
  simp at hk;subst hk
  obtain⟨A,B,hj,hl,h1,h2⟩:=h
  refine⟨A,fun b hb=>(hj.1 b).2 (.inl hb),?_,?_⟩
  ·simpa using hl
  ·simpa using h1
 |y::xs,cs,S,k+1,x,h,hk=>by
  obtain⟨A,B,hj,hl,h1,h2⟩:=h
  obtain⟨A',hA,hl',hr⟩:=Sj xs (cs.drop sz) B k x h2 (by simpa using hk)
  rw[List.drop_drop] at hl' hr
  have e:(k+1)*sz=sz+k*sz:=by rw[Nat.succ_mul];omega
  rw[e]
  exact⟨A',fun b hb=>(hj.1 b).2 (.inr (hA b hb)),hl',hr⟩
end Go.Eng
end
section
set_option linter.unusedVariables false
set_option linter.unusedSimpArgs false
namespace Go.Eng
def POk(P:Program)(Z:FP)(η:Nat→Value)(w:World)(n:Nat)(s:Sem Value)(K:AV→Prop):Prop:=
 ∃v r,(∀w',Sees w w'→s.run P w'= .ok v w')∧Ad Z η w r v (fun _=>False)∧AP n r∧K r
theorem POk.pre{P:Program}{Z:FP}{η:Nat→Value}{w:World}{n:Nat}{g:Sem Unit}{s:Sem Value}{K:AV→Prop}(hg:∀w',g.run P w'= .ok () w')(h:POk P Z η w n s K):
 POk P Z η w n (do g;s) K:=by
 obtain⟨v,r,h1,h2⟩:=h
 exact⟨v,r,fun w' hw'=>by rw[AU (hg w')];exact h1 w' hw',h2⟩
theorem JB{P:Program}{s:Sem Value}{w w':World}{v:Value}(h:s.run P w= .ok v w'):(do pure (Next.value (←s)):Sem Next).run P w= .ok (.value v) w':=by
 rw[AU h];rfl
def inR(k:IntKind)(n:Int):Prop:=k.min≤n∧n≤k.max
theorem Sk{k:IntKind}{n:Int}(h:inR k n):k.wrap n=n:=by
 unfold inR at h
 obtain⟨h1,h2⟩:=h
 cases k<;>simp [IntKind.wrap,IntKind.min,IntKind.max,IntKind.bits,IntKind.signed] at* <;>omega
def Ku(ov:Bool)(k:IntKind)(n:Int)(K:AV→Prop):Prop:=
 match ov with
 |true=>K (.int k (k.wrap n))
 |false=>inR k n∧K (.int k n)
theorem LQ{ov:Bool}{k:IntKind}{n:Int}{K:AV→Prop}(h:Ku ov k n K):K (.int k (k.wrap n)):=by
 cases ov
 ·rw[Sk h.1];exact h.2
 ·exact h
def Np:IntKind→IntKind→Bool
 | .i8,.i8=>true
 | .i16,.i16=>true
 | .i32,.i32=>true
 | .i64,.i64=>true
 | .u8,.u8=>true
 | .u16,.u16=>true
 | .u32,.u32=>true
 | .u64,.u64=>true
 |_,_=>false
theorem OX{a b:IntKind}(h:Np a b=true):a=b:=by cases a<;>cases b<;>first|rfl|cases h
def IL(op:BinOp)(k:IntKind)(x y:Int):Int:=match op with
 | .and=>k.wrap (BitVec.ofInt k.bits x&&& BitVec.ofInt k.bits y).toNat
 | .or=>k.wrap (BitVec.ofInt k.bits x|||BitVec.ofInt k.bits y).toNat
 | .xor=>k.wrap (BitVec.ofInt k.bits x^^^BitVec.ofInt k.bits y).toNat
 |_=>0
def shI(left:Bool)(k:IntKind)(x y:Int):Int:=match left with
 |true=>k.wrap (x*2^(min y.toNat k.bits))
 |false=>x.fdiv (2^(min y.toNat k.bits))
def WD:BinOp→Option Bool
 | .shl=>some true
 | .shr=>some false
 |_=>none
def WE(ov:Bool)(op:BinOp)(k:IntKind)(x y:Int)(K:AV→Prop):Prop:=
 match op with
 | .add=>Ku ov k (x+y) K
 | .sub=>Ku ov k (x-y) K
 | .mul=>Ku ov k (x*y) K
 | .quo=>y≠0∧Ku ov k (x.tdiv y) K
 | .rem=>y≠0∧K (.int k (x.tmod y))
 | .eql=>K (.bool (x==y))
 | .neq=>K (.bool (x != y))
 | .lss=>K (.bool (decide (x<y)))
 | .leq=>K (.bool (decide (x≤y)))
 | .gtr=>K (.bool (decide (x>y)))
 | .geq=>K (.bool (decide (x≥y)))
 | .and=>K (.int k (IL .and k x y))
 | .or=>K (.int k (IL .or k x y))
 | .xor=>K (.int k (IL .xor k x y))
 |_=>False
def Ia(P:Program)(xs ys:List AV):List Field→Bool→(Bool→Prop)→Prop
 |[],acc,K=>K acc
 |f::fs,acc,K=>match decide (f.name= "_") with
  |true=>Ia P xs ys fs acc K
  |false=>match P.underlying f.type with
   |some (.int _)=>match xs[f.offset]?,ys[f.offset]? with
    |some (.int k a),some (.int k' b)=>match Np k k' with
     |true=>Ia P xs ys fs (acc&&(a==b)) K
     |false=>False
    |_,_=>False
   |some .bool=>match xs[f.offset]?,ys[f.offset]? with
    |some (.bool a),some (.bool b)=>Ia P xs ys fs (acc&&(a==b)) K
    |_,_=>False
   |some .string=>match xs[f.offset]?,ys[f.offset]? with
    |some (.str a),some (.str b)=>Ia P xs ys fs (acc&&(a==b)) K
    |_,_=>False
   |_=>False
theorem LR{Z:FP}{η:Nat→Value}{w:World}{azs:List AV}{vs:List Value}{S:FP}{i:Nat}{a:AV}(h:Aq Z η w azs vs S)(hi:azs[i]? =some a):∃v A,vs[i]? =some v∧Ad Z η w a v A:=by
 obtain⟨v,A,B,h1,h2,_⟩:=Hm azs vs S i a h hi
 exact⟨v,A,h1,h2⟩
theorem WF{P:Program}{t:TypeId}{d:TypeDesc}{cs:List Value}{off:Nat}{v:Value}(h:P.underlying t=some d)(hd:Ks d=false)(hv:cs[off]? =some v)(w:World):(part t cs.toArray off).run P w= .ok v w:=by
 unfold part
 rw[AU (Kt h w),hd]
 simp only[Bool.false_eq_true,if_false,List.getElem?_toArray,hv]
 rfl
theorem Sl{P:Program}{xs ys:List AV}{Z:FP}{η:Nat→Value}{w:World}{cs ds:List Value}{S T:FP}(hx:Aq Z η w xs cs S)(hy:Aq Z η w ys ds T)(d:Nat):∀(fs:List Field) (acc:Bool) (K:Bool→Prop),Ia P xs ys fs acc K→
 ∃b,(∀w',(Op.eqFields (d+1) cs.toArray ds.toArray fs).run P w'= .ok b w')∧K (acc&&b)
 |[],acc,K,h=>⟨true,fun w'=>rfl,by rw[Bool.and_true];exact h⟩
 |f::fs,acc,K,h=>by
  have step:∀ {dd:TypeDesc} {u v:Value} {r:Bool},P.underlying f.type=some dd→Ks dd=false→cs[f.offset]? =some u→ds[f.offset]? =some v→f.name≠ "_" →
   (∀w',(Op.equalIn (d+1) f.type u v).run P w'= .ok r w')→Ia P xs ys fs (acc&&r) K→
   ∃b,(∀w',(Op.eqFields (d+1) cs.toArray ds.toArray (f::fs)).run P w'= .ok b w')∧K (acc&&b):=by
   intro dd u v r hu hd hcu hdv hn he hk
   obtain⟨b,h1,h2⟩:=Sl hx hy d fs _ K hk
   refine⟨r&&b,fun w'=> ?_,by rw[←Bool.and_assoc];exact h2⟩
   rw[Op.eqFields,if_pos hn,AU (WF hu hd hcu w'),AU (WF hu hd hdv w'),AU (he w')]
   cases r
   ·rfl
   ·simpa using h1 w'
  unfold Ia at h
  split at h
  ·rename_i hn
   have hn:=of_decide_eq_true hn
   obtain⟨b,h1,h2⟩:=Sl hx hy d fs acc K h
   exact⟨b,fun w'=>by rw[Op.eqFields,if_neg (by simp [hn])];exact h1 w',h2⟩
  ·rename_i hn
   have hn:=of_decide_eq_false hn
   split at h
   ·rename_i hu
    split at h
    ·rename_i k a k' b hxa hyb
     split at h
     ·rename_i hk
      have hk:=OX hk
      subst hk
      obtain⟨u,_,hcu,hru⟩:=LR hx hxa
      obtain⟨v,_,hdv,hrv⟩:=LR hy hyb
      simp only[Ad,Am] at hru hrv
      rw[hru.1] at hcu;rw[hrv.1] at hdv
      exact step hu rfl hcu hdv hn (fun w'=>run_equalIn_int w' d _ _ _ _ _ hu) h
     ·exact h.elim
    ·exact h.elim
   ·rename_i hu
    split at h
    ·rename_i a b hxa hyb
     obtain⟨u,_,hcu,hru⟩:=LR hx hxa
     obtain⟨v,_,hdv,hrv⟩:=LR hy hyb
     simp only[Ad,Am] at hru hrv
     rw[hru.1] at hcu;rw[hrv.1] at hdv
     exact step hu rfl hcu hdv hn (fun w'=>run_equalIn_bool' w' d _ _ _ hu) h
    ·exact h.elim
   ·rename_i hu
    split at h
    ·rename_i a b hxa hyb
     obtain⟨u,_,hcu,hru⟩:=LR hx hxa
     obtain⟨v,_,hdv,hrv⟩:=LR hy hyb
     simp only[Ad,Am] at hru hrv
     rw[hru.1] at hcu;rw[hrv.1] at hdv
     refine step hu rfl hcu hdv hn (fun w'=> ?_) h
     rw[run_equalIn_string w' d _ _ _ hu];simp only[ByteArray.toList_mk]
    ·exact h.elim
   ·exact h.elim
def Sm(P:Program)(ov:Bool)(op:BinOp)(t:TypeId)(a b:AV)(K:AV→Prop):Prop:=
 match a,b with
 | .int k x,.int k' y=>match WD op with
   |some left=>0≤y∧K (.int k (shI left k x y))
   |none=>match Np k k' with
    |true=>WE ov op k x y K
    |false=>False
 | .str x,.str y=>match op with
   | .add=>((x.length+y.length:Nat):Int)≤IntKind.i64.max∧K (.str (x++y))
   | .eql=>K (.bool (x==y))
   | .neq=>K (.bool !(x==y))
   | .lss=>K (.bool (Op.bytesLess x y))
   | .leq=>K (.bool (Op.bytesLess x y||x==y))
   | .gtr=>K (.bool !(Op.bytesLess x y||x==y))
   | .geq=>K (.bool !(Op.bytesLess x y))
   |_=>False
 | .bool x,.bool y=>match P.underlying t with
   |some .bool=>match op with
    | .eql=>K (.bool (x==y))
    | .neq=>K (.bool !(x==y))
    |_=>False
   |_=>False
 | .sl false _ _ _ _ xs,.nil=>match P.underlying t with
   |some (.slice _)=>match op with
    | .eql=>∀b:Bool,(b=true→xs=[])→K (.bool b)
    | .neq=>∀b:Bool,(b=false→xs=[])→K (.bool b)
    |_=>False
   |_=>False
 | .agg xs,.agg ys=>match P.underlying t with
   |some (.struct fs)=>match P.stoodInHeld t,P.eqGuardType P.depth t with
    |false,false=>match op with
     | .eql=>Ia P xs ys fs.toList true fun b=>K (.bool b)
     | .neq=>Ia P xs ys fs.toList true fun b=>K (.bool !b)
     |_=>False
    |_,_=>False
   |_=>False
 |_,_=>False
theorem a4l{P:Program}{op:BinOp}{t:TypeId}{x y:Operand}{a a':Option Addr}{n c n' c':Nat}{w:World}:(eqGuard op t x y (.slice a n c) (.slice a' n' c')).run P w= .ok () w:=by
 unfold eqGuard;cases op<;>rfl
theorem a4m{P:Program}{op:BinOp}{t:TypeId}{x y:Operand}{k k':IntKind}{a b:Int}{w:World}:(eqGuard op t x y (.int k a) (.int k' b)).run P w= .ok () w:=by
 unfold eqGuard;cases op<;>rfl
theorem a4n{P:Program}{op:BinOp}{t:TypeId}{x y:Operand}{a b:ByteArray}{w:World}:(eqGuard op t x y (.string a) (.string b)).run P w= .ok () w:=by
 unfold eqGuard;cases op<;>rfl
theorem a4o{P:Program}{op:BinOp}{t:TypeId}{x y:Operand}{a b:Bool}{w:World}:(eqGuard op t x y (.bool a) (.bool b)).run P w= .ok () w:=by
 unfold eqGuard;cases op<;>rfl
theorem a4p{P:Program}{ov:Bool}{op:BinOp}{t:TypeId}{a b:AV}{K:AV→Prop}(h:Sm P ov op t a b K){Z:FP}{η:Nat→Value}{w:World}{n:Nat}
 {xo yo:Operand} {x y:Value} (hx:Ad Z η w a x (fun _=>False)) (hy:Ad Z η w b y (fun _=>False)):
 POk P Z η w n (do eqGuard op t xo yo x y;binOp op t x y) K:=by
 unfold Sm at h
 split at h
 ·rename_i k p k' q
  simp only[Ad,Am] at hx hy
  rw[hx.1,hy.1]
  refine POk.pre (fun w'=>a4m) ?_
  split at h
  ·rename_i left hl
   have hn:¬q<0:=by omega
   cases op<;>simp only[WD,reduceCtorEq] at hl
   case shl=>
    simp only[Option.some.injEq] at hl;subst hl
    exact⟨_,.int k (shI true k p q),fun _ _=>by simp only[binOp,Op.shift,if_neg hn,shI];rfl,⟨rfl,AW⟩,trivial,h.2⟩
   case shr=>
    simp only[Option.some.injEq] at hl;subst hl
    exact⟨_,.int k (shI false k p q),fun _ _=>by simp only[binOp,Op.shift,if_neg hn,shI];rfl,⟨rfl,AW⟩,trivial,h.2⟩
  split at h
  ·rename_i hk
   have hk:=OX hk
   subst hk
   cases op<;>simp only[WE] at h<;>try exact h.elim
   case and=>exact⟨_,.int k (IL .and k p q),fun _ _=>by simp only[binOp,Op.intBits,ne_eq,not_true_eq_false,if_false,IL];rfl,⟨rfl,AW⟩,trivial,h⟩
   case or=>exact⟨_,.int k (IL .or k p q),fun _ _=>by simp only[binOp,Op.intBits,ne_eq,not_true_eq_false,if_false,IL];rfl,⟨rfl,AW⟩,trivial,h⟩
   case xor=>exact⟨_,.int k (IL .xor k p q),fun _ _=>by simp only[binOp,Op.intBits,ne_eq,not_true_eq_false,if_false,IL];rfl,⟨rfl,AW⟩,trivial,h⟩
   case add=>exact⟨.int k (k.wrap (p+q)),.int k (k.wrap (p+q)),fun _ _=>by simp [binOp,Op.intArith],⟨rfl,AW⟩,trivial,LQ h⟩
   case sub=>exact⟨.int k (k.wrap (p-q)),.int k (k.wrap (p-q)),fun _ _=>by simp [binOp,Op.intArith],⟨rfl,AW⟩,trivial,LQ h⟩
   case mul=>exact⟨.int k (k.wrap (p*q)),.int k (k.wrap (p*q)),fun _ _=>by simp [binOp,Op.intArith],⟨rfl,AW⟩,trivial,LQ h⟩
   case quo=>exact⟨.int k (k.wrap (p.tdiv q)),.int k (k.wrap (p.tdiv q)),fun _ _=>by simp [binOp,Op.intDiv,h.1],⟨rfl,AW⟩,trivial,LQ h.2⟩
   case rem=>exact⟨.int k (p.tmod q),.int k (p.tmod q),fun _ _=>by simp [binOp,Op.intDiv,h.1],⟨rfl,AW⟩,trivial,h.2⟩
   all_goals exact⟨.bool _,.bool _,(fun _ _=>by simp [binOp,Op.intCmp]),⟨rfl,AW⟩,trivial,h⟩
  ·exact h.elim
 ·rename_i p q
  simp only[Ad,Am] at hx hy
  rw[hx.1,hy.1]
  refine POk.pre (fun w'=>a4n) ?_
  cases op<;>simp only at h<;>try exact h.elim
  case add=>
   refine⟨.string ⟨(p++q).toArray⟩,.str (p++q),fun _ _=> ?_,⟨rfl,AW⟩,trivial,h.2⟩
   have hh:=h.1
   have e:(ByteArray.mk p.toArray++ByteArray.mk q.toArray)=ByteArray.mk (p++q).toArray:=by
    apply ByteArray.ext;simp
   simp only[binOp,Op.stringOp]
   rw[if_neg (by simp only[ByteArray.size,List.size_toArray];omega),e];rfl
  all_goals exact⟨_,.bool _,(fun _ _=>by simp only[binOp,Op.stringOp,ByteArray.toList_mk];rfl),⟨rfl,AW⟩,trivial,h⟩
 ·rename_i p q
  split at h
  ·rename_i hu
   simp only[Ad,Am] at hx hy
   rw[hx.1,hy.1]
   refine POk.pre (fun w'=>a4o) ?_
   have he:∀w,(Op.equal t (.bool p) (.bool q)).run P w= .ok (p==q) w:=by
    intro w
    have hd:∀d,(Op.equalIn (d+1) t (.bool p) (.bool q)).run P w= .ok (p==q) w:=by
     intro d;unfold Op.equalIn
     rw[AU (Dc hu w)];rfl
    exact hd 9999
   cases op<;>simp only at h<;>try exact h.elim
   case eql=>exact⟨.bool (p==q),.bool (p==q),fun _ _=>by simp only[binOp];rw[AU (he _)];rfl,⟨rfl,AW⟩,trivial,h⟩
   case neq=>exact⟨.bool !(p==q),.bool !(p==q),fun _ _=>by simp only[binOp];rw[AU (he _)];rfl,⟨rfl,AW⟩,trivial,h⟩
  ·exact h.elim
 ·rename_i sz α f xs
  split at h
  ·rename_i e hu
   simp only[Ad,Am] at hx hy
   obtain⟨_,a0,n0,c0,rfl,hn,hc,hx⟩:=hx
   rw[hy.1]
   refine POk.pre (fun w'=>a4l) ?_
   have he:∀w,(Op.equal t (.slice a0 n0 c0) (.slice none 0 0)).run P w= .ok a0.isNone w:=by
    intro w
    have hd:∀d,(Op.equalIn (d+1) t (.slice a0 n0 c0) (.slice none 0 0)).run P w= .ok a0.isNone w:=by
     intro d;unfold Op.equalIn
     rw[AU (Dc hu w)];cases a0<;>rfl
    exact hd 9999
   have hnil:a0.isNone=true→xs=[]:=by
    intro h0
    rcases hx with⟨ho,_⟩|⟨_,_,h1⟩
    ·cases ho
    ·rcases h1 with h1|⟨b,off,arr,ty,fr,ha,_⟩
     ·exact h1
     ·rw[ha] at h0;cases h0
   cases op<;>simp only at h<;>try exact h.elim
   case eql=>exact⟨.bool a0.isNone,.bool a0.isNone,fun _ _=>by simp only[binOp];rw[AU (he _)];rfl,⟨rfl,AW⟩,trivial,h _ hnil⟩
   case neq=>exact⟨.bool !a0.isNone,.bool !a0.isNone,fun _ _=>by simp only[binOp];rw[AU (he _)];rfl,⟨rfl,AW⟩,trivial,h _ (fun h0=>hnil (by simpa using h0))⟩
  ·exact h.elim
 ·rename_i xs ys
  split at h
  ·rename_i fs hu
   split at h
   ·rename_i hst hg
    simp only[Ad] at hx hy
    obtain⟨cs,rfl,hx⟩:=hx
    obtain⟨ds,rfl,hy⟩:=hy
    have hf:P.fieldsOf t=fs:=by unfold Program.fieldsOf;rw[hu]
    have key:∀ {K':Bool→Prop},Ia P xs ys fs.toList true K'→∃b,(∀w',(Op.equal t (.agg cs.toArray) (.agg ds.toArray)).run P w'= .ok b w')∧K' b:=by
     intro K' hk
     obtain⟨b,h1,h2⟩:=Sl hx hy 9998 fs.toList true K' hk
     refine⟨b,fun w'=> ?_,by simpa using h2⟩
     show(Op.equalIn (9999+1) t (.agg cs.toArray) (.agg ds.toArray)).run P w'=_
     rw[run_equalIn_struct w' 9999 t _ _ (by rw[hf];exact hu) hst,hf]
     exact h1 w'
    refine POk.pre (fun w'=>run_eqGuard_agg w' op t xo yo _ _ hg) ?_
    cases op<;>simp only at h<;>try exact h.elim
    case eql=>
     obtain⟨b,h1,h2⟩:=key h
     exact⟨.bool b,.bool b,fun _ _=>by simp only[binOp];rw[AU (h1 _)];rfl,⟨rfl,AW⟩,trivial,h2⟩
    case neq=>
     obtain⟨b,h1,h2⟩:=key h
     exact⟨.bool !b,.bool !b,fun _ _=>by simp only[binOp];rw[AU (h1 _)];rfl,⟨rfl,AW⟩,trivial,h2⟩
   ·exact h.elim
  ·exact h.elim
 ·exact h.elim
def Sn(op:UnOp)(a:AV)(ov:Bool)(K:AV→Prop):Prop:=
 match op,a with
 | .not,.bool b=>K (.bool !b)
 | .neg,.int k n=>Ku ov k (0-n) K
 |_,_=>False
theorem a4q{P:Program}{op:UnOp}{a:AV}{ov:Bool}{K:AV→Prop}(h:Sn op a ov K){Z:FP}{η:Nat→Value}{w:World}{n:Nat}{x:Value}
 (hx:Ad Z η w a x (fun _=>False)):POk P Z η w n (Op.unary op x) K:=by
 unfold Sn at h
 split at h
 ·simp only[Ad,Am] at hx;rw[hx.1];exact⟨_,.bool _,fun _ _=>rfl,⟨rfl,AW⟩,trivial,h⟩
 ·rename_i k m
  simp only[Ad,Am] at hx;rw[hx.1];exact⟨_,.int k (k.wrap (0-m)),fun _ _=>rfl,⟨rfl,AW⟩,trivial,LQ h⟩
 ·exact h.elim
def Nq(P:Program)(regs:List AV)(t:TypeId)(p:AV)(K:AV→Prop):Prop:=
 match p with
 | .pf c=>Jy P t (c.map HZ) K
 | .al id=>match DG id regs with
   |some (.box _ c)=>Jy P t (Ft c) K
   |_=>False
 | .po id k sz off=>match DG id regs with
   |some (.box _ c)=>match k,sz with
    |0,0=>Jy P t (Ft (c.drop off)) K
    |_,_=>False
   |some (.sl true _ sz' _ f xs)=>match Nat.beq sz sz' with
    |true=>k<xs.length∧∀x,xs[k]? =some x→Jy P t (((f x).map HZ).drop off) K
    |false=>False
   |_=>False
 |_=>False
def LT(Z:FP)(w w':World):Prop:=∀b,¬Z b→b<w.heap.size→w'.heap[b]? =w.heap[b]?
theorem a4r{P:Program}{t:TypeId}{c:List AV}{K:AV→Prop}(h:Jy P t (c.map HZ) K){Z:FP}{η:Nat→Value}{w:World}{n:Nat}{x:Value}(hx:Ad Z η w (.pf c) x (fun _=>False)):
 ∃v r,(∀w',LT Z w w'→(Instr.loadAt t x).run P w'= .ok v w')∧Ad Z η w r v (fun _=>False)∧AP n r∧K r:=by
 simp only[Ad,Am] at hx
 obtain⟨_,b,off,arr,ty,fr,cs,rest,S1,e,hz,hb,hd,hr,hS1⟩:=hx
 subst e
 obtain⟨v,r,h1,h2,h3,h4⟩:=WC (n:=n) h hb hd (OV _ _ _ hr) (OU n c)
 refine⟨v,r,fun w' hw'=> ?_,h2,h3,h4⟩
 simp only[Instr.loadAt,Instr.sureAddr]
 have hlt:b<w.heap.size:=by
  rcases Nat.lt_or_ge b w.heap.size with hh|hh
  ·exact hh
  ·simp [Array.getElem?_eq_none hh] at hb
 rw[Fb];exact h1 w' ((hw' b hz hlt).trans hb)
theorem So:∀(n:Nat) (l:List AV),Ft (l.drop n)=(Ft l).drop n
 |0,l=>by simp
 |n+1,[]=>by simp [Ft]
 |n+1,a::l=>by simpa [Ft] using So n l
theorem WG{P:Program}{regs:List AV}{t:TypeId}{p:AV}{K:AV→Prop}(h:Nq P regs t p K){Z:FP}{η:Nat→Value}{w:World}{n:Nat}{vs:List Value}
 {S:FP} {x:Value} (hR:Aq Z η w regs vs S) (hI:AX n regs) (hx:Ad Z η w p x (fun _=>False)):POk P Z η w n (Instr.loadAt t x) K:=by
 unfold Nq at h
 split at h
 ·rename_i c
  simp only[Ad,Am] at hx
  obtain⟨_,b,off,arr,ty,fr,cs,rest,S1,e,hz,hb,hd,hr,hS1⟩:=hx
  subst e
  obtain⟨v,r,h1,h2,h3,h4⟩:=OW (n:=n) h hb hd (OV _ _ _ hr) (OU n c)
  refine⟨v,r,fun w' hw'=> ?_,h2,h3,h4⟩
  simp only[Instr.loadAt,Instr.sureAddr]
  rw[Fb];exact h1 w' hw'
 ·rename_i id
  simp only[Ad] at hx
  obtain⟨e,_⟩:=hx
  split at h
  ·rename_i i c ho
   obtain⟨A,hA,hi,hr⟩:=EC regs vs S _ hR ho
   have hids:=JA regs _ hI ho
   simp only[Ad] at hr
   obtain⟨_,b,arr,ty,S1,e0,hb,hr,hj⟩:=hr
   have hrel:=LK _ _ _ hr
   simp only[AP] at hids
   obtain⟨v,r,h1,h2,h3,h4⟩:=OW (n:=n) (off:=0) h hb (cs:=arr.toList) (rest:=[]) (by simp) hrel (LL _ hids.2)
   refine⟨v,r,fun w' hw'=> ?_,h2,h3,h4⟩
   rw[e,e0]
   simp only[Instr.loadAt,Instr.sureAddr]
   rw[Fb]
   exact h1 w' hw'
  ·exact h.elim
 ·rename_i id k sz off
  simp only[Ad] at hx
  obtain⟨e,_⟩:=hx
  split at h
  ·rename_i i c ho
   obtain⟨A,hA,hi,hr⟩:=EC regs vs S _ hR ho
   have hids:=JA regs _ hI ho
   split at h
   ·simp only[Ad] at hr
    obtain⟨_,b,arr,ty,S1,e0,hb,hr,hj⟩:=hr
    have hrel:=LK _ _ _ hr
    have hrel:=Nn off _ _ hrel
    rw[←So] at hrel
    simp only[AP] at hids
    obtain⟨v,r,h1,h2,h3,h4⟩:=OW (n:=n) (off:=off) h hb (cs:=arr.toList.drop off) (rest:=[]) (by simp) hrel (by rw[So];exact Jx _ _ (LL _ hids.2))
    refine⟨v,r,fun w' hw'=> ?_,h2,h3,h4⟩
    rw[e,e0]
    simp only[Instr.loadAt,Instr.sureAddr,EM]
    rw[Fb]
    simpa [ad] using h1 w' hw'
   ·exact h.elim
  ·rename_i i sz' α f xs ho
   obtain⟨A,hA,hi,hr⟩:=EC regs vs S _ hR ho
   split at h
   ·rename_i hsz
    have hsz:=Nat.eq_of_beq_eq_true hsz
    subst hsz
    obtain⟨hlt,h⟩:=h
    have hk:xs[k]? =some xs[k]:=by simp
    have h:=h _ hk
    simp only[Ad,Am] at hr
    obtain⟨_,a,n',c,e0,hn,hc,hr⟩:=hr
    rcases hr with⟨_,hr⟩|⟨ho,_⟩
    ·rcases hr with⟨ha,hc0,_⟩|⟨b,boff,arr,ty,S1,ha,hb,hsz,hrows,hj⟩
     ·omega
     ·obtain⟨A',hA',hl,hr⟩:=Sj xs _ S1 k xs[k] hrows hk
      rw[List.drop_drop] at hl hr
      have hp:=OV (η:=η) _ _ _ hr
      have hp:=Nn off _ _ hp
      obtain⟨v,r,h1,h2,h3,h4⟩:=OW (n:=n) (off:=boff+(k*sz+off)) h hb (cs:=((arr.toList.drop (boff+k*sz)).take sz).drop off)
       (rest:=(arr.toList.drop (boff+k*sz)).drop (max sz off)) (by
         rw[←Nat.add_assoc,←List.drop_drop]
         generalize arr.toList.drop (boff+k*sz)=l
         rw[List.drop_take]
         rcases Nat.le_total off sz with hle|hle
         ·rw[Nat.max_eq_left hle]
          have e:l.drop sz=(l.drop off).drop (sz-off):=by rw[List.drop_drop];congr 1;omega
          rw[e,List.take_append_drop]
         ·rw[Nat.max_eq_right hle,Nat.sub_eq_zero_of_le hle];simp) hp (Jx _ _ (OU n _))
      refine⟨v,r,fun w' hw'=> ?_,h2,h3,h4⟩
      rw[e,e0,ha]
      simp only[Instr.loadAt,Instr.sureAddr,EM]
      rw[Fb]
      exact h1 w' hw'
    ·cases ho
   ·exact h.elim
  ·exact h.elim
 ·exact h.elim
def LU(P:Program)(s:TypeId)(f:Nat):Option (Nat×Nat):=
 match P.underlying s with
 |some (.struct fs)=>match fs[f]? with
  |some fd=>match P.info? fd.type with
   |some i=>match i.size with
    |0=>none
    |n+1=>some (fd.offset,n+1)
   |none=>none
  |none=>none
 |_=>none
def OY(P:Program)(regs:List AV)(s:TypeId)(f:Nat)(p:AV)(K:AV→Prop):Prop:=
 match LU P s f with
 |some (off,_)=>match p with
  | .pf c=>K (.pf (c.drop off))
  | .al id=>match DG id regs with
    |some (.box _ _)=>K (.po id 0 0 off)
    |_=>False
  | .po id k sz o=>K (.po id k sz (o+off))
  |_=>False
 |none=>False
theorem Sp{Z:FP}{w:World}:∀(n:Nat) (azs:List AV) (cs:List Value) (S:FP),AZ Z w azs cs S→emp S→AZ Z w (azs.drop n) (cs.drop n) S
 |0,azs,cs,S,h,_=>by simpa using h
 |n+1,[],cs,S,h,_=>by simp only[AZ] at h;simp [h.1,AZ,h.2]
 |n+1,a::azs,cs,S,h,hS=>by
  simp only[AZ] at h
  obtain⟨v,cs',A,B,e,hj,h1,h2⟩:=h
  have hB:=(HX hj hS).2
  subst e
  rw[EA hS]
  rw[EA hB] at h2
  simpa using Sp n azs cs' _ h2 AW
theorem WH{P:Program}{regs:List AV}{s:TypeId}{f:Nat}{p:AV}{K:AV→Prop}(h:OY P regs s f p K){Z:FP}{η:Nat→Value}{w:World}{n:Nat}{x:Value}
 {vs:List Value} {S:FP} (hR:Aq Z η w regs vs S) (hx:Ad Z η w p x (fun _=>False)) (hi:AP n p):
 ∃v r,(∀w',(Instr.fieldAt s x f).run P w'= .ok v w')∧Ad Z η w r v (fun _=>False)∧AP n r∧K r:=by
 unfold OY at h
 split at h
 ·rename_i off q hf
  unfold LU at hf
  split at hf
  ·rename_i fs hu
   split at hf
   ·rename_i fd hfd
    split at hf
    ·rename_i i hinfo
     split at hf
     ·cases hf
     ·rename_i m hm
      simp only[Option.some.injEq,Prod.mk.injEq] at hf
      obtain⟨rfl,rfl⟩:=hf
      have hrun:∀(a:Addr) (w:World),(Instr.fieldAt s (.pointer (some a)) f).run P w= .ok (.pointer (some (a.add fd.offset))) w:=by
       intro a w
       unfold Instr.fieldAt
       rw[AU (Dc hu w)]
       simp only[hfd,Instr.sureAddr]
       rw[AU (Cc P _ w)]
       unfold fieldPlace
       rw[AU (x:=a.add fd.offset) (w':=w) ?_]
       ·rfl
       ·rw[AU (FQ hinfo w),hm];rfl
      split at h
      ·rename_i c
       simp only[Ad,Am] at hx
       obtain⟨_,b,off,arr,ty,fr,cs,rest,S1,e,hz,hb,hd,hr,hS1⟩:=hx
       subst e
       refine⟨_,.pf (c.drop fd.offset),fun w'=>hrun _ w',?_,trivial,h⟩
       simp only[Ad,Am]
       refine⟨AW,b,off+fd.offset,arr,ty,fr,cs.drop fd.offset,(cs++rest).drop (max cs.length fd.offset),S1,congrArg (fun a=>Value.pointer (some a)) (GK b off fd.offset),hz,hb,?_,Sp _ _ _ _ hr hS1,hS1⟩
       rw[←List.drop_drop,hd]
       rcases Nat.le_total fd.offset cs.length with hle|hle
       ·rw[Nat.max_eq_left hle,List.drop_append_of_le_length hle];simp
       ·rw[Nat.max_eq_right hle,List.drop_eq_nil_of_le hle];simp
      ·rename_i id
       split at h
       ·rename_i i c ho
        obtain⟨A,hA,hi',hr⟩:=EC regs vs S _ hR ho
        simp only[Ad] at hr hx
        obtain⟨_,b,arr,ty,S1,e0,_⟩:=hr
        rw[hx.1,e0]
        refine⟨_,.po id 0 0 fd.offset,fun w'=>hrun _ w',?_,hi,h⟩
        simp only[Ad]
        refine⟨?_,AW⟩
        rw[e0]
        have:=GK b 0 fd.offset
        unfold ad at this
        rw[this];simp [EM]
       ·exact h.elim
      ·rename_i id k sz o
       simp only[Ad] at hx
       rw[hx.1]
       refine⟨_,.po id k sz (o+fd.offset),fun w'=>hrun _ w',?_,hi,h⟩
       simp only[Ad]
       refine⟨?_,AW⟩
       have:=GK (EM (η id)).block ((EM (η id)).off+(k*sz+o)) fd.offset
       unfold ad at this
       rw[this];congr 3;omega
      ·exact h.elim
    ·cases hf
   ·cases hf
  ·cases hf
 ·exact h.elim
theorem a4s{P:Program}{regs:List AV}{s:TypeId}{f:Nat}{p:AV}{K:AV→Prop}(h:OY P regs s f p K){Z:FP}{η:Nat→Value}{w:World}{n:Nat}{x:Value}
 {vs:List Value} {S:FP} (hR:Aq Z η w regs vs S) (hx:Ad Z η w p x (fun _=>False)) (hi:AP n p):POk P Z η w n (Instr.fieldAt s x f) K:=by
 obtain⟨v,r,h1,h2,h3,h4⟩:=WH h hR hx hi
 exact⟨v,r,fun w' _=>h1 w',h2,h3,h4⟩
end Go.Eng
end
section
set_option linter.unusedVariables false
set_option linter.unusedSimpArgs false
namespace Go.Eng
def JC(P:Program)(t:TypeId):Option (TypeId×Nat):=
 match P.underlying t with
 |some (.slice e)=>match P.info? e with
  |some i=>some (e,i.size)
  |none=>none
 |_=>none
theorem LV{P:Program}{t e:TypeId}{n:Nat}(h:JC P t=some (e,n)):P.underlying t=some (.slice e)∧∃i,P.info? e=some i∧i.size=n:=by
 unfold JC at h
 split at h
 ·rename_i e' hu
  split at h
  ·rename_i i hi
   simp only[Option.some.injEq,Prod.mk.injEq] at h
   obtain⟨rfl,rfl⟩:=h
   exact⟨hu,i,hi,rfl⟩
  ·cases h
 ·cases h
def Sq(P:Program)(t:TypeId):Option (Nat×Nat):=
 match P.underlying t with
 |some (.array len e)=>match P.info? e with
  |some i=>some (len,i.size)
  |none=>none
 |_=>none
theorem a4t{P:Program}{t:TypeId}{len n:Nat}(h:Sq P t=some (len,n)):∃e i,P.underlying t=some (.array len e)∧P.info? e=some i∧i.size=n:=by
 unfold Sq at h
 split at h
 ·rename_i l e hu
  split at h
  ·rename_i i hi
   simp only[Option.some.injEq,Prod.mk.injEq] at h
   obtain⟨rfl,rfl⟩:=h
   exact⟨e,i,hu,hi,rfl⟩
  ·cases h
 ·cases h
def OZ(P:Program)(regs:List AV)(t:TypeId)(x i:AV)(K:AV→Prop):Prop:=
 match i with
 | .int _ n=>match JC P t with
   |some (_,es)=>match x with
    | .sl false _ sz _ f xs=>match Nat.beq sz es with
      |true=>(0≤n∧n<(xs.length:Int))∧∀e,xs[n.toNat]? =some e→K (.pf (f e))
      |false=>False
    | .al id=>match DG id regs with
      |some (.sl true _ sz _ f xs)=>match Nat.beq sz es with
       |true=>(0≤n∧n<(xs.length:Int))∧K (.po id n.toNat sz 0)
       |false=>False
      |_=>False
    |_=>False
   |none=>match Sq P t with
    |some (len,es)=>match x with
     | .al id=>match DG id regs with
       |some (.box _ _)=>(0≤n∧n<(len:Int))∧K (.po id 0 0 (n.toNat*es))
       |_=>False
     | .po id kk sz o=>(0≤n∧n<(len:Int))∧K (.po id kk sz (o+n.toNat*es))
     | .pf c=>(0≤n∧n<(len:Int))∧K (.pf (c.drop (n.toNat*es)))
     |_=>False
    |none=>False
 |_=>False
theorem Sr{P:Program}{t e:TypeId}{i:TypeInfo}{k:IntKind}{n:Int}{a:Addr}{len:Nat}{w:World}(hu:P.underlying t=some (.array len e))(hi:P.info? e=some i)
 (h0:0≤n) (h1:n<(len:Int)):(Instr.indexAt t (.pointer (some a)) (.int k n)).run P w= .ok (.pointer (some (a.add (n.toNat*i.size)))) w:=by
 unfold Instr.indexAt asIntOf
 rw[AU (Cc P _ w)]
 simp only[]
 rw[AU (Dc hu w)]
 simp only[Instr.sureAddr]
 rw[AU (Cc P a w)]
 rw[AU (Cc P (some a,len,e) w)]
 rw[AU (Dc hu w)]
 simp only[h0,h1,and_self,if_true]
 rw[AU (FQ hi w)]
 rfl
theorem WI{P:Program}{t e:TypeId}{i:TypeInfo}{k:IntKind}{n:Int}{a:Addr}{len cap:Nat}{w:World}(hu:P.underlying t=some (.slice e))(hi:P.info? e=some i)
 (h0:0≤n) (h1:n<(len:Int)):(Instr.indexAt t (.slice (some a) len cap) (.int k n)).run P w= .ok (.pointer (some (a.add (n.toNat*i.size)))) w:=by
 unfold Instr.indexAt asIntOf
 rw[AU (Cc P _ w)]
 simp only[]
 rw[AU (Dc hu w)]
 simp only[]
 rw[AU (Cc P _ w)]
 simp only[]
 rw[AU (Dc hu w)]
 simp only[h0,h1,and_self,if_true]
 rw[AU (FQ hi w)]
 rfl
theorem WJ{P:Program}{regs:List AV}{t:TypeId}{x i:AV}{K:AV→Prop}(h:OZ P regs t x i K){Z:FP}{η:Nat→Value}{w:World}{n:Nat}
 {vs:List Value} {S:FP} {xv iv:Value} (hR:Aq Z η w regs vs S) (hI:AX n regs) (hx:Ad Z η w x xv (fun _=>False)) (hxi:AP n x)
 (hi:Ad Z η w i iv (fun _=>False)):
 ∃v r,(∀w',(Instr.indexAt t xv iv).run P w'= .ok v w')∧Ad Z η w r v (fun _=>False)∧AP n r∧K r:=by
 unfold OZ at h
 split at h
 ·rename_i k q
  simp only[Ad,Am] at hi
  rw[hi.1]
  split at h
  ·rename_i e es he
   obtain⟨hu,inf,hinf,hsz⟩:=LV he
   split at h
   ·rename_i i' sz α f xs
    split at h
    ·rename_i hb
     have hb:=Nat.eq_of_beq_eq_true hb
     subst hb
     obtain⟨⟨h0,h1⟩,h⟩:=h
     have hlt:q.toNat<xs.length:=by omega
     have hk:xs[q.toNat]? =some xs[q.toNat]:=by simp
     have h:=h _ hk
     simp only[Ad,Am] at hx
     obtain⟨_,a,n',c,ev,hn,hc,hr⟩:=hx
     rcases hr with⟨ho,_⟩|⟨_,_,hr⟩
     ·cases ho
     ·rcases hr with hr|⟨b,off,arr,ty,fr,ha,hz,hbk,hrows⟩
      ·subst hr;simp at hlt
      ·subst ha
       subst ev
       subst hn
       obtain⟨A,hA,hl,hr⟩:=Sj xs _ _ _ _ hrows hk
       rw[List.drop_drop] at hl hr
       refine⟨_,.pf (f xs[q.toNat]),fun _=>WI hu hinf h0 h1,?_,trivial,h⟩
       simp only[Ad,Am]
       refine⟨AW,b,off+q.toNat*sz,arr,ty,fr,_,(arr.toList.drop (off+q.toNat*sz)).drop sz,A,?_,hz,hbk,(List.take_append_drop _ _).symm,hr,fun b hb=>hA b hb⟩
       rw[hsz];exact congrArg (fun a=>Value.pointer (some a)) (GK b off _)
    ·exact h.elim
   ·rename_i id
    split at h
    ·rename_i i' sz α f xs ho
     split at h
     ·rename_i hb
      have hb:=Nat.eq_of_beq_eq_true hb
      subst hb
      obtain⟨⟨h0,h1⟩,h⟩:=h
      have hlt:q.toNat<xs.length:=by omega
      obtain⟨A,hA,hio,hr⟩:=EC regs vs S _ hR ho
      simp only[Ad] at hx
      simp only[Ad,Am] at hr
      obtain⟨_,a,n',c,ev,hn,hc,hr⟩:=hr
      rcases hr with⟨_,hr⟩|⟨ho,_⟩
      ·rcases hr with⟨ha,hc0,_⟩|⟨b,boff,arr,ty,S1,ha,hbk,hsz2,hrows,hj⟩
       ·omega
       ·subst ha
        subst hn
        rw[hx.1,ev]
        refine⟨_,.po id q.toNat sz 0,fun _=>WI hu hinf h0 h1,?_,hxi,h⟩
        simp only[Ad]
        refine⟨?_,AW⟩
        rw[ev,hsz]
        simp only[EM,Nat.add_zero]
        exact congrArg (fun a=>Value.pointer (some a)) (GK b boff _)
      ·cases ho
     ·exact h.elim
    ·exact h.elim
   ·exact h.elim
  ·split at h
   ·rename_i len es hae
    obtain⟨e,inf,hu,hinf,hsz⟩:=a4t hae
    split at h
    ·rename_i id
     split at h
     ·rename_i i' c ho
      obtain⟨⟨h0,h1⟩,h⟩:=h
      obtain⟨A,hA,hi',hr⟩:=EC regs vs S _ hR ho
      simp only[Ad] at hr hx
      obtain⟨_,b,arr,ty,S1,e0,_⟩:=hr
      rw[hx.1,e0]
      refine⟨_,.po id 0 0 (q.toNat*es),fun w'=>Sr hu hinf h0 h1,?_,hxi,h⟩
      simp only[Ad]
      refine⟨?_,AW⟩
      rw[e0,hsz]
      have:=GK b 0 (q.toNat*es)
      unfold ad at this
      rw[this];simp [EM]
     ·exact h.elim
    ·rename_i id kk sz o
     obtain⟨⟨h0,h1⟩,h⟩:=h
     simp only[Ad] at hx
     rw[hx.1]
     refine⟨_,.po id kk sz (o+q.toNat*es),fun w'=>Sr hu hinf h0 h1,?_,hxi,h⟩
     simp only[Ad]
     refine⟨?_,AW⟩
     have:=GK (EM (η id)).block ((EM (η id)).off+(kk*sz+o)) (q.toNat*es)
     unfold ad at this
     rw[hsz,this];congr 3;omega
    ·rename_i c
     obtain⟨⟨h0,h1⟩,h⟩:=h
     simp only[Ad,Am] at hx
     obtain⟨_,b,off,arr,ty,fr,cs,rest,S1,e2,hz,hb,hd,hr,hS1⟩:=hx
     subst e2
     refine⟨_,.pf (c.drop (q.toNat*es)),fun w'=>Sr hu hinf h0 h1,?_,trivial,h⟩
     simp only[Ad,Am]
     refine⟨AW,b,off+q.toNat*es,arr,ty,fr,cs.drop (q.toNat*es),(cs++rest).drop (max cs.length (q.toNat*es)),S1,?_,hz,hb,?_,Sp _ _ _ _ hr hS1,hS1⟩
     ·rw[hsz];exact congrArg (fun a=>Value.pointer (some a)) (GK b off (q.toNat*es))
     ·rw[←List.drop_drop,hd]
      rcases Nat.le_total (q.toNat*es) cs.length with hle|hle
      ·rw[Nat.max_eq_left hle,List.drop_append_of_le_length hle];simp
      ·rw[Nat.max_eq_right hle,List.drop_eq_nil_of_le hle];simp
    ·exact h.elim
   ·exact h.elim
 ·exact h.elim
theorem a4u{P:Program}{regs:List AV}{t:TypeId}{x i:AV}{K:AV→Prop}(h:OZ P regs t x i K){Z:FP}{η:Nat→Value}{w:World}{n:Nat}
 {vs:List Value} {S:FP} {xv iv:Value} (hR:Aq Z η w regs vs S) (hI:AX n regs) (hx:Ad Z η w x xv (fun _=>False)) (hxi:AP n x)
 (hi:Ad Z η w i iv (fun _=>False)):POk P Z η w n (Instr.indexAt t xv iv) K:=by
 obtain⟨v,r,h1,h2,h3,h4⟩:=WJ h hR hI hx hxi hi
 exact⟨v,r,fun w' _=>h1 w',h2,h3,h4⟩
def Nr:List AV→Option (List (List UInt8))
 |[]=>some []
 |a::azs=>match a with
  | .str l=>match Nr azs with
    |some ls=>some (l::ls)
    |none=>none
  |_=>none
theorem WK{Z:FP}{η:Nat→Value}{w:World}:∀(azs:List AV) (vs:List Value) (S:FP) (ls:List (List UInt8)),Nr azs=some ls→Aq Z η w azs vs S→vs=ls.map fun l=>Value.string ⟨l.toArray⟩
 |[],vs,S,ls,h,hr=>by
  simp only[Nr,Option.some.injEq] at h;subst h
  simp only[Aq] at hr;exact hr.1
 |a::azs,vs,S,ls,h,hr=>by
  unfold Nr at h
  split at h
  ·rename_i l
   split at h
   ·rename_i ls' hs
    simp only[Option.some.injEq] at h;subst h
    simp only[Aq] at hr
    obtain⟨v,cs',A,B,e,hj,h1,h2⟩:=hr
    simp only[Ad,Am] at h1
    rw[e,h1.1,WK azs cs' B ls' hs h2];rfl
   ·cases h
  ·cases h
def Ss(P:Program)(t:TypeId)(x i:AV)(K:AV→Prop):Prop:=
 match i with
 | .int _ n=>match x with
   | .str l=>match P.underlying t with
     |some .string=>(0≤n∧n<(l.length:Int))∧∀c,l[n.toNat]? =some c→K (.int .u8 c.toNat)
     |_=>False
   | .agg cs=>match P.underlying t with
     |some (.array len e)=>match P.underlying e,P.info? e with
      |some d,some i=>match Ks d,Nat.beq i.size 1,Nr cs with
       |false,true,some ls=>match Nat.beq ls.length len with
        |true=>(0≤n∧n<(len:Int))∧∀l,ls[n.toNat]? =some l→K (.str l)
        |false=>False
       |_,_,_=>False
      |_,_=>False
     |_=>False
   |_=>False
 |_=>False
theorem a4v{P:Program}{t:TypeId}{x i:AV}{K:AV→Prop}(h:Ss P t x i K){Z:FP}{η:Nat→Value}{w:World}{n:Nat}{xv iv:Value}
 (hx:Ad Z η w x xv (fun _=>False)) (hi:Ad Z η w i iv (fun _=>False)):POk P Z η w n (Instr.index t xv iv) K:=by
 unfold Ss at h
 split at h
 ·rename_i k q
  simp only[Ad,Am] at hi
  rw[hi.1]
  split at h
  ·rename_i l
   split at h
   ·rename_i hu
    simp only[Ad,Am] at hx
    rw[hx.1]
    obtain⟨⟨h0,h1⟩,h⟩:=h
    have hlt:q.toNat<l.length:=by omega
    have hk:l[q.toNat]? =some l[q.toNat]:=by simp
    refine⟨.int .u8 l[q.toNat].toNat,.int .u8 l[q.toNat].toNat,fun w _=> ?_,⟨rfl,AW⟩,trivial,h _ hk⟩
    unfold Instr.index asIntOf
    rw[AU (Cc P _ w)]
    simp only[]
    rw[AU (Dc hu w)]
    simp only[]
    have e:(if 0≤q then(ByteArray.mk l.toArray)[q.toNat]? else none)=some l[q.toNat]:=by
     rw[if_pos h0]
     have:q.toNat<(ByteArray.mk l.toArray).size:=by simpa [ByteArray.size] using hlt
     rw[getElem?_pos (ByteArray.mk l.toArray) q.toNat this]
     rfl
    rw[e];rfl
   ·exact h.elim
  ·rename_i cs
   split at h
   ·rename_i len e hu
    split at h
    ·rename_i d i hud hinf
     split at h
     ·rename_i ls hagg hsz hls
      split at h
      ·rename_i hlen
       have hlen:=Nat.eq_of_beq_eq_true hlen
       have hsz:=Nat.eq_of_beq_eq_true hsz
       obtain⟨⟨h0,h1⟩,h⟩:=h
       simp only[Ad] at hx
       obtain⟨vs,e0,hr⟩:=hx
       subst e0
       have hvs:=WK cs vs _ ls hls hr
       have hlt:q.toNat<ls.length:=by omega
       have hk:ls[q.toNat]? =some ls[q.toNat]:=by simp
       refine⟨.string ⟨ls[q.toNat].toArray⟩,.str ls[q.toNat],fun w _=> ?_,⟨rfl,AW⟩,trivial,h _ hk⟩
       unfold Instr.index asIntOf
       rw[AU (Cc P _ w)]
       simp only[]
       rw[AU (Dc hu w)]
       simp only[h0,h1,and_self,if_true]
       rw[AU (FQ hinf w)]
       unfold part
       rw[AU (Kt hud w),hagg]
       simp only[Bool.false_eq_true,if_false]
       have:vs.toArray[q.toNat*i.size]? =some (.string ⟨ls[q.toNat].toArray⟩):=by rw[hvs,hsz];simp [hlt]
       rw[this];rfl
      ·exact h.elim
     ·exact h.elim
    ·exact h.elim
   ·exact h.elim
  ·exact h.elim
 ·exact h.elim
def GN(d:Int):Option AV→Option Int
 |none=>some d
 |some (.int _ n)=>some n
 |_=>none
def Ns{α:Type}(lo hi:Bool)(p q:Int)(l:List α):List α:=match lo,hi with
 |false,false=>l
 |false,true=>l.take q.toNat
 |true,false=>l.drop p.toNat
 |true,true=>(l.take q.toNat).drop p.toNat
theorem Su{α:Type}{lo hi:Option AV}{p q:Int}{l:List α}(hp:GN 0 lo=some p)(hq:GN l.length hi=some q):
 Ns lo.isSome hi.isSome p q l=(l.take q.toNat).drop p.toNat:=by
 have h1:lo=none→p=0:=fun h=>by subst h;simp [GN] at hp;exact hp.symm
 have h2:hi=none→q=l.length:=fun h=>by subst h;simp [GN] at hq;exact hq.symm
 cases lo<;>cases hi<;>simp only[Ns,Option.isSome]
 ·rw[h1 rfl,h2 rfl];simp
 ·rw[h1 rfl];simp
 ·rw[h2 rfl];simp
def Sv(P:Program)(t:TypeId)(x:AV)(lo hi:Option AV)(K:AV→Prop):Prop:=
 match x with
 | .str l=>match P.underlying t with
   |some .string=>match GN 0 lo,GN l.length hi with
    |some p,some q=>(0≤p∧p≤q∧q≤(l.length:Int))∧K (.str (Ns lo.isSome hi.isSome p q l))
    |_,_=>False
   |_=>False
 | .sl false _ sz α f xs=>match JC P t with
   |some (_,es)=>match Nat.beq sz es with
    |true=>match GN 0 lo,GN xs.length hi with
     |some p,some q=>(0≤p∧p≤q∧q≤(xs.length:Int))∧K (.sl false 0 sz α f (Ns lo.isSome hi.isSome p q xs))
     |_,_=>False
    |false=>False
   |none=>False
 |_=>False
theorem Sw{P:Program}{w:World}{isS:Bool}{len cap:Nat}{lo hi:Option Value}{p q:Int}(hc:len≤cap)(hp:0≤p)(hpq:p≤q)(hq:q≤(len:Int))
 (hlo:lo=none∧p=0∨∃k,lo=some (.int k p)) (hhi:hi=none∧q=len∨∃k,hi=some (.int k q)):
 (Instr.sliceBounds isS len cap lo hi none).run P w= .ok (p.toNat,q.toNat,cap) w:=by
 unfold Instr.sliceBounds
 simp only[]
 rw[AU (Cc P _ w)]
 have h1:∀(y:Nat) (code:BoundsCode) (k:IntKind) (z:Int),0≤z→z≤(y:Int)→(Instr.sliceBound (.int k z) y code).run P w= .ok z.toNat w:=by
  intro y code k z h0 h1
  unfold Instr.sliceBound asIntOf
  rw[AU (Cc P _ w)]
  simp only[h0,h1,and_self,if_true];rfl
 rcases hhi with⟨rfl,rfl⟩|⟨k,rfl⟩
 ·simp only[]
  rw[AU (Cc P _ w)]
  rcases hlo with⟨rfl,rfl⟩|⟨k',rfl⟩
  ·simp only[]
   rw[AU (Cc P _ w)];simp [Cc]
  ·simp only[]
   rw[AU (h1 _ _ _ _ hp hpq)];simp [Cc]
 ·simp only[]
  rw[AU (h1 _ _ _ _ (by omega) (by omega))]
  rcases hlo with⟨rfl,rfl⟩|⟨k',rfl⟩
  ·simp only[]
   rw[AU (Cc P _ w)];simp [Cc]
  ·simp only[]
   rw[AU (h1 _ _ _ _ hp (by omega))];simp [Cc]
theorem LW{d:Int}{lo:Option AV}{p:Int}(h:GN d lo=some p){Z:FP}{η:Nat→Value}{w:World}{lov:Option Value}
 (hr:∀a,lo=some a→∃v,lov=some v∧Ad Z η w a v (fun _=>False)) (hn:lo=none→lov=none):lov=none∧p=d∨∃k,lov=some (.int k p):=by
 unfold GN at h
 split at h
 ·simp only[Option.some.injEq] at h;exact .inl ⟨hn rfl,h.symm⟩
 ·rename_i k n
  simp only[Option.some.injEq] at h;subst h
  obtain⟨v,hv,hr⟩:=hr _ rfl
  simp only[Ad,Am] at hr
  exact .inr ⟨k,by rw[hv,hr.1]⟩
 ·cases h
theorem Sx{α:Type}{sz:Nat}{R:α→List Value→FP→Prop}:∀(k:Nat) (xs:List α) (cs:List Value) (S:FP),Rows sz R xs cs S→∃S',(∀b,S' b→S b)∧Rows sz R (xs.drop k) (cs.drop (k*sz)) S'
 |0,xs,cs,S,h=>⟨S,fun _ h=>h,by simpa using h⟩
 |k+1,[],cs,S,h=>⟨S,fun _ h=>h,by simpa [Rows] using h⟩
 |k+1,x::xs,cs,S,h=>by
  obtain⟨A,B,hj,hl,h1,h2⟩:=h
  obtain⟨S',hs,hr⟩:=Sx k xs (cs.drop sz) B h2
  rw[List.drop_drop] at hr
  have e:(k+1)*sz=sz+k*sz:=by rw[Nat.succ_mul];omega
  rw[e]
  exact⟨S',fun b hb=>(hj.1 b).2 (.inr (hs b hb)),by simpa using hr⟩
theorem Sy{α:Type}{sz:Nat}{R:α→List Value→FP→Prop}:∀(k:Nat) (xs:List α) (cs:List Value) (S:FP),Rows sz R xs cs S→∃S',(∀b,S' b→S b)∧Rows sz R (xs.take k) cs S'
 |0,xs,cs,S,h=>⟨fun _=>False,fun _ h=>h.elim,by simp [Rows,emp]⟩
 |k+1,[],cs,S,h=>⟨S,fun _ h=>h,by simpa [Rows] using h⟩
 |k+1,x::xs,cs,S,h=>by
  obtain⟨A,B,hj,hl,h1,h2⟩:=h
  obtain⟨S',hs,hr⟩:=Sy k xs (cs.drop sz) B h2
  exact⟨fun b=>A b∨S' b,fun b hb=>(hj.1 b).2 (hb.imp id (hs b)),A,S',⟨fun _=>Iff.rfl,fun b x y=>hj.2 b x (hs b y)⟩,hl,h1,hr⟩
theorem a4w{P:Program}{t:TypeId}{x:AV}{lo hi:Option AV}{K:AV→Prop}(h:Sv P t x lo hi K){Z:FP}{η:Nat→Value}{w:World}{n:Nat}{xv:Value}
 {lov hiv:Option Value} (hx:Ad Z η w x xv (fun _=>False))
 (hlo:∀a,lo=some a→∃v,lov=some v∧Ad Z η w a v (fun _=>False)) (hlon:lo=none→lov=none)
 (hhi:∀a,hi=some a→∃v,hiv=some v∧Ad Z η w a v (fun _=>False)) (hhin:hi=none→hiv=none):POk P Z η w n (Instr.sliceAt t xv lov hiv none) K:=by
 unfold Sv at h
 split at h
 ·rename_i l
  split at h
  ·rename_i hu
   split at h
   ·rename_i p q hp hq
    obtain⟨⟨h0,h1,h2⟩,h⟩:=h
    rw[Su hp hq] at h
    simp only[Ad,Am] at hx
    rw[hx.1]
    refine⟨.string ⟨((l.take q.toNat).drop p.toNat).toArray⟩,.str ((l.take q.toNat).drop p.toNat),fun w2 _=> ?_,⟨rfl,AW⟩,trivial,h⟩
    unfold Instr.sliceAt Instr.slice
    rw[AU (Dc hu w2)]
    simp only[]
    rw[AU (Dc hu w2)]
    simp only[Option.isSome_none,Bool.false_eq_true,if_false]
    have hs:(ByteArray.mk l.toArray).size=l.length:=by simp [ByteArray.size]
    rw[hs]
    rw[AU (Sw (Nat.le_refl _) h0 h1 h2 (LW hp hlo hlon) (LW hq hhi hhin))]
    simp only[Cc]
    congr 2
    apply ByteArray.ext
    apply Array.ext'
    simp [List.drop_take]
   ·exact h.elim
  ·exact h.elim
 ·rename_i i' sz α f xs
  split at h
  ·rename_i e es he
   obtain⟨hu,inf,hinf,hsz⟩:=LV he
   split at h
   ·rename_i hb
    have hb:=Nat.eq_of_beq_eq_true hb
    subst hb
    split at h
    ·rename_i p q hp hq
     obtain⟨⟨h0,h1,h2⟩,h⟩:=h
     rw[Su hp hq] at h
     simp only[Ad,Am] at hx
     obtain⟨_,a,n',c,ev,hn,hc,hr⟩:=hx
     subst ev
     subst hn
     refine⟨.slice (if c=p.toNat then a else a.map (·.add (p.toNat*sz))) (q.toNat-p.toNat) (c-p.toNat),_,fun w2 _=> ?_,?_,?_,h⟩
     ·unfold Instr.sliceAt Instr.slice
      rw[AU (Dc hu w2)]
      simp only[]
      rw[AU (Dc hu w2)]
      simp only[]
      rw[AU (Sw hc h0 h1 h2 (LW hp hlo hlon) (LW hq hhi hhin))]
      simp only[]
      rw[AU (FQ hinf w2),hsz];rfl
     ·simp only[Ad,Am]
      refine⟨(fun o=>by cases o),_,_,_,rfl,?_,by omega,.inr ⟨trivial,AW,?_⟩⟩
      ·simp;omega
      ·rcases hr with⟨ho,_⟩|⟨_,_,hr⟩
       ·cases ho
       ·rcases hr with hr|⟨b,off,arr,ty,fr,ha,hz,hbk,hrows⟩
        ·subst hr;exact .inl (by simp)
        ·by_cases hcp:c=p.toNat
         ·refine .inl ?_
          apply List.drop_eq_nil_of_le
          simp;omega
         ·rw[if_neg hcp]
          subst ha
          refine .inr ⟨b,off+p.toNat*sz,arr,ty,fr,congrArg some (GK b off _),hz,hbk,?_⟩
          obtain⟨S1,hs1,hr1⟩:=Sy q.toNat xs _ _ hrows
          obtain⟨S2,hs2,hr2⟩:=Sx p.toNat _ _ _ hr1
          rw[List.drop_drop] at hr2
          have:S2=fun _=>False:=EA (fun b hb=>hs1 b (hs2 b hb))
          rwa [this] at hr2
     ·simp only[AP];intro o;cases o
    ·exact h.elim
   ·exact h.elim
  ·exact h.elim
 ·exact h.elim
end Go.Eng
end
section
set_option linter.unusedVariables false
set_option linter.unusedSimpArgs false
namespace Go.Eng
def LX:UInt8→List AV:=fun c=>[.int .u8 c.toNat]
theorem WM{Z:FP}{w:World}:∀(l:List UInt8) (cs:List Value) (S:FP),Rows 1 (fun x cs A=>AZ Z w (LX x) cs A) l cs S→
 ∃rest,cs=(l.map fun c=>Value.int .u8 c.toNat)++rest
 |[],cs,S,h=>⟨cs,rfl⟩
 |c::l,cs,S,h=>by
  obtain⟨A,B,hj,hl,h1,h2⟩:=h
  obtain⟨rest,hr⟩:=WM l _ B h2
  simp only[LX,AZ] at h1
  obtain⟨v,cs',A1,A2,e,hj1,h3,h4,h5⟩:=h1
  simp only[Am] at h3
  refine⟨rest,?_⟩
  have:cs=cs.take 1++cs.drop 1:=(List.take_append_drop 1 cs).symm
  rw[this,e,h3.1,h4,hr];rfl
theorem WN:∀(l:List UInt8) (r:ByteArray),(l.map fun c=>((c.toNat:Nat):Int)).foldl (fun r n=>r.push (UInt8.ofNat n.toNat)) r=⟨r.data++l.toArray⟩
 |[],r=>by simp
 |c::l,r=>by
  simp only[List.map_cons,List.foldl_cons]
  rw[WN l]
  apply ByteArray.ext
  simp [ByteArray.push]
theorem WO{P:Program}{Z:FP}{w w':World}(hw:Sees w w'){own:Bool}{id:Nat}{l:List UInt8}{v:Value}{S:FP}(h:Am Z w (.sl own id 1 UInt8 LX l) v S):
 ∃a n c,v= .slice a n c∧(Conv.bytesToString v).run P w'= .ok (.string ⟨l.toArray⟩) w':=by
 simp only[Am] at h
 obtain⟨a,n,c,hv,hn,hc,h⟩:=h
 refine⟨a,n,c,hv,?_⟩
 subst hv
 have some_case:∀b off arr ty fr S1,a=some ⟨b,off,none⟩→w.heap[b]? =some (.cells arr ty fr)→Rows 1 (fun x cs A=>AZ Z w (LX x) cs A) l (arr.toList.drop off) S1→
  (Conv.bytesToString (.slice a n c)).run P w'= .ok (.string ⟨l.toArray⟩) w':=by
  intro b off arr ty fr S1 ha hb hr
  obtain⟨rest,hd⟩:=WM l _ _ hr
  subst ha
  have hl:=Sf (P:=P) (hw.blk hb) hd
  rw[List.length_map,←hn] at hl
  have:=run_bytesToString (P:=P) w' ⟨b,off,none⟩ n c (l.map fun c=>((c.toNat:Nat):Int)) (by rw[List.map_map];exact hl)
  rw[this,WN]
  congr 2
  apply ByteArray.ext
  simp
 have nil_case:l=[]→(Conv.bytesToString (.slice a n c)).run P w'= .ok (.string ⟨l.toArray⟩) w':=by
  intro hl
  subst hl
  simp at hn
  subst hn
  cases a with
  |none=>rfl
  |some ad=>
   have:=run_bytesToString (P:=P) w' ad 0 c [] (by simp [loadCells,loadCellsFrom])
   rw[this];rfl
 rcases h with⟨_,h⟩|⟨_,_,h⟩
 ·rcases h with⟨_,h0,_⟩|⟨b,off,arr,ty,S1,ha,hb,hsz,hr,hj⟩
  ·exact nil_case (List.length_eq_zero_iff.1 (by omega))
  ·exact some_case b off arr ty (0,0) S1 ha hb hr
 ·rcases h with h|⟨b,off,arr,ty,fr,ha,hz,hb,hr⟩
  ·exact nil_case h
  ·exact some_case b off arr ty fr S ha hb hr
end Go.Eng
end
section
set_option linter.unusedVariables false
set_option linter.unusedSimpArgs false
namespace Go.Eng
def Aa(b:Bool)(p q:Prop):Prop:=match b with
 |true=>p
 |false=>q
def Sz(P:Program)(t:TypeId)(x:AV)(f:Nat)(K:AV→Prop):Prop:=
 match x with
 | .agg cs=>match P.underlying t with
   |some (.struct fs)=>match fs[f]? with
    |some fd=>match P.underlying fd.type,P.info? fd.type with
     |some d,some i=>match Ks d with
      |true=>K (.agg ((cs.drop fd.offset).take i.size))
      |false=>match cs[fd.offset]? with
       |some a=>K a
       |none=>False
     |_,_=>False
    |none=>False
   |_=>False
 |_=>False
theorem WP{Z:FP}{η:Nat→Value}{w:World}{azs:List AV}{cs:List Value}(h:Aq Z η w azs cs (fun _=>False)){i:Nat}{a:AV}(ha:azs[i]? =some a):
 ∃v,cs[i]? =some v∧Ad Z η w a v (fun _=>False):=by
 obtain⟨v,A,B,hv,hr,hj,_⟩:=Hm azs cs _ i a h ha
 have hA:=(HX hj AW).1
 rw[EA hA] at hr
 exact⟨v,hv,hr⟩
theorem a4x{P:Program}{t:TypeId}{x:AV}{f:Nat}{K:AV→Prop}(h:Sz P t x f K){Z:FP}{η:Nat→Value}{w:World}{n:Nat}{xv:Value}
 (hx:Ad Z η w x xv (fun _=>False)) (hi:AP n x):POk P Z η w n (Instr.field t xv f) K:=by
 unfold Sz at h
 split at h
 ·rename_i cs
  simp only[Ad] at hx
  obtain⟨vs,e,hr⟩:=hx
  subst e
  simp only[AP] at hi
  split at h
  ·rename_i fs hu
   split at h
   ·rename_i fd hfd
    split at h
    ·rename_i d i hud hinf
     have hrun:∀v w,(part fd.type vs.toArray fd.offset).run P w= .ok v w→(Instr.field t (.agg vs.toArray) f).run P w= .ok v w:=by
      intro v w hv
      unfold Instr.field
      rw[AU (Dc hu w)]
      simp only[hfd,asAgg]
      rw[AU (Cc P _ w)]
      exact hv
     split at h
     ·rename_i hagg
      refine⟨.agg ((vs.drop fd.offset).take i.size).toArray,_,fun w _=>hrun _ w ?_,?_,?_,h⟩
      ·unfold part
       rw[AU (Kt hud w),hagg]
       simp only[if_true]
       rw[AU (FQ hinf w)]
       simp only[Cc]
       congr 2
       apply Array.ext'
       simp [List.drop_take]
      ·simp only[Ad];exact⟨_,rfl,No _ _ _ (Nn _ _ _ hr)⟩
      ·simp only[AP];exact LP _ _ (Jx _ _ hi)
     ·rename_i hagg
      split at h
      ·rename_i a ha
       obtain⟨v,hv,hrv⟩:=WP hr ha
       refine⟨v,a,fun w _=>hrun _ w ?_,hrv,OO _ _ _ hi ha,h⟩
       unfold part
       rw[AU (Kt hud w),hagg]
       simp only[Bool.false_eq_true,if_false]
       have:vs.toArray[fd.offset]? =some v:=by simpa using hv
       rw[this];rfl
      ·exact h.elim
    ·exact h.elim
   ·exact h.elim
  ·exact h.elim
 ·exact h.elim
def SA(x:AV)(i:Nat)(K:AV→Prop):Prop:=
 match x with
 | .tup vs=>match vs[i]? with
   |some a=>K a
   |none=>False
 |_=>False
theorem a4y{P:Program}{x:AV}{i:Nat}{K:AV→Prop}(h:SA x i K){Z:FP}{η:Nat→Value}{w:World}{n:Nat}{xv:Value}
 (hx:Ad Z η w x xv (fun _=>False)) (hi:AP n x):POk P Z η w n (Instr.extract xv i) K:=by
 unfold SA at h
 split at h
 ·rename_i vs
  simp only[Ad] at hx
  obtain⟨cs,e,hr⟩:=hx
  subst e
  simp only[AP] at hi
  split at h
  ·rename_i a ha
   obtain⟨v,hv,hrv⟩:=WP hr ha
   refine⟨v,a,fun _ _=> ?_,hrv,OO _ _ _ hi ha,h⟩
   unfold Instr.extract
   have:cs.toArray[i]? =some v:=by simpa using hv
   simp only[this];rfl
  ·exact h.elim
 ·exact h.elim
def Pa(P:Program)(s d:TypeId){α:Type}(sz:Nat)(f:α→List AV)(xs:List α)(K:AV→Prop):Prop:=
 match P.underlying s,P.underlying d with
 |some (.slice e),some .string=>match P.underlying e with
  |some (.int .u8)=>∃l:List UInt8,AV.sl false 0 sz α f xs=AV.sl false 0 1 UInt8 LX l∧K (.str l)
  |_=>False
 |_,_=>False
def SB(P:Program)(ov:Bool)(regs:List AV)(s d:TypeId)(x:AV)(K:AV→Prop):Prop:=
 match x with
 | .int _ n=>match P.underlying s,P.underlying d with
   |some (.int _),some (.int k)=>Ku ov k n K
   |_,_=>False
 | .str l=>match P.underlying s,P.underlying d with
   |some .string,some .string=>K (.str l)
   |_,_=>False
 | .sl false _ sz α f xs=>Pa P s d sz f xs K
 | .al id=>match DG id regs with
   |some (.sl true _ sz α f xs)=>Pa P s d sz f xs K
   |_=>False
 |_=>False
theorem WQ{P:Program}{s d:TypeId}{α:Type}{sz:Nat}{f:α→List AV}{xs:List α}{K:AV→Prop}(h:Pa P s d sz f xs K){Z:FP}{η:Nat→Value}{w:World}{n:Nat}{xv:Value}
 {own:Bool} {id:Nat} {S:FP} (hx:Am Z w (.sl own id sz α f xs) xv S):POk P Z η w n (convert s d xv) K:=by
 unfold Pa at h
 split at h
 ·rename_i e hs hd
  split at h
  ·rename_i he
   obtain⟨l,hl,hk⟩:=h
   have hx':Am Z w (.sl own id 1 UInt8 LX l) xv S:=by
    injection hl with _ _ h1 h2 h3 h4
    subst h1;subst h2
    have h3:=eq_of_heq h3;have h4:=eq_of_heq h4
    subst h3;subst h4
    exact hx
   obtain⟨a,m,c,rfl,_⟩:=WO (P:=P) (Sees.refl w) hx'
   refine⟨_,.str l,fun w2 hw2=> ?_,⟨rfl,AW⟩,trivial,hk⟩
   rw[run_convert_bytes_string w2 s d e a m c hs he hd]
   obtain⟨_,_,_,_,hr⟩:=WO (P:=P) hw2 hx'
   exact hr
  ·exact h.elim
 ·exact h.elim
theorem a4z{P:Program}{ov:Bool}{regs:List AV}{s d:TypeId}{x:AV}{K:AV→Prop}(h:SB P ov regs s d x K){Z:FP}{η:Nat→Value}{w:World}{n:Nat}{xv:Value}
 {vs:List Value} {S:FP} (hR:Aq Z η w regs vs S) (hx:Ad Z η w x xv (fun _=>False)):POk P Z η w n (convert s d xv) K:=by
 unfold SB at h
 split at h
 ·rename_i k0 m
  simp only[Ad,Am] at hx
  rw[hx.1]
  split at h
  ·rename_i k1 k hs hd
   refine⟨_,.int k (k.wrap m),fun w _=> ?_,⟨rfl,AW⟩,trivial,LQ h⟩
   unfold convert
   rw[AU (Dc hs w),AU (Dc hd w)];rfl
  ·exact h.elim
 ·rename_i l
  simp only[Ad,Am] at hx
  rw[hx.1]
  split at h
  ·rename_i hs hd
   refine⟨_,.str l,fun w _=> ?_,⟨rfl,AW⟩,trivial,h⟩
   unfold convert
   rw[AU (Dc hs w),AU (Dc hd w)];rfl
  ·exact h.elim
 ·rename_i i sz α f xs
  simp only[Ad] at hx
  exact WQ h hx.2
 ·rename_i id
  split at h
  ·rename_i j sz α f xs ho
   obtain⟨A,hA,hio,hr⟩:=EC regs vs S _ hR ho
   simp only[Ad] at hx hr
   rw[hx.1]
   exact WQ h hr.2
  ·exact h.elim
 ·exact h.elim
def Pb(P:Program)(regs:List AV)(t:Option TypeId)(x:AV)(K:AV→Prop):Prop:=
 match t with
 |some t=>match P.underlying t with
  |some .string=>match x with
   | .str l=>K (.int .i64 l.length)
   |_=>False
  |some (.slice _)=>match x with
   | .sl _ _ _ _ _ xs=>K (.int .i64 xs.length)
   | .nil=>K (.int .i64 0)
   | .al id=>match DG id regs with
     |some (.sl true _ _ _ _ xs)=>K (.int .i64 xs.length)
     |_=>False
   |_=>False
  |_=>False
 |none=>False
def LY:TypeDesc→Value→Option Value
 | .string,.string s=>some (goInt s.size)
 | .slice _,.slice _ m _=>some (goInt m)
 |_,_=>none
theorem Pc{P:Program}{ts:Array TypeId}{ty t:TypeId}{d:TypeDesc}{x v:Value}{w:World}(ht:ts[0]? =some t)(hu:P.underlying t=some d)
 (hv:LY d x=some v):(Builtin.len_ ts ty #[x]).run P w= .ok v w:=by
 unfold Builtin.len_
 simp only[ht]
 have:(#[x]:Array Value)[0]? =some x:=rfl
 simp only[this]
 rw[AU (Dc hu w)]
 unfold LY at hv
 split at hv<;>simp_all [Cc]
theorem WR{P:Program}{regs:List AV}{ts:Array TypeId}{ty:TypeId}{x:AV}{K:AV→Prop}(h:Pb P regs ts[0]? x K){Z:FP}{η:Nat→Value}{w:World}{n:Nat}
 {vs:List Value} {S:FP} {xv:Value} (hR:Aq Z η w regs vs S) (hx:Ad Z η w x xv (fun _=>False)):
 ∃v r,(∀w',(Builtin.len_ ts ty #[xv]).run P w'= .ok v w')∧Ad Z η w r v (fun _=>False)∧AP n r∧K r:=by
 unfold Pb at h
 split at h
 ·rename_i t ht
  split at h
  ·rename_i hu
   split at h
   ·rename_i l
    simp only[Ad,Am] at hx
    refine⟨.int .i64 l.length,.int .i64 l.length,fun _=>Pc ht hu ?_,⟨rfl,AW⟩,trivial,h⟩
    rw[hx.1];simp [LY,goInt,ByteArray.size]
   ·exact h.elim
  ·rename_i e hu
   split at h
   ·rename_i own id sz α f xs
    simp only[Ad,Am] at hx
    obtain⟨_,a,n',c,ev,hn,_⟩:=hx
    refine⟨.int .i64 xs.length,.int .i64 xs.length,fun _=>Pc ht hu ?_,⟨rfl,AW⟩,trivial,h⟩
    rw[ev,hn];simp [LY,goInt]
   ·simp only[Ad,Am] at hx
    refine⟨.int .i64 0,.int .i64 0,fun _=>Pc ht hu ?_,⟨rfl,AW⟩,trivial,h⟩
    rw[hx.1];simp [LY,goInt]
   ·rename_i id
    split at h
    ·rename_i i' sz α f xs ho
     obtain⟨A,hA,hio,hr⟩:=EC regs vs S _ hR ho
     simp only[Ad] at hx
     simp only[Ad,Am] at hr
     obtain⟨_,a,n',c,ev,hn,_⟩:=hr
     refine⟨.int .i64 xs.length,.int .i64 xs.length,fun _=>Pc ht hu ?_,⟨rfl,AW⟩,trivial,h⟩
     rw[hx.1,ev,hn];simp [LY,goInt]
    ·exact h.elim
   ·exact h.elim
  ·exact h.elim
 ·exact h.elim
theorem a4A{P:Program}{regs:List AV}{ts:Array TypeId}{ty:TypeId}{x:AV}{K:AV→Prop}(h:Pb P regs ts[0]? x K){Z:FP}{η:Nat→Value}{w:World}{n:Nat}
 {vs:List Value} {S:FP} {xv:Value} (hR:Aq Z η w regs vs S) (hx:Ad Z η w x xv (fun _=>False)):POk P Z η w n (Builtin.len_ ts ty #[xv]) K:=by
 obtain⟨v,r,h1,h2,h3,h4⟩:=WR (n:=n) h hR hx
 exact⟨v,r,fun w' _=>h1 w',h2,h3,h4⟩
def SC(x y:AV)(K:AV→Prop):Prop:=
 match x,y with
 | .int k a,.int _ b=>K (.int k (min a b))
 |_,_=>False
def SD(x y:AV)(K:AV→Prop):Prop:=
 match x,y with
 | .int k a,.int _ b=>K (.int k (max a b))
 |_,_=>False
theorem a4B{P:Program}{ts:Array TypeId}{ty:TypeId}{x y:AV}{K:AV→Prop}(h:SC x y K){Z:FP}{η:Nat→Value}{w:World}{n:Nat}{xv yv:Value}
 (hx:Ad Z η w x xv (fun _=>False)) (hy:Ad Z η w y yv (fun _=>False)):POk P Z η w n (Builtin.min_ ts ty #[xv,yv]) K:=by
 unfold SC at h
 split at h
 ·rename_i k a k' b
  simp only[Ad,Am] at hx hy
  rw[hx.1,hy.1]
  refine⟨.int k (min a b),.int k (min a b),fun _ _=> ?_,⟨rfl,AW⟩,trivial,h⟩
  have:(if b<a then b else a)=min a b:=by rw[Int.min_def];split<;>split<;>omega
  simp [Builtin.min_,Builtin.min2,this]
 ·exact h.elim
theorem a4C{P:Program}{ts:Array TypeId}{ty:TypeId}{x y:AV}{K:AV→Prop}(h:SD x y K){Z:FP}{η:Nat→Value}{w:World}{n:Nat}{xv yv:Value}
 (hx:Ad Z η w x xv (fun _=>False)) (hy:Ad Z η w y yv (fun _=>False)):POk P Z η w n (Builtin.max_ ts ty #[xv,yv]) K:=by
 unfold SD at h
 split at h
 ·rename_i k a k' b
  simp only[Ad,Am] at hx hy
  rw[hx.1,hy.1]
  refine⟨.int k (max a b),.int k (max a b),fun _ _=> ?_,⟨rfl,AW⟩,trivial,h⟩
  have:(if b>a then b else a)=max a b:=by rw[Int.max_def];split<;>split<;>omega
  simp [Builtin.max_,Builtin.max2,this]
 ·exact h.elim
def SE(regs:List AV)(x:AV)(K:AV→Prop):Prop:=
 match x with
 | .al id=>match DG id regs with
   |some (.box _ _)=>K (.al id)
   |_=>False
 | .po id k sz o=>K (.po id k sz o)
 | .pf c=>K (.pf c)
 | .clo (.func f) cs=>K (.clo (.func f) cs)
 |_=>False
def EN(P:Program)(ov:Bool)(regs:List AV)(o:Op)(K:AV→Prop):Prop:=
 match o with
 | .move x=>K (Bi regs x)
 | .assign x=>K (Bi regs x)
 | .pick c x y=>match Bi regs c with
   | .bool b=>Aa b (K (Bi regs x)) (K (Bi regs y))
   |_=>False
 | .binOp op t x y _=>Sm P ov op t (Bi regs x) (Bi regs y) K
 | .unOp op _ x=>Sn op (Bi regs x) ov K
 | .load t p=>Nq P regs t (Bi regs p) K
 | .fieldAddr s x f=>OY P regs s f (Bi regs x) K
 | .indexAddr t x i=>OZ P regs t (Bi regs x) (Bi regs i) K
 | .index t x i=>Ss P t (Bi regs x) (Bi regs i) K
 | .slice t x lo hi none=>Sv P t (Bi regs x) (lo.map (Bi regs)) (hi.map (Bi regs)) K
 | .field t x f=>Sz P t (Bi regs x) f K
 | .extract x i=>SA (Bi regs x) i K
 | .nilCheck x=>SE regs (Bi regs x) K
 | .convert s d x=>SB P ov regs s d (Bi regs x) K
 | .makeFunc (.func fn) first captured=>match first.toList with
   |[]=>K (.clo (.func fn) (captured.toList.map (Bi regs)))
   |[x]=>match captured.toList with
    |[]=>K (.clo (.yield fn) [Bi regs x])
    |_=>False
   |_=>False
 | .call ⟨.builtin .len,args,ts⟩=>match args.toList with
   |[x]=>Pb P regs ts[0]? (Bi regs x) K
   |_=>False
 | .call ⟨.builtin .min,args,ts⟩=>match args.toList with
   |[x,y]=>SC (Bi regs x) (Bi regs y) K
   |_=>False
 | .call ⟨.builtin .max,args,ts⟩=>match args.toList with
   |[x,y]=>SD (Bi regs x) (Bi regs y) K
   |_=>False
 |_=>False
theorem Ib{α:Type}{a:Array α}{l:List α}(h:a.toList=l):a=l.toArray:=by rw[←h]
theorem Nt{Z:FP}{η:Nat→Value}{w:World}{regs:List AV}{a:Act}{S:FP}(hR:Aq Z η w regs a.tmps.toList S):∀l:List Operand,
 Aq Z η w (l.map (Bi regs)) (l.map a.eval) (fun _=>False)
 |[]=>by simp [Aq,emp]
 |x::l=>by
  simp only[List.map,Aq]
  exact⟨_,_,_,_,rfl,Cj _,EB hR x,Nt hR l⟩
theorem Nu{n:Nat}{regs:List AV}(h:AX n regs):∀l:List Operand,AX n (l.map (Bi regs))
 |[]=>trivial
 |x::l=>⟨GM h x,Nu h l⟩
theorem SF{P:Program}{ov:Bool}{regs:List AV}{o:Oper}{K:AV→Prop}(h:EN P ov regs o.op K){Z:FP}{η:Nat→Value}{w:World}{n:Nat}{a:Act}{S:FP}
 (hR:Aq Z η w regs a.tmps.toList S) (hI:AX n regs):
 ∃v r,(∀w',Sees w w'→(execOp a.eval o).run P w'= .ok (.value v) w')∧Ad Z η w r v (fun _=>False)∧AP n r∧K r:=by
 have lift:∀ {s:Sem Value},POk P Z η w n s K→(execOp a.eval o=do pure (.value (←s)))→
  ∃v r,(∀w',Sees w w'→(execOp a.eval o).run P w'= .ok (.value v) w')∧Ad Z η w r v (fun _=>False)∧AP n r∧K r:=by
  intro s hs he
  obtain⟨v,r,h1,h2,h3,h4⟩:=hs
  exact⟨v,r,fun w' hw'=>by rw[he];exact JB (h1 w' hw'),h2,h3,h4⟩
 have hop:=EB hR
 have hid:=GM hI
 unfold EN at h
 split at h
 all_goals rename_i heq
 ·exact⟨_,_,fun _ _=>by simp [execOp,heq],hop _,hid _,h⟩
 ·exact⟨_,_,fun _ _=>by simp [execOp,heq],hop _,hid _,h⟩
 ·rename_i c x y
  split at h
  ·rename_i b hb
   have hc:=hop c
   rw[hb] at hc
   simp only[Ad,Am] at hc
   unfold Aa at h
   cases b
   ·exact⟨a.eval y,_,fun _ _=>by simp [execOp,heq,hc.1,asBool,Fb],hop _,hid _,h⟩
   ·exact⟨a.eval x,_,fun _ _=>by simp [execOp,heq,hc.1,asBool,Fb],hop _,hid _,h⟩
  ·exact h.elim
 ·exact lift (a4p h (hop _) (hop _)) (by simp [execOp,heq];rfl)
 ·exact lift (a4q h (hop _)) (by simp [execOp,heq])
 ·exact lift (WG h hR hI (hop _)) (by simp [execOp,heq])
 ·exact lift (a4s h hR (hop _) (hid _)) (by simp [execOp,heq])
 ·exact lift (a4u h hR hI (hop _) (hid _) (hop _)) (by simp [execOp,heq])
 ·exact lift (a4v h (hop _) (hop _)) (by simp [execOp,heq])
 ·rename_i t x lo hi
  refine lift (a4w (lov:=lo.map a.eval) (hiv:=hi.map a.eval) h (hop _) ?_ ?_ ?_ ?_) (by simp [execOp,heq])
  ·intro b hb;cases lo<;>simp at hb;subst hb;exact⟨_,rfl,hop _⟩
  ·intro hb;cases lo<;>simp at hb;rfl
  ·intro b hb;cases hi<;>simp at hb;subst hb;exact⟨_,rfl,hop _⟩
  ·intro hb;cases hi<;>simp at hb;rfl
 ·exact lift (a4x h (hop _) (hid _)) (by simp [execOp,heq])
 ·exact lift (a4y h (hop _) (hid _)) (by simp [execOp,heq])
 ·rename_i x
  have hx:=hop x
  have hxi:=hid x
  unfold SE at h
  split at h
  ·rename_i id hq
   split at h
   ·rename_i i c ho
    obtain⟨A,hA,hi',hr⟩:=EC regs _ S _ hR ho
    rw[hq] at hx hxi
    have hx':=hx
    simp only[Ad] at hx' hr
    obtain⟨_,b,arr,ty,S1,e0,_⟩:=hr
    exact⟨a.eval x,_,fun _ _=>by simp [execOp,heq,hx'.1,e0],hx,hxi,h⟩
   ·exact h.elim
  ·rename_i id k sz of' hq
   rw[hq] at hx hxi
   have hx':=hx
   simp only[Ad] at hx'
   exact⟨a.eval x,_,fun _ _=>by simp [execOp,heq,hx'.1],hx,hxi,h⟩
  ·rename_i c hq
   rw[hq] at hx hxi
   have hx':=hx
   simp only[Ad,Am] at hx'
   obtain⟨_,b,off,arr,ty,fr,cs,rest,S1,e,_⟩:=hx'
   exact⟨a.eval x,_,fun _ _=>by simp [execOp,heq,e,FM],hx,hxi,h⟩
  ·rename_i f cs hq
   rw[hq] at hx hxi
   have hx':=hx
   simp only[Ad] at hx'
   obtain⟨cs,e,_⟩:=hx'
   exact⟨a.eval x,_,fun _ _=>by simp [execOp,heq,e,FM],hx,hxi,h⟩
  ·exact h.elim
 ·exact lift (a4z h hR (hop _)) (by simp [execOp,heq])
 ·rename_i fn first captured
  split at h
  ·rename_i hf
   have hf:=Ib hf
   refine⟨.func (.func fn) #[] (captured.map a.eval),.clo (.func fn) (captured.toList.map (Bi regs)),fun _ _=> ?_,?_,?_,h⟩
   ·simp [execOp,heq,Instr.makeFunc,hf,Fb]
   ·simp only[Ad]
    exact⟨captured.toList.map a.eval,by simp only[FM];congr 1;apply Array.ext';simp,Nt hR _⟩
   ·simp only[AP];exact Nu hI _
  ·rename_i x hf
   have hf:=Ib hf
   split at h
   ·rename_i hc
    have hc:=Ib hc
    refine⟨.func (.func fn) #[a.eval x] #[],.clo (.yield fn) [Bi regs x],fun _ _=> ?_,?_,?_,h⟩
    ·simp [execOp,heq,Instr.makeFunc,hf,hc,Fb]
    ·simp only[Ad]
     exact⟨[a.eval x],rfl,by have:=Nt (a:=a) hR [x];simpa using this⟩
    ·simp only[AP];have:=Nu hI [x];simpa using this
   ·exact h.elim
  ·exact h.elim
 ·rename_i args ts
  split at h
  ·rename_i x hf
   have hf:=Ib hf
   refine lift (a4A (ty:=o.type) h hR (hop _)) (by simp [execOp,heq,hf,resolve,invoke,builtin])
  ·exact h.elim
 ·rename_i args ts
  split at h
  ·rename_i x y hf
   have hf:=Ib hf
   refine lift (a4B (ts:=ts) (ty:=o.type) h (hop _) (hop _)) (by simp [execOp,heq,hf,resolve,invoke,builtin])
  ·exact h.elim
 ·rename_i args ts
  split at h
  ·rename_i x y hf
   have hf:=Ib hf
   refine lift (a4C (ts:=ts) (ty:=o.type) h (hop _) (hop _)) (by simp [execOp,heq,hf,resolve,invoke,builtin])
  ·exact h.elim
 ·exact h.elim
def Pd(regs:List AV):Op→Bool
 | .move _=>true
 | .assign _=>true
 | .fieldAddr _ _ _=>true
 | .indexAddr _ _ _=>true
 | .nilCheck _=>true
 | .load _ p=>match Bi regs p with
   | .pf _=>true
   |_=>false
 |_=>false
theorem a4D{P:Program}{ov:Bool}{regs:List AV}{o:Oper}{K:AV→Prop}(he:Pd regs o.op=true)(h:EN P ov regs o.op K){Z:FP}{η:Nat→Value}{w:World}{n:Nat}{a:Act}{S:FP}
 (hR:Aq Z η w regs a.tmps.toList S) (hI:AX n regs):
 ∃v r,(∀w',LT Z w w'→(execOp a.eval o).run P w'= .ok (.value v) w')∧Ad Z η w r v (fun _=>False)∧AP n r∧K r:=by
 have hop:=EB hR
 have hid:=GM hI
 cases heq:o.op<;>simp only[heq,Pd,Bool.false_eq_true] at he
 case load t p=>
  rw[heq] at h;simp only[EN] at h
  split at he
  ·rename_i c hc
   unfold Nq at h
   rw[hc] at h
   simp only at h
   have hx:=hop p
   rw[hc] at hx
   obtain⟨v,r,h1,h2,h3,h4⟩:=a4r (n:=n) h hx
   refine⟨v,r,fun w' hw'=> ?_,h2,h3,h4⟩
   have he:execOp a.eval o=(do pure (.value (←Instr.loadAt t (a.eval p)))):=by simp [execOp,heq]
   rw[he];exact JB (h1 w' hw')
  ·cases he
 case indexAddr t x i=>
  rw[heq] at h;simp only[EN] at h
  obtain⟨v,r,h1,h2,h3,h4⟩:=WJ (w:=w) h hR hI (hop _) (hid _) (hop _)
  refine⟨v,r,fun w' _=> ?_,h2,h3,h4⟩
  have he:execOp a.eval o=(do pure (.value (←Instr.indexAt t (a.eval x) (a.eval i)))):=by simp [execOp,heq]
  rw[he];exact JB (h1 w')
 case move x=>
  rw[heq] at h;simp only[EN] at h
  exact⟨_,_,fun _ _=>by simp [execOp,heq],hop _,hid _,h⟩
 case assign x=>
  rw[heq] at h;simp only[EN] at h
  exact⟨_,_,fun _ _=>by simp [execOp,heq],hop _,hid _,h⟩
 case fieldAddr s x f=>
  rw[heq] at h;simp only[EN] at h
  obtain⟨v,r,h1,h2,h3,h4⟩:=WH (w:=w) h hR (hop _) (hid _)
  refine⟨v,r,fun w' _=> ?_,h2,h3,h4⟩
  have he:execOp a.eval o=(do pure (.value (←Instr.fieldAt s (a.eval x) f))):=by simp [execOp,heq]
  rw[he];exact JB (h1 w')
 case nilCheck x=>
  rw[heq] at h;simp only[EN] at h
  have hx:=hop x
  have hxi:=hid x
  unfold SE at h
  split at h
  ·rename_i id hq
   split at h
   ·rename_i i c ho
    obtain⟨A,hA,hi',hr⟩:=EC regs _ S _ hR ho
    rw[hq] at hx hxi
    have hx':=hx
    simp only[Ad] at hx' hr
    obtain⟨_,b,arr,ty,S1,e0,_⟩:=hr
    exact⟨a.eval x,_,fun _ _=>by simp [execOp,heq,hx'.1,e0],hx,hxi,h⟩
   ·exact h.elim
  ·rename_i id k sz of' hq
   rw[hq] at hx hxi
   have hx':=hx
   simp only[Ad] at hx'
   exact⟨a.eval x,_,fun _ _=>by simp [execOp,heq,hx'.1],hx,hxi,h⟩
  ·rename_i c hq
   rw[hq] at hx hxi
   have hx':=hx
   simp only[Ad,Am] at hx'
   obtain⟨_,b,off,arr,ty,fr,cs,rest,S1,e,_⟩:=hx'
   exact⟨a.eval x,_,fun _ _=>by simp [execOp,heq,e,FM],hx,hxi,h⟩
  ·rename_i f cs hq
   rw[hq] at hx hxi
   have hx':=hx
   simp only[Ad] at hx'
   obtain⟨cs,e,_⟩:=hx'
   exact⟨a.eval x,_,fun _ _=>by simp [execOp,heq,e,FM],hx,hxi,h⟩
  ·exact h.elim
def Pe:Op→Bool
 | .move _=>true
 | .call ⟨.builtin .len,_,_⟩=>true
 |_=>false
theorem a4E{P:Program}{ov:Bool}{regs:List AV}{o:Oper}{K:AV→Prop}(he:Pe o.op=true)(h:EN P ov regs o.op K){Z:FP}{η:Nat→Value}{w:World}{n:Nat}{a:Act}{S:FP}
 (hR:Aq Z η w regs a.tmps.toList S) (hI:AX n regs):
 ∃v r,(∀w',(execOp a.eval o).run P w'= .ok (.value v) w')∧Ad Z η w r v (fun _=>False)∧AP n r∧K r:=by
 have hop:=EB hR
 have hid:=GM hI
 unfold Pe at he
 split at he
 ·rename_i x heq
  rw[heq] at h;simp only[EN] at h
  exact⟨_,_,fun _=>by simp [execOp,heq],hop _,hid _,h⟩
 ·rename_i args ts heq
  rw[heq] at h;simp only[EN] at h
  split at h
  ·rename_i x hf
   have hf:=Ib hf
   obtain⟨v,r,h1,h2,h3,h4⟩:=WR (ty:=o.type) (w:=w) (n:=n) h hR (hop x)
   refine⟨v,r,fun w'=> ?_,h2,h3,h4⟩
   have he:execOp a.eval o=(do pure (.value (←Builtin.len_ ts o.type #[a.eval x]))):=by simp [execOp,heq,hf,resolve,invoke,builtin]
   rw[he];exact JB (h1 w')
  ·exact h.elim
 ·cases he
end Go.Eng
end
