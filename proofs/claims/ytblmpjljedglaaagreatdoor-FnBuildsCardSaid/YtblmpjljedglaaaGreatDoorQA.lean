/- joined -/
import Derived.Calls
import Derived.KernelRfl
import Derived.Laws.Strings
import Derived.Laws.StructEq
import Derived.Laws.BytesString
set_option linter.unusedSimpArgs false
set_option linter.unusedVariables false
section
namespace Go.Eng
variable {P:Program}{arr:Array Value}{b i len n off:Nat}{cs rest vs:List Value}{fr:Nat×Nat}{iv v x xv:Value}{k:IntKind}{op:BinOp}{ov:Bool}{w w':World}{y:Operand}{η:Nat→Value}
abbrev FP:=Nat→Prop
variable {A B S Z:FP}
def emp(S:FP):Prop:=∀b,¬S b
def one(b:Nat):FP:=fun c=>c=b
def join(S A B:FP):Prop:=(∀b,S b↔(A b∨B b))∧(∀b,A b→B b→False)
def CV:Value→Prop
 | .agg _=>False
 | .tuple _=>False
 |_=>True
def Gy:Fn→List Value→Value
 | .yield g,cs=> .func (.func g) cs.toArray #[]
 |fn,cs=> .func fn #[] cs.toArray
theorem Py{fn:Fn}:CV (Gy fn cs):=by cases fn<;>trivial
inductive AV:Type 1
 |int (k:IntKind) (n:Int)
 |bool (b:Bool)
 |str (l:List UInt8)
 |val (v:Value)
 |any
 |top
 |nil
 |hole (id:Nat)
 |al (id:Nat)
 |po (id k sz off:Nat)
 |agg (fs:List AV)
 |tup (vs:List AV)
 |box (id:Nat) (c:List AV)
 |bv (x:Value) (c:List AV)
 |hv (x:Value)
 |pf (c:List AV)
 |clo (fn:Fn) (caps:List AV)
 |sl (own:Bool) (id sz:Nat) (α:Type) (f:α→List AV) (xs:List α)
variable {K:AV→Prop}{a p:AV}{azs c regs:List AV}{lo:Option AV}
def Rows{α:Type}(sz:Nat)(R:α→List Value→FP→Prop):List α→List Value→FP→Prop
 |[],_,S=>emp S
 |x::xs,cs,S=>∃A B,join S A B∧(cs.take sz).length=sz∧R x (cs.take sz) A∧Rows sz R xs (cs.drop sz) B
mutual
def Aj(Z:FP)(w:World):AV→Value→FP→Prop
 | .int k n,v,S=>v= .int k n∧emp S
 | .bool b,v,S=>v= .bool b∧emp S
 | .str l,v,S=>v= .string ⟨l.toArray⟩∧emp S
 | .val x,v,S=>v=x∧CV x∧emp S
 | .any,v,S=>CV v∧emp S
 | .top,v,S=>emp S
 | .nil,v,S=>v= .slice none 0 0∧emp S
 | .agg fs,v,S=>∃cs:List Value,v= .agg cs.toArray∧AZ Z w fs cs S
 | .tup fs,v,S=>∃cs:List Value,v= .tuple cs.toArray∧AZ Z w fs cs S
 | .clo fn fs,v,S=>∃cs:List Value,v=Gy fn cs∧AZ Z w fs cs S
 | .box _ c,v,S=>∃b arr ty S1,v= .pointer (some ⟨b,0,none⟩)∧w.heap[b]? =some (.cells arr ty (0,0))∧
    AZ Z w c arr.toList S1∧join S (one b) S1
 | .bv x c,v,S=>v=x∧∃b arr ty S1,v= .pointer (some ⟨b,0,none⟩)∧w.heap[b]? =some (.cells arr ty (0,0))∧
    AZ Z w c arr.toList S1∧join S (one b) S1
 | .hv x,v,S=>v=x∧CV x∧emp S
 | .pf c,v,S=>emp S∧∃b off arr ty fr cs rest S1,v= .pointer (some ⟨b,off,none⟩)∧¬Z b∧w.heap[b]? =some (.cells arr ty fr)∧
    arr.toList.drop off=cs++rest∧AZ Z w c cs S1∧emp S1
 | .sl own _ sz _ f xs,v,S=>∃a n c,v= .slice a n c∧n=xs.length∧n≤c∧
    ((own=true∧((a=none∧c=0∧emp S)∨∃b off arr ty S1,a=some ⟨b,off,none⟩∧w.heap[b]? =some (.cells arr ty (0,0))∧
       off+c*sz≤arr.size∧Rows sz (fun x cs A=>AZ Z w (f x) cs A) xs (arr.toList.drop off) S1∧join S (one b) S1))∨
     (own=false∧emp S∧(xs=[]∨∃b off arr ty fr,a=some ⟨b,off,none⟩∧¬Z b∧w.heap[b]? =some (.cells arr ty fr)∧
       Rows sz (fun x cs A=>AZ Z w (f x) cs A) xs (arr.toList.drop off) S)))
 | .hole _,_,_=>False
 | .al _,_,_=>False
 | .po _ _ _ _,_,_=>False
def AZ(Z:FP)(w:World):List AV→List Value→FP→Prop
 |[],cs,S=>cs=[]∧emp S
 |a::azs,cs,S=>∃v cs' A B,cs=v::cs'∧join S A B∧Aj Z w a v A∧AZ Z w azs cs' B
end
theorem Gd(h:join S A B)(ha:emp A):∀b,S b↔B b:=by
 intro b;rw[h.1 b];exact⟨fun| .inl x=>(ha b x).elim| .inr x=>x,.inr⟩
theorem a1Q(h:join S A B)(hb:emp B):∀b,S b↔A b:=by
 intro b;rw[h.1 b];exact⟨fun| .inr x=>(hb b x).elim| .inl x=>x,.inl⟩
theorem EL(h:∀b,A b↔B b):A=B:=funext fun b=>propext (h b)
theorem BS(S:FP):join S (fun _=>False) S:=⟨fun b=>by simp,fun b h=>h.elim⟩
theorem JB(S:FP):join S S (fun _=>False):=⟨fun b=>by simp,fun b _ h=>h⟩
theorem a1R(h:join S A B):join S B A:=⟨fun b=>by rw[h.1 b];exact or_comm,fun b x y=>h.2 b y x⟩
theorem Ks{C D:FP}(h:join S A B)(h2:join B C D):∃E,join S E D∧join E A C:=
 ⟨fun b=>A b∨C b,⟨fun b=>by rw[h.1 b,h2.1 b];exact or_assoc.symm,fun b x y=>x.elim (fun x=>h.2 b x ((h2.1 b).2 (.inr y))) (fun x=>h2.2 b x y)⟩,
   ⟨fun b=>Iff.rfl,fun b x y=>h.2 b x ((h2.1 b).2 (.inl y))⟩⟩
theorem Pz{C D:FP}(h:join S A B)(h2:join A C D):∃E,join S C E∧join E D B:=
 ⟨fun b=>D b∨B b,⟨fun b=>by rw[h.1 b,h2.1 b];exact or_assoc,fun b x y=>y.elim (fun y=>h2.2 b x y) (fun y=>h.2 b ((h2.1 b).2 (.inl x)) y)⟩,
   ⟨fun b=>Iff.rfl,fun b x y=>h.2 b ((h2.1 b).2 (.inr x)) y⟩⟩
theorem Hv(h:join S A B)(hs:emp S):emp A∧emp B:=
 ⟨fun b x=>hs b ((h.1 b).2 (.inl x)),fun b x=>hs b ((h.1 b).2 (.inr x))⟩
theorem AW:emp (fun _=>False):=fun _ h=>h
theorem EB(h:emp S):S=fun _=>False:=funext fun b=>propext ⟨fun x=>h b x,False.elim⟩
theorem Jb{α:Type}{sz:Nat}{R R':α→List Value→FP→Prop}:∀(xs:List α) (cs:List Value) (S:FP),
 (∀x cs A,(∀b,A b→S b)→R x cs A→R' x cs A)→Rows sz R xs cs S→Rows sz R' xs cs S
 |[],_,_,_,h=>h
 |x::xs,cs,S,hr,h=>by
  obtain⟨A,B,hj,hl,h1,h2⟩:=h
  exact⟨A,B,hj,hl,hr _ _ _ (fun b hb=>(hj.1 b).2 (.inl hb)) h1,Jb xs _ B (fun x cs A' hA=>hr x cs A' (fun b hb=>(hj.1 b).2 (.inr (hA b hb)))) h2⟩
mutual
theorem Ge{Z Z':FP}{w w':World}(hZ:∀b,¬Z b→b<w.heap.size→¬Z' b∧w'.heap[b]? =w.heap[b]?):
 ∀(a:AV) (v:Value) (S:FP),(∀b,S b→w'.heap[b]? =w.heap[b]?)→Aj Z w a v S→Aj Z' w' a v S
 | .int _ _,_,_,_,h=>h
 | .bool _,_,_,_,h=>h
 | .str _,_,_,_,h=>h
 | .val _,_,_,_,h=>h
 | .any,_,_,_,h=>h
 | .top,_,_,_,h=>h
 | .nil,_,_,_,h=>h
 | .agg fs,v,S,hS,h=>by
   simp only[Aj] at h ⊢;obtain⟨cs,e,h⟩:=h;exact⟨cs,e,Dt hZ fs cs S hS h⟩
 | .tup fs,v,S,hS,h=>by
   simp only[Aj] at h ⊢;obtain⟨cs,e,h⟩:=h;exact⟨cs,e,Dt hZ fs cs S hS h⟩
 | .clo _ fs,v,S,hS,h=>by
   simp only[Aj] at h ⊢;obtain⟨cs,e,h⟩:=h;exact⟨cs,e,Dt hZ fs cs S hS h⟩
 | .box _ c,v,S,hS,h=>by
   simp only[Aj] at h ⊢
   obtain⟨b,arr,ty,S1,e,hb,h,hj⟩:=h
   exact⟨b,arr,ty,S1,e,by rw[hS b ((hj.1 b).2 (.inl rfl))];exact hb,Dt hZ c _ S1 (fun b hb=>hS b ((hj.1 b).2 (.inr hb))) h,hj⟩
 | .bv _ c,v,S,hS,h=>by
   simp only[Aj] at h ⊢
   obtain⟨e0,b,arr,ty,S1,e,hb,h,hj⟩:=h
   exact⟨e0,b,arr,ty,S1,e,by rw[hS b ((hj.1 b).2 (.inl rfl))];exact hb,Dt hZ c _ S1 (fun b hb=>hS b ((hj.1 b).2 (.inr hb))) h,hj⟩
 | .hv _,_,_,_,h=>h
 | .pf c,v,S,hS,h=>by
   simp only[Aj] at h ⊢
   obtain⟨he,b,off,arr,ty,fr,cs,rest,S1,e,hz,hb,hd,h,h1⟩:=h
   have hlt:b<w.heap.size:=by
    rcases Nat.lt_or_ge b w.heap.size with hh|hh
    ·exact hh
    ·simp [Array.getElem?_eq_none hh] at hb
   exact⟨he,b,off,arr,ty,fr,cs,rest,S1,e,(hZ b hz hlt).1,by rw[(hZ b hz hlt).2];exact hb,hd,Dt hZ c _ S1 (fun b hb=>(h1 b hb).elim) h,h1⟩
 | .sl own _ sz α f xs,v,S,hS,h=>by
   simp only[Aj] at h ⊢
   obtain⟨a,n,c,e,hn,hc,h⟩:=h
   refine⟨a,n,c,e,hn,hc,?_⟩
   rcases h with⟨ho,h⟩|⟨ho,he,h⟩
   ·refine .inl ⟨ho,?_⟩
    rcases h with h|⟨b,off,arr,ty,S1,ha,hb,hsz,hr,hj⟩
    ·exact .inl h
    ·refine .inr ⟨b,off,arr,ty,S1,ha,by rw[hS b ((hj.1 b).2 (.inl rfl))];exact hb,hsz,?_,hj⟩
     exact Jb xs _ S1 (fun x cs A hA hx=>Dt hZ (f x) cs A (fun b hb=>hS b ((hj.1 b).2 (.inr (hA b hb)))) hx) hr
   ·refine .inr ⟨ho,he,?_⟩
    rcases h with h|⟨b,off,arr,ty,fr,ha,hz,hb,hr⟩
    ·exact .inl h
    ·have hlt:b<w.heap.size:=by
      rcases Nat.lt_or_ge b w.heap.size with hh|hh
      ·exact hh
      ·simp [Array.getElem?_eq_none hh] at hb
     refine .inr ⟨b,off,arr,ty,fr,ha,(hZ b hz hlt).1,by rw[(hZ b hz hlt).2];exact hb,?_⟩
     exact Jb xs _ S (fun x cs A hA hx=>Dt hZ (f x) cs A (fun b hb=>hS b (hA b hb)) hx) hr
 | .hole _,_,_,_,h=>h
 | .al _,_,_,_,h=>h
 | .po _ _ _ _,_,_,_,h=>h
theorem Dt{Z Z':FP}{w w':World}(hZ:∀b,¬Z b→b<w.heap.size→¬Z' b∧w'.heap[b]? =w.heap[b]?):
 ∀(azs:List AV) (cs:List Value) (S:FP),(∀b,S b→w'.heap[b]? =w.heap[b]?)→AZ Z w azs cs S→AZ Z' w' azs cs S
 |[],_,_,_,h=>h
 |a::azs,cs,S,hS,h=>by
  simp only[AZ] at h ⊢
  obtain⟨v,cs',A,B,e,hj,h1,h2⟩:=h
  exact⟨v,cs',A,B,e,hj,Ge hZ a v A (fun b hb=>hS b ((hj.1 b).2 (.inl hb))) h1,Dt hZ azs cs' B (fun b hb=>hS b ((hj.1 b).2 (.inr hb))) h2⟩
end
def Fe:Value→Addr
 | .slice (some a) _ _=>a
 | .pointer (some a)=>a
 |_=>⟨0,0,none⟩
mutual
def Ad(Z:FP)(η:Nat→Value)(w:World):AV→Value→FP→Prop
 | .al id,v,S=>v=η id∧CV v∧emp S
 | .hole id,v,S=>v=η id∧CV v∧emp S
 | .po id k sz off,v,S=>v= .pointer (some ⟨(Fe (η id)).block,(Fe (η id)).off+(k*sz+off),none⟩)∧emp S
 | .agg fs,v,S=>∃cs:List Value,v= .agg cs.toArray∧Am Z η w fs cs S
 | .tup fs,v,S=>∃cs:List Value,v= .tuple cs.toArray∧Am Z η w fs cs S
 | .clo fn fs,v,S=>∃cs:List Value,v=Gy fn cs∧Am Z η w fs cs S
 | .box id c,v,S=>v=η id∧∃b arr ty S1,v= .pointer (some ⟨b,0,none⟩)∧w.heap[b]? =some (.cells arr ty (0,0))∧
    Am Z η w c arr.toList S1∧join S (one b) S1
 | .bv x c,v,S=>v=x∧∃b arr ty S1,v= .pointer (some ⟨b,0,none⟩)∧w.heap[b]? =some (.cells arr ty (0,0))∧
    Am Z η w c arr.toList S1∧join S (one b) S1
 | .hv x,v,S=>Aj Z w (.hv x) v S
 | .sl own id sz α f xs,v,S=>(own=true→v=η id)∧Aj Z w (.sl own id sz α f xs) v S
 | .int k n,v,S=>Aj Z w (.int k n) v S
 | .bool b,v,S=>Aj Z w (.bool b) v S
 | .str l,v,S=>Aj Z w (.str l) v S
 | .val x,v,S=>Aj Z w (.val x) v S
 | .any,v,S=>Aj Z w .any v S
 | .top,v,S=>Aj Z w .top v S
 | .nil,v,S=>Aj Z w .nil v S
 | .pf c,v,S=>Aj Z w (.pf c) v S
def Am(Z:FP)(η:Nat→Value)(w:World):List AV→List Value→FP→Prop
 |[],cs,S=>cs=[]∧emp S
 |a::azs,cs,S=>∃v cs' A B,cs=v::cs'∧join S A B∧Ad Z η w a v A∧Am Z η w azs cs' B
end
mutual
def AR(n:Nat):AV→Prop
 | .al id=>id<n
 | .hole id=>id<n
 | .po id _ _ _=>id<n
 | .agg fs=>AX n fs
 | .tup fs=>AX n fs
 | .clo _ fs=>AX n fs
 | .box id c=>id<n∧AX n c
 | .bv _ c=>AX n c
 | .sl own id _ _ _ _=>own=true→id<n
 |_=>True
def AX(n:Nat):List AV→Prop
 |[]=>True
 |a::azs=>AR n a∧AX n azs
end
mutual
theorem a1S{n m:Nat}(h:n≤m):∀a:AV,AR n a→AR m a
 | .al _,x=>Nat.lt_of_lt_of_le x h
 | .hole _,x=>Nat.lt_of_lt_of_le x h
 | .po _ _ _ _,x=>Nat.lt_of_lt_of_le x h
 | .agg fs,x=>by simp only[AR] at x ⊢;exact FJ h fs x
 | .tup fs,x=>by simp only[AR] at x ⊢;exact FJ h fs x
 | .clo _ fs,x=>by simp only[AR] at x ⊢;exact FJ h fs x
 | .box _ c,x=>by simp only[AR] at x ⊢;exact⟨Nat.lt_of_lt_of_le x.1 h,FJ h c x.2⟩
 | .bv _ c,x=>by simp only[AR] at x ⊢;exact FJ h c x
 | .hv _,x=>x
 | .sl _ _ _ _ _ _,x=>fun o=>Nat.lt_of_lt_of_le (x o) h
 | .int _ _,x=>x
 | .bool _,x=>x
 | .str _,x=>x
 | .val _,x=>x
 | .any,x=>x
 | .top,x=>x
 | .nil,x=>x
 | .pf _,x=>x
theorem FJ{n m:Nat}(h:n≤m):∀azs:List AV,AX n azs→AX m azs
 |[],x=>x
 |a::azs,x=>by simp only[AX] at x ⊢;exact⟨a1S h a x.1,FJ h azs x.2⟩
end
structure Moves (Z Z':FP) (w w':World):Prop where
 fz:∀b,¬Z b→b<w.heap.size→¬Z' b∧w'.heap[b]? =w.heap[b]?
mutual
theorem a1T{n:Nat}{Z Z':FP}{η η':Nat→Value}{w w':World}(hZ:∀b,¬Z b→b<w.heap.size→¬Z' b∧w'.heap[b]? =w.heap[b]?)
 (hη:∀i,i<n→η' i=η i):
 ∀(a:AV) (v:Value) (S:FP),AR n a→(∀b,S b→w'.heap[b]? =w.heap[b]?)→Ad Z η w a v S→Ad Z' η' w' a v S
 | .al id,v,S,hi,hS,h=>by
   simp only[Ad] at h ⊢;simp only[AR] at hi;rw[hη id hi];exact h
 | .hole id,v,S,hi,hS,h=>by
   simp only[Ad] at h ⊢;simp only[AR] at hi;rw[hη id hi];exact h
 | .po id _ _ _,v,S,hi,hS,h=>by
   simp only[Ad] at h ⊢;simp only[AR] at hi;rw[hη id hi];exact h
 | .agg fs,v,S,hi,hS,h=>by
   simp only[Ad] at h ⊢;simp only[AR] at hi;obtain⟨cs,e,h⟩:=h;exact⟨cs,e,CO hZ hη fs cs S hi hS h⟩
 | .tup fs,v,S,hi,hS,h=>by
   simp only[Ad] at h ⊢;simp only[AR] at hi;obtain⟨cs,e,h⟩:=h;exact⟨cs,e,CO hZ hη fs cs S hi hS h⟩
 | .clo _ fs,v,S,hi,hS,h=>by
   simp only[Ad] at h ⊢;simp only[AR] at hi;obtain⟨cs,e,h⟩:=h;exact⟨cs,e,CO hZ hη fs cs S hi hS h⟩
 | .box id c,v,S,hi,hS,h=>by
   simp only[Ad] at h ⊢;simp only[AR] at hi
   obtain⟨e0,b,arr,ty,S1,e,hb,h,hj⟩:=h
   exact⟨by rw[hη id hi.1];exact e0,b,arr,ty,S1,e,by rw[hS b ((hj.1 b).2 (.inl rfl))];exact hb,CO hZ hη c _ S1 hi.2 (fun b hb=>hS b ((hj.1 b).2 (.inr hb))) h,hj⟩
 | .bv _ c,v,S,hi,hS,h=>by
   simp only[Ad] at h ⊢;simp only[AR] at hi
   obtain⟨e0,b,arr,ty,S1,e,hb,h,hj⟩:=h
   exact⟨e0,b,arr,ty,S1,e,by rw[hS b ((hj.1 b).2 (.inl rfl))];exact hb,CO hZ hη c _ S1 hi (fun b hb=>hS b ((hj.1 b).2 (.inr hb))) h,hj⟩
 | .hv _,v,S,_,hS,h=>Ge hZ _ v S hS h
 | .sl own id sz α f xs,v,S,hi,hS,h=>by
   simp only[Ad] at h ⊢;simp only[AR] at hi
   exact⟨fun o=>by rw[hη id (hi o)];exact h.1 o,Ge hZ _ v S hS h.2⟩
 | .int _ _,v,S,_,hS,h=>Ge hZ _ v S hS h
 | .bool _,v,S,_,hS,h=>Ge hZ _ v S hS h
 | .str _,v,S,_,hS,h=>Ge hZ _ v S hS h
 | .val _,v,S,_,hS,h=>Ge hZ _ v S hS h
 | .any,v,S,_,hS,h=>Ge hZ _ v S hS h
 | .top,v,S,_,hS,h=>Ge hZ _ v S hS h
 | .nil,v,S,_,hS,h=>Ge hZ _ v S hS h
 | .pf _,v,S,_,hS,h=>Ge hZ _ v S hS h
theorem CO{n:Nat}{Z Z':FP}{η η':Nat→Value}{w w':World}(hZ:∀b,¬Z b→b<w.heap.size→¬Z' b∧w'.heap[b]? =w.heap[b]?)
 (hη:∀i,i<n→η' i=η i):
 ∀(azs:List AV) (cs:List Value) (S:FP),AX n azs→(∀b,S b→w'.heap[b]? =w.heap[b]?)→Am Z η w azs cs S→Am Z' η' w' azs cs S
 |[],_,_,_,_,h=>h
 |a::azs,cs,S,hi,hS,h=>by
  simp only[Am] at h ⊢;simp only[AX] at hi
  obtain⟨v,cs',A,B,e,hj,h1,h2⟩:=h
  exact⟨v,cs',A,B,e,hj,a1T hZ hη a v A hi.1 (fun b hb=>hS b ((hj.1 b).2 (.inl hb))) h1,
   CO hZ hη azs cs' B hi.2 (fun b hb=>hS b ((hj.1 b).2 (.inr hb))) h2⟩
end
mutual
def Dj:AV→AV
 | .sl true id _ _ _ _=> .al id
 | .box id _=> .al id
 | .bv x _=> .val x
 | .hv x=> .val x
 | .agg fs=> .agg (Gf fs)
 | .clo fn fs=> .clo fn (Gf fs)
 | .tup fs=> .tup (Gf fs)
 | .hole id=> .al id
 |a=>a
def Gf:List AV→List AV
 |[]=>[]
 |a::azs=>Dj a::Gf azs
end
theorem LD{own id sz α f xs v S}(h:Aj Z w (.sl own id sz α f xs) v S):CV v:=by
 simp only[Aj] at h;obtain⟨a,n,c,e,_⟩:=h;subst e;trivial
mutual
theorem a1U{Z:FP}{η:Nat→Value}{w:World}:∀(a:AV) (v:Value) (S:FP),Ad Z η w a v S→Ad Z η w (Dj a) v (fun _=>False)
 | .al id,v,S,h=>by simp only[Ad,Dj] at h ⊢;exact⟨h.1,h.2.1,AW⟩
 | .hole id,v,S,h=>by simp only[Ad,Dj] at h ⊢;exact⟨h.1,h.2.1,AW⟩
 | .po id _ _ _,v,S,h=>by simp only[Ad,Dj] at h ⊢;exact⟨h.1,AW⟩
 | .agg fs,v,S,h=>by
   simp only[Ad,Dj] at h ⊢;obtain⟨cs,e,h⟩:=h;exact⟨cs,e,Nk fs cs S h⟩
 | .tup fs,v,S,h=>by
   simp only[Ad,Dj] at h ⊢;obtain⟨cs,e,h⟩:=h;exact⟨cs,e,Nk fs cs S h⟩
 | .clo _ fs,v,S,h=>by
   simp only[Ad,Dj] at h ⊢;obtain⟨cs,e,h⟩:=h;exact⟨cs,e,Nk fs cs S h⟩
 | .box id c,v,S,h=>by
   simp only[Ad,Dj] at h ⊢
   obtain⟨e0,b,arr,ty,S1,e,_⟩:=h
   exact⟨e0,by rw[e];trivial,AW⟩
 | .bv x c,v,S,h=>by
   simp only[Ad,Dj,Aj] at h ⊢
   obtain⟨e0,b,arr,ty,S1,e,_⟩:=h
   exact⟨e0,by rw[←e0,e];trivial,AW⟩
 | .hv x,v,S,h=>by simp only[Ad,Dj,Aj] at h ⊢;exact⟨h.1,h.2.1,AW⟩
 | .sl true id sz α f xs,v,S,h=>by
   simp only[Ad,Dj] at h ⊢
   exact⟨h.1 trivial,LD h.2,AW⟩
 | .sl false id sz α f xs,v,S,h=>by
   simp only[Ad,Dj] at h ⊢
   refine⟨fun o=>by simp at o,?_⟩
   have h:=h.2
   have he:emp S:=by
    simp only[Aj] at h
    obtain⟨a,n,c,e,hn,hc,h⟩:=h
    rcases h with⟨ho,_⟩|⟨_,he,_⟩
    ·simp at ho
    ·exact he
   rwa [EB he] at h
 | .int _ _,v,S,h=>by simp only[Ad,Dj,Aj] at h ⊢;exact⟨h.1,AW⟩
 | .bool _,v,S,h=>by simp only[Ad,Dj,Aj] at h ⊢;exact⟨h.1,AW⟩
 | .str _,v,S,h=>by simp only[Ad,Dj,Aj] at h ⊢;exact⟨h.1,AW⟩
 | .val _,v,S,h=>by simp only[Ad,Dj,Aj] at h ⊢;exact⟨h.1,h.2.1,AW⟩
 | .any,v,S,h=>by simp only[Ad,Dj,Aj] at h ⊢;exact⟨h.1,AW⟩
 | .top,v,S,h=>by simp only[Ad,Dj,Aj] at h ⊢;exact AW
 | .nil,v,S,h=>by simp only[Ad,Dj,Aj] at h ⊢;exact⟨h.1,AW⟩
 | .pf _,v,S,h=>by simp only[Ad,Dj,Aj] at h ⊢;exact⟨AW,h.2⟩
theorem Nk{Z:FP}{η:Nat→Value}{w:World}:∀(azs:List AV) (cs:List Value) (S:FP),Am Z η w azs cs S→Am Z η w (Gf azs) cs (fun _=>False)
 |[],cs,S,h=>by simp only[Am,Gf] at h ⊢;exact⟨h.1,AW⟩
 |a::azs,cs,S,h=>by
  simp only[Am,Gf] at h ⊢
  obtain⟨v,cs',A,B,e,hj,h1,h2⟩:=h
  exact⟨v,cs',_,_,e,BS _,a1U a v A h1,Nk azs cs' B h2⟩
end
mutual
theorem a1V{n:Nat}:∀a:AV,AR n a→AR n (Dj a)
 | .al _,h=>h
 | .hole _,h=>h
 | .po _ _ _ _,h=>h
 | .agg fs,h=>by simp only[AR,Dj] at h ⊢;exact Nl fs h
 | .tup fs,h=>by simp only[AR,Dj] at h ⊢;exact Nl fs h
 | .clo _ fs,h=>by simp only[AR,Dj] at h ⊢;exact Nl fs h
 | .box id c,h=>by simp only[AR,Dj] at h ⊢;exact h.1
 | .bv _ _,h=>trivial
 | .hv _,h=>trivial
 | .sl true id sz α f xs,h=>by simp only[AR,Dj] at h ⊢;exact h trivial
 | .sl false id sz α f xs,h=>h
 | .int _ _,h=>h
 | .bool _,h=>h
 | .str _,h=>h
 | .val _,h=>h
 | .any,h=>h
 | .top,h=>h
 | .nil,h=>h
 | .pf _,h=>h
theorem Nl{n:Nat}:∀azs:List AV,AX n azs→AX n (Gf azs)
 |[],h=>h
 |a::azs,h=>by simp only[AX,Gf] at h ⊢;exact⟨a1V a h.1,Nl azs h.2⟩
end
theorem Ff{Z:FP}{η:Nat→Value}{w:World}:∀(azs:List AV) (vs:List Value) (S:FP) (i:Nat) (a:AV),Am Z η w azs vs S→azs[i]? =some a→
 ∃v A B,vs[i]? =some v∧Ad Z η w a v A∧join S A B∧
  ∀a' v' A' S',Ad Z η w a' v' A'→join S' A' B→Am Z η w (azs.set i a') (vs.set i v') S'
 |[],vs,S,i,a,h,hi=>by simp at hi
 |x::azs,vs,S,0,a,h,hi=>by
  simp only[Am] at h
  obtain⟨v,cs',A,B,e,hj,h1,h2⟩:=h
  simp at hi;subst hi;subst e
  refine⟨v,A,B,rfl,h1,hj,fun a' v' A' S' hr hj'=> ?_⟩
  simp only[List.set,Am]
  exact⟨v',cs',A',B,rfl,hj',hr,h2⟩
 |x::azs,vs,S,i+1,a,h,hi=>by
  simp only[Am] at h
  obtain⟨v,cs',A,B,e,hj,h1,h2⟩:=h
  subst e
  obtain⟨u,C,D,hu,hr,hj2,hk⟩:=Ff azs cs' B i a h2 (by simpa using hi)
  obtain⟨E,hE,hEA⟩:=Ks hj hj2
  obtain⟨E',hE',hE2⟩:=Ks hj (a1R hj2)
  have hcd:join (fun b=>A b∨D b) A D:=⟨fun _=>Iff.rfl,fun b x y=>hj.2 b x ((hj2.1 b).2 (.inr y))⟩
  refine⟨u,C,fun b=>A b∨D b,by simpa using hu,hr,⟨fun b=> ?_,fun b x y=> ?_⟩,fun a' v' A' S' hr' hj'=> ?_⟩
  ·rw[hj.1 b,hj2.1 b];exact⟨fun h=>h.elim (fun h=> .inr (.inl h)) (fun h=>h.elim .inl (fun h=> .inr (.inr h))),fun h=>h.elim (fun h=> .inr (.inl h)) (fun h=>h.elim .inl (fun h=> .inr (.inr h)))⟩
  ·exact y.elim (fun y=>hj.2 b y ((hj2.1 b).2 (.inl x))) (fun y=>hj2.2 b x y)
  ·simp only[List.set,Am]
   refine⟨v,cs'.set i v',A,fun b=>A' b∨D b,rfl,⟨fun b=> ?_,fun b x y=> ?_⟩,h1,hk a' v' A' _ hr' ⟨fun _=>Iff.rfl,fun b x y=>hj'.2 b x (.inr y)⟩⟩
   ·rw[hj'.1 b];exact⟨fun h=>h.elim (fun h=> .inr (.inl h)) (fun h=>h.elim .inl (fun h=> .inr (.inr h))),fun h=>h.elim (fun h=> .inr (.inl h)) (fun h=>h.elim .inl (fun h=> .inr (.inr h)))⟩
   ·exact y.elim (fun y=>hj'.2 b y (.inl x)) (fun y=>hcd.2 b x y)
theorem Fu{Z:FP}{η:Nat→Value}{w:World}:∀(azs:List AV) (vs:List Value) (S:FP),Am Z η w azs vs S→vs.length=azs.length
 |[],vs,S,h=>by simp only[Am] at h;simp [h.1]
 |a::azs,vs,S,h=>by
  simp only[Am] at h
  obtain⟨v,cs',A,B,e,hj,h1,h2⟩:=h
  subst e;simp [Fu azs cs' B h2]
theorem PA(h:Am Z η w azs vs S)(i:Nat){a':AV}{v':Value}
 (hr:Ad Z η w a' v' (fun _=>False)):∃S',(∀b,S' b→S b)∧Am Z η w (azs.set i a') (vs.set i v') S':=by
 rcases Nat.lt_or_ge i azs.length with hi|hi
 ·obtain⟨v,A,B,hv,h1,hj,hk⟩:=Ff azs vs S i azs[i] h (by simp)
  exact⟨B,fun b hb=>(hj.1 b).2 (.inr hb),hk a' v' _ B hr (BS B)⟩
 ·rw[List.set_eq_of_length_le hi,List.set_eq_of_length_le (by rw[Fu _ _ _ h];exact hi)]
  exact⟨S,fun _ h=>h,h⟩
theorem PB(h:Am Z η w azs vs S)(hi:i<azs.length){a':AV}{v':Value}
 {A':FP} (hr:Ad Z η w a' v' A') (hd:∀b,A' b→¬S b):∃S',(∀b,S' b→S b∨A' b)∧Am Z η w (azs.set i a') (vs.set i v') S':=by
 obtain⟨v,A,B,hv,h1,hj,hk⟩:=Ff azs vs S i azs[i] h (by simp)
 refine⟨fun b=>A' b∨B b,fun b hb=>hb.elim .inr (fun hb=> .inl ((hj.1 b).2 (.inr hb))),hk a' v' A' _ hr ⟨fun _=>Iff.rfl,fun b x y=>hd b x ((hj.1 b).2 (.inr y))⟩⟩
theorem Nm{n:Nat}:∀(azs:List AV) (i:Nat) (a:AV),AX n azs→azs[i]? =some a→AR n a
 |[],i,a,_,hi=>by simp at hi
 |x::azs,0,a,h,hi=>by simp at hi;subst hi;exact h.1
 |x::azs,i+1,a,h,hi=>Nm azs i a h.2 (by simpa using hi)
theorem GR{n:Nat}:∀(azs:List AV) (i:Nat) (a:AV),AX n azs→AR n a→AX n (azs.set i a)
 |[],i,a,h,_=>h
 |x::azs,0,a,h,ha=>⟨ha,h.2⟩
 |x::azs,i+1,a,h,ha=>⟨h.1,GR azs i a h.2 ha⟩
@[simp] theorem run_pure {α:Type} (P:Program) (x:α) (w:World):(Sem.pure x).run P w= .ok x w:=rfl
@[simp] theorem Ce {α:Type} (P:Program) (x:α) (w:World):(pure x:Sem α).run P w= .ok x w:=rfl
theorem FK{α β:Type}(P:Program)(s:Sem α)(f:α→Sem β)(w:World):(s>>=f).run P w=match s.run P w with
 | .ok x w'=>(f x).run P w'
 | .halt h w'=> .halt h w':=by
 show(Sem.bind s f).run P w=_
 induction s generalizing w with
 |pure a=>rfl
 |load m a k ih=>
  simp only[Sem.bind,Sem.run]
  cases w.cell? a with
  |some v=>exact ih v w
  |none=>simp only[];cases w.farLoad P a (m== .atomic) with
   |ok r=>exact ih _ w
   |error h=>rfl
 |store m a v k ih=>
  simp only[Sem.bind]
  cases v<;>first|rfl|(simp only[Sem.run];cases w.cell? a with
   |some u=>simp only[];cases w.frozen? a with
    |true=>rfl
    |false=>exact ih _
   |none=>simp only[];cases w.farStore P a _ (m== .atomic) with
    |ok r=>exact ih _
    |error h=>rfl)
 |new o k ih=>exact ih _ _
 |shape r k ih=>exact ih _ _
 |freeze a n k ih=>exact ih _
 |frozen a k ih=>exact ih _ _
 |getObj r k ih=>
  simp only[Sem.bind,Sem.run]
  cases w.heap[r]? with
  |none=>rfl
  |some o=>cases o<;>first|rfl|exact ih _ _
 |setObj r o k ih=>
  simp only[Sem.bind,Sem.run]
  cases w.heap[r]? with
  |none=>rfl
  |some o=>cases o<;>first|rfl|exact ih _
 |choose q k ih=>
  simp only[Sem.bind,Sem.run]
  split
  ·exact ih _ _
  ·exact ih _ _
 |sys c k ih=>exact ih _ _
 |program k ih=>exact ih _ _
 |mark m k ih=>exact ih _
 |halt h=>rfl
theorem AU{α β:Type}{s:Sem α}{f:α→Sem β}{x:α}(h:s.run P w= .ok x w'):(s>>=f).run P w=(f x).run P w':=by
 rw[FK,h]
theorem Nn{t:TypeId}{i:TypeInfo}(h:P.info? t=some i)(w:World):(typeInfo t).run P w= .ok i w:=by
 simp only[typeInfo,program,FK,Sem.run,h]
 rfl
theorem Dn{t:TypeId}{d:TypeDesc}(h:P.underlying t=some d)(w:World):(underlying t).run P w= .ok d w:=by
 simp only[underlying,program,FK,Sem.run,h]
 rfl
theorem Gg{t:TypeId}{i:TypeInfo}(h:P.info? t=some i)(w:World):(sizeOf t).run P w= .ok i.size w:=by
 simp only[sizeOf];rw[AU (Nn h w)];rfl
theorem No{t:TypeId}{i:TypeInfo}{z:Value}(h:P.info? t=some i)(hz:i.zero=some z)(w:World):(zeroValue t).run P w= .ok z w:=by
 simp only[zeroValue];rw[AU (Nn h w)];simp only[hz];rfl
def Hw:TypeDesc→Bool
 | .struct _=>true
 | .array _ _=>true
 |_=>false
theorem Ij{t:TypeId}{d:TypeDesc}(h:P.underlying t=some d)(w:World):(isAgg t).run P w= .ok (Hw d) w:=by
 simp only[isAgg];rw[AU (Dn h w)]
 cases d<;>rfl
def ad(b off:Nat):Addr:=⟨b,off,none⟩
@[simp] theorem Hx (b off n:Nat):(ad b off).add n=ad b (off+n):=by
  unfold Addr.add ad;split
  ·rename_i h;subst h;rfl
  ·rfl
theorem LE{ty:TypeId}(h:w.heap[b]? =some (.cells arr ty fr)):w.cell? (ad b off)=arr[off]? :=by
 simp [World.cell?,ad,h]
theorem b0n{ty:TypeId}(h:w.heap[b]? =some (.cells arr ty (0,0))):w.frozen? (ad b off)=false:=by
 simp [World.frozen?,ad,h]
theorem PC{a:Addr}(h:w.cell? a=some v):(load a).run P w= .ok v w:=by
 simp [load,Sem.run,h]
theorem a1W{P:Program}{w:World}{b off:Nat}:∀(cs:List Value) (i:Nat) (acc:Array Value),
 (∀j,j<cs.length→w.cell? (ad b (off+(i+j)))=cs[j]?)→(loadCellsFrom (ad b off) i cs.length acc).run P w= .ok (acc++cs.toArray) w
 |[],i,acc,h=>by simp [loadCellsFrom]
 |c::cs,i,acc,h=>by
  simp only[List.length_cons,loadCellsFrom]
  have h0:=h 0 (by simp)
  simp at h0
  rw[AU (PC (v:=c) (by simpa using h0))]
  rw[a1W cs (i+1) (acc.push c) (fun j hj=>by have:=h (j+1) (by simpa using hj);simpa [Nat.add_assoc,Nat.add_comm 1 j] using this)]
  simp
theorem VY{ty:TypeId}(hb:w.heap[b]? =some (.cells arr ty fr))
  (hc:arr.toList.drop off=cs++rest):(loadCells (ad b off) cs.length).run P w= .ok cs.toArray w:=by
 unfold loadCells
 rw[a1W cs 0 #[] (fun j hj=> ?_)]
 ·simp
 ·rw[LE hb]
  have:(arr.toList.drop off)[j]? =(cs++rest)[j]? :=by rw[hc]
  rw[List.getElem?_drop,List.getElem?_append_left hj] at this
  simpa [Array.getElem?_toList] using this
def over(l:List Value)(off:Nat)(cs:List Value):List Value:=l.take off++cs++l.drop (off+cs.length)
structure Wrote (w w':World) (b:Nat) (arr':Array Value) (ty:TypeId):Prop where
 os:w'.os=w.os
 tape:w'.tape=w.tape
 output:w'.output=w.output
 size:w'.heap.size=w.heap.size
 blk:w'.heap[b]? =some (.cells arr' ty (0,0))
 oth:∀c,c≠b→w'.heap[c]? =w.heap[c]?
theorem b0o(l:List Value)(off:Nat):over l off []=l:=by simp [over]
theorem RK{l:List Value}(h:off+cs.length≤l.length):(over l off cs).length=l.length:=by
 simp [over];omega
theorem VZ{P:Program}{b off:Nat}{ty:TypeId}:∀(cs:List Value) (i:Nat) (w:World) (arr:Array Value),w.heap[b]? =some (.cells arr ty (0,0))→
 off+i+cs.length≤arr.size→(∀c∈cs,CV c)→∃w',(storeCells (ad b off) cs i).run P w= .ok () w'∧Wrote w w' b (over arr.toList (off+i) cs).toArray ty
 |[],i,w,arr,hb,hl,hc=>by
  refine⟨w,by simp [storeCells],⟨rfl,rfl,rfl,rfl,?_,fun _ _=>rfl⟩⟩
  rw[b0o];simpa using hb
 |c::cs,i,w,arr,hb,hl,hc=>by
  have hlt:off+i<arr.size:=by simp at hl;omega
  have hst:(store (ad b (off+i)) c).run P w= .ok () (w.setCell (ad b (off+i)) c):=by
   have hcell:CV c:=hc c (by simp)
   have h1:w.cell? (ad b (off+i))=some arr[off+i]:=by rw[LE hb];simp [hlt]
   have h2:=b0n (off:=off+i) hb
   cases c<;>first|exact hcell.elim|simp [store,Sem.run,h1,h2]
  have hb':(w.setCell (ad b (off+i)) c).heap[b]? =some (.cells (arr.setIfInBounds (off+i) c) ty (0,0)):=by
   simp [World.setCell,ad,Array.getElem?_modify,hb]
  obtain⟨w',hr,hw⟩:=VZ (P:=P) (off:=off) cs (i+1) (w.setCell (ad b (off+i)) c) _ hb' (by simp at hl ⊢;omega) (fun x hx=>hc x (by simp [hx]))
  refine⟨w',?_,?_⟩
  ·simp only[storeCells]
   rw[Hx,AU hst]
   exact hr
  ·refine⟨hw.os.trans rfl,hw.tape.trans rfl,hw.output.trans rfl,by rw[hw.size];simp [World.setCell],?_,fun x hx=> ?_⟩
   ·rw[hw.blk]
    congr 2
    apply congrArg List.toArray
    simp only[over,Array.toList_setIfInBounds]
    have e1:(arr.toList.set (off+i) c).take (off+(i+1))=arr.toList.take (off+i)++[c]:=by
     rw[show off+(i+1)=off+i+1 by omega]
     rw[List.take_succ_eq_append_getElem (by simp;omega)]
     simp [List.take_set_of_le]
    have e2:(arr.toList.set (off+i) c).drop (off+(i+1)+cs.length)=arr.toList.drop (off+i+(c::cs).length):=by
     rw[List.drop_set_of_lt (by omega)];congr 1;simp;omega
    rw[e1,e2];simp
   ·rw[hw.oth x hx]
    simp only[World.setCell,ad,Array.getElem?_modify]
    rw[if_neg (by omega)]
structure St where
 regs:List AV
 nx:Nat
structure GInv where
 p:FP→World→Prop
 mono:∀Z Z' w w',(∀b,¬Z b→b<w.heap.size→¬Z' b∧w'.heap[b]? =w.heap[b]?)→p Z w→p Z' w'
structure Ctx where
 w0:World
 Z0:FP
 S0:FP
 G:GInv
 glob:G.p Z0 w0
 sub:∀b,S0 b→Z0 b
structure OkW (C:Ctx) (Z:FP) (w:World):Prop where
 os:w.os=C.w0.os
 tape:w.tape=C.w0.tape
 output:w.output=C.w0.output
 size:C.w0.heap.size≤w.heap.size
 old:∀b,b<C.w0.heap.size→¬C.S0 b→w.heap[b]? =C.w0.heap[b]? ∧(Z b↔C.Z0 b)
theorem OkW.glob{C:Ctx}(h:OkW C Z w):C.G.p Z w:=
 C.G.mono _ _ _ _ (fun b hb hlt=>have h1:=h.old b hlt (fun x=>hb (C.sub b x));⟨fun x=>hb (h1.2.1 x),h1.1⟩) C.glob
structure Inst (C:Ctx) (s:St) (a:Act) (w:World) (η:Nat→Value) (Z S:FP):Prop where
 defers:a.defers=[]
 rel:Am Z η w s.regs a.tmps.toList S
 ids:AX s.nx s.regs
 own:∀b,S b→Z b∧b<w.heap.size∧(b<C.w0.heap.size→C.S0 b)
 ok:OkW C Z w
def Rel(C:Ctx)(s:St)(a:Act)(w:World):Prop:=∃η Z S,Inst C s a w η Z S
def setR(regs:List AV)(dst:Option Nat)(r:AV):List AV:=match dst with
 |some d=>regs.set d r
 |none=>regs
theorem Np(a:Act)(d:Nat)(v:Value):(a.put (some d) v).tmps.toList=a.tmps.toList.set d v:=by
 simp [Act.put]
theorem Nq(a:Act)(d:Option Nat)(v:Value):(a.put d v).defers=a.defers:=by
 cases d<;>rfl
theorem Inst.put{C:Ctx}{s:St}{a:Act}(h:Inst C s a w η Z S)(dst:Option Nat){r:AV}
 (hr:Ad Z η w r v (fun _=>False)) (hi:AR s.nx r):Rel C ⟨setR s.regs dst r,s.nx⟩ (a.put dst v) w:=by
 cases dst with
 |none=>exact⟨η,Z,S,h⟩
 |some d=>
  obtain⟨S',hs,hr'⟩:=PA h.rel d hr
  refine⟨η,Z,S',⟨by rw[Nq];exact h.defers,by rw[Np];exact hr',GR _ _ _ h.ids hi,fun b hb=>h.own b (hs b hb),h.ok⟩⟩
def Hy:Value→AV
 | .int k n=> .int k n
 | .bool b=> .bool b
 | .string s=> .str s.data.toList
 | .slice none 0 0=> .nil
 | .agg _=> .top
 | .tuple _=> .top
 |v=> .val v
def Nr:Value→AV
 | .agg cs=> .agg (cs.toList.map Hy)
 | .tuple _=> .top
 |v=>Hy v
def Bi(regs:List AV):Operand→AV
 | .tmp t=>Dj (regs.getD t .top)
 | .const v=>Nr v
 | .func f=> .clo (.func f) []
 | .global _=> .top
theorem a1X(Z:FP)(η:Nat→Value)(w:World)(v:Value):Ad Z η w (Hy v) v (fun _=>False):=by
 cases v with
 |slice a n c=>
  unfold Hy
  split<;>simp_all [Ad,Aj,emp,CV]
 |_=>simp [Hy,Ad,Aj,emp,CV]
theorem PD(Z:FP)(η:Nat→Value)(w:World):∀l:List Value,Am Z η w (l.map Hy) l (fun _=>False)
 |[]=>by simp [Am,emp]
 |v::l=>by simp only[List.map,Am];exact⟨v,l,_,_,rfl,BS _,a1X Z η w v,PD Z η w l⟩
theorem a1Y(Z:FP)(η:Nat→Value)(w:World)(v:Value):Ad Z η w (Nr v) v (fun _=>False):=by
 unfold Nr
 split
 ·simp only[Ad];exact⟨_,by simp,PD Z η w _⟩
 ·simp only[Ad,Aj];exact AW
 ·exact a1X Z η w v
theorem a1Z(n:Nat)(v:Value):AR n (Hy v):=by
 unfold Hy;split<;>trivial
theorem PE(n:Nat):∀l:List Value,AX n (l.map Hy)
 |[]=>trivial
 |v::l=>⟨a1Z n v,PE n l⟩
theorem a2a(n:Nat)(v:Value):AR n (Nr v):=by
 unfold Nr;split
 ·simp only[AR];exact PE n _
 ·trivial
 ·exact a1Z n v
theorem EM{a:Act}(h:Am Z η w regs a.tmps.toList S)(x:Operand):
 Ad Z η w (Bi regs x) (a.eval x) (fun _=>False):=by
 cases x with
 |const v=>exact a1Y Z η w v
 |func f=>simp only[Bi,Act.eval,Ad,Am];exact⟨[],rfl,rfl,AW⟩
 |global g=>simp only[Bi,Ad,Aj];exact AW
 |tmp t=>
  simp only[Bi,Act.eval]
  rcases Nat.lt_or_ge t regs.length with ht|ht
  ·obtain⟨v,A,B,hv,hr,hj,_⟩:=Ff regs a.tmps.toList S t regs[t] h (by simp)
   have e1:regs.getD t .top=regs[t]:=by simp [List.getD,ht]
   have e2:a.tmps.getD t undef=v:=by
    have:a.tmps[t]? =some v:=by simpa [Array.getElem?_toList] using hv
    simp [Array.getD_eq_getD_getElem?,this]
   rw[e1,e2];exact a1U _ _ _ hr
  ·have e1:regs.getD t .top= .top:=by simp [List.getD,ht]
   rw[e1];simp only[Dj,Ad,Aj];exact AW
theorem GS(h:AX n regs)(x:Operand):AR n (Bi regs x):=by
 cases x with
 |const v=>exact a2a n v
 |func f=>simp only[Bi,AR,AX]
 |global g=>trivial
 |tmp t=>
  simp only[Bi]
  rcases Nat.lt_or_ge t regs.length with ht|ht
  ·have e1:regs.getD t .top=regs[t]:=by simp [List.getD,ht]
   rw[e1];exact a1V _ (Nm regs t _ h (by simp))
  ·have e1:regs.getD t .top= .top:=by simp [List.getD,ht]
   rw[e1];trivial
def Ik:AV→Bool
 | .agg _=>false
 | .tup _=>false
 | .top=>false
 |_=>true
theorem Wa(h:Ad Z η w a v S)(hl:Ik a=true):CV v:=by
 cases a<;>simp only[Ik,Bool.false_eq_true] at hl<;>simp only[Ad,Aj] at h
 case int=>rw[h.1];trivial
 case bool=>rw[h.1];trivial
 case str=>rw[h.1];trivial
 case val=>rw[h.1];exact h.2.1
 case any=>exact h.1
 case nil=>rw[h.1];trivial
 case hole=>exact h.2.1
 case al=>exact h.2.1
 case po=>rw[h.1];trivial
 case box=>obtain⟨_,b,arr,ty,S1,e,_⟩:=h;rw[e];trivial
 case bv=>obtain⟨_,b,arr,ty,S1,e,_⟩:=h;rw[e];trivial
 case hv=>rw[h.1];exact h.2.1
 case pf=>obtain⟨_,b,off,arr,ty,fr,cs,rest,S1,e,_⟩:=h;rw[e];trivial
 case clo=>obtain⟨cs,e,_⟩:=h;rw[e];exact Py
 case sl=>obtain⟨_,a,n,c,e,_⟩:=h;rw[e];trivial
theorem Ns(h:CV v):v.cells= #[v]:=by cases v<;>first|rfl|exact h.elim
def JC:AV→Option (List AV)
 | .agg fs=>if fs.all Ik then some fs else none
 | .tup _=>none
 | .top=>none
 |a=>some [a]
theorem a2b{Z:FP}{η:Nat→Value}{w:World}:∀(fs:List AV) (cs:List Value) (S:FP),Am Z η w fs cs S→fs.all Ik=true→∀c∈cs,CV c
 |[],cs,S,h,hl=>by simp only[Am] at h;simp [h.1]
 |f::fs,cs,S,h,hl=>by
  simp only[Am] at h
  obtain⟨v,cs',A,B,e,hj,h1,h2⟩:=h
  simp only[List.all_cons,Bool.and_eq_true] at hl
  subst e
  intro c hc
  rcases List.mem_cons.1 hc with rfl|hc
  ·exact Wa h1 hl.1
  ·exact a2b fs cs' B h2 hl.2 c hc
theorem RL{ls:List AV}(h:Ad Z η w a v S)(hl:JC a=some ls):
 Am Z η w ls v.cells.toList S∧(∀c∈v.cells.toList,CV c):=by
 have leafcase:∀a:AV,Ik a=true→Ad Z η w a v S→Am Z η w [a] v.cells.toList S∧(∀c∈v.cells.toList,CV c):=by
  intro a hl h
  have hc:=Wa h hl
  rw[Ns hc]
  exact⟨⟨v,[],S,fun _=>False,rfl,JB S,h,rfl,AW⟩,by simpa using hc⟩
 cases a<;>simp only[JC,Option.some.injEq,reduceCtorEq] at hl<;>try(subst hl;exact leafcase _ rfl h)
 case agg fs=>
  split at hl
  ·rename_i hall
   simp only[Option.some.injEq] at hl;subst hl
   simp only[Ad] at h
   obtain⟨cs,e,h⟩:=h
   subst e
   simp only[Value.cells]
   exact⟨h,a2b fs cs S h hall⟩
  ·simp at hl
def Jc:AV→AV
 | .int k n=> .int k n
 | .bool b=> .bool b
 | .str l=> .str l
 | .val v=> .val v
 | .nil=> .nil
 | .pf c=> .pf c
 | .sl false _ sz α f xs=> .sl false 0 sz α f xs
 | .agg _=> .top
 | .tup _=> .top
 | .top=> .top
 | .hole _=> .top
 | .al _=> .top
 | .po _ _ _ _=> .top
 |_=> .any
theorem b0p(n:Nat)(a:AV):AR n (Jc a):=by
 cases a<;>try trivial
 case sl own id sz α f xs=>
  cases own
  ·simp only[Jc,AR];intro h;cases h
  ·trivial
theorem RM(n:Nat):∀l:List AV,AX n (l.map Jc)
 |[]=>trivial
 |a::l=>⟨b0p n a,RM n l⟩
theorem b0q(h:Aj Z w a v S):Ad Z η w (Jc a) v (fun _=>False):=by
 cases a<;>simp only[Aj] at h
 case int=>exact⟨h.1,AW⟩
 case bool=>exact⟨h.1,AW⟩
 case str=>exact⟨h.1,AW⟩
 case val=>exact⟨h.1,h.2.1,AW⟩
 case any=>exact⟨h.1,AW⟩
 case top=>exact AW
 case nil=>exact⟨h.1,AW⟩
 case agg=>exact AW
 case tup=>exact AW
 case box=>obtain⟨b,arr,ty,S1,e,_⟩:=h;exact⟨by rw[e];trivial,AW⟩
 case bv=>obtain⟨_,b,arr,ty,S1,e,_⟩:=h;exact⟨by rw[e];trivial,AW⟩
 case hv=>exact⟨by rw[h.1];exact h.2.1,AW⟩
 case pf=>simp only[Jc,Ad,Aj];exact⟨AW,h.2⟩
 case clo=>obtain⟨cs,e,_⟩:=h;exact⟨by rw[e];exact Py,AW⟩
 case sl own id sz α f xs=>
  cases own
  ·obtain⟨a,n,c,e,hn,hc,h⟩:=h
   rcases h with⟨ho,_⟩|⟨_,he,h⟩
   ·cases ho
   ·simp only[Jc,Ad,Aj]
    refine⟨(fun o=>by cases o),a,n,c,e,hn,hc,.inr ⟨trivial,AW,?_⟩⟩
    rw[EB he] at h
    exact h
  ·obtain⟨a,n,c,e,_⟩:=h
   exact⟨by rw[e];trivial,AW⟩
theorem RN{Z:FP}{η:Nat→Value}{w:World}:∀(azs:List AV) (cs:List Value) (S:FP),AZ Z w azs cs S→Am Z η w (azs.map Jc) cs (fun _=>False)
 |[],cs,S,h=>by simp only[AZ] at h;simp only[List.map,Am];exact⟨h.1,AW⟩
 |a::azs,cs,S,h=>by
  simp only[AZ] at h
  obtain⟨v,cs',A,B,e,hj,h1,h2⟩:=h
  simp only[List.map,Am]
  exact⟨v,cs',_,_,e,BS _,b0q h1,RN azs cs' B h2⟩
theorem PF{Z:FP}{η:Nat→Value}{w:World}:∀(n:Nat) (azs:List AV) (cs:List Value),Am Z η w azs cs (fun _=>False)→
 Am Z η w (azs.drop n) (cs.drop n) (fun _=>False)
 |0,azs,cs,h=>by simpa using h
 |n+1,[],cs,h=>by simp only[Am] at h;simp [h.1,Am,emp]
 |n+1,a::azs,cs,h=>by
  simp only[Am] at h
  obtain⟨v,cs',A,B,e,hj,h1,h2⟩:=h
  have hB:=(Hv hj AW).2
  rw[EB hB] at h2
  subst e
  simpa using PF n azs cs' h2
theorem PG{Z:FP}{η:Nat→Value}{w:World}:∀(n:Nat) (azs:List AV) (cs:List Value),Am Z η w azs cs (fun _=>False)→
 Am Z η w (azs.take n) (cs.take n) (fun _=>False)
 |0,azs,cs,h=>by simp [Am,emp]
 |n+1,[],cs,h=>by simp only[Am] at h;simp [h.1,Am,emp]
 |n+1,a::azs,cs,h=>by
  simp only[Am] at h
  obtain⟨v,cs',A,B,e,hj,h1,h2⟩:=h
  have hB:=(Hv hj AW).2
  have hA:=(Hv hj AW).1
  rw[EB hB] at h2
  rw[EB hA] at h1
  subst e
  simp only[List.take_succ_cons,Am]
  exact⟨v,_,_,_,rfl,BS _,h1,PG n azs cs' h2⟩
theorem Kt{n:Nat}:∀(k:Nat) (l:List AV),AX n l→AX n (l.drop k)
 |0,l,h=>by simpa using h
 |k+1,[],h=>by simpa using h
 |k+1,a::l,h=>by simpa using Kt k l h.2
theorem Nt{n:Nat}:∀(k:Nat) (l:List AV),AX n l→AX n (l.take k)
 |0,l,h=>by simp [AX]
 |k+1,[],h=>by simp [AX]
 |k+1,a::l,h=>by simpa [AX] using ⟨h.1,Nt k l h.2⟩
structure Sees (w w':World):Prop where
 size:w.heap.size≤w'.heap.size
 old:∀b,b<w.heap.size→w'.heap[b]? =w.heap[b]?
theorem Sees.refl(w:World):Sees w w:=⟨Nat.le_refl _,fun _ _=>rfl⟩
theorem Sees.blk(h:Sees w w'){o:Obj}(hb:w.heap[b]? =some o):w'.heap[b]? =some o:=by
 rcases Nat.lt_or_ge b w.heap.size with hh|hh
 ·rw[h.old b hh];exact hb
 ·simp [Array.getElem?_eq_none hh] at hb
def Ku(P:Program)(t:TypeId)(c:List AV)(K:AV→Prop):Prop:=
 match P.underlying t,P.info? t with
 |some d,some i=>match Hw d with
  |true=>match Nat.beq (c.take i.size).length i.size with
   |true=>K (.agg (c.take i.size))
   |false=>False
  |false=>match c with
   |a::_=>K a
   |[]=>False
 |_,_=>False
theorem a2c{t:TypeId}(hvc:Ku P t c K)
 {ty:TypeId}  (_hb:w.heap[b]? =some (.cells arr ty fr))  (hd:arr.toList.drop off=cs++rest)
 (hr:Am Z η w c cs (fun _=>False)) (hi:AX n c):
 ∃v r,(∀w':World,w'.heap[b]? =some (.cells arr ty fr)→(loadVar t (ad b off)).run P w'= .ok v w')∧Ad Z η w r v (fun _=>False)∧AR n r∧K r:=by
 unfold Ku at hvc
 split at hvc
 ·rename_i d i hu hinfo
  split at hvc
  ·rename_i hagg
   split at hvc
   ·rename_i hl
    have hl':=Nat.eq_of_beq_eq_true hl
    refine⟨.agg (cs.take i.size).toArray,_,?_,?_,?_,hvc⟩
    ·intro w' hw'
     simp only[loadVar]
     rw[AU (Ij hu w'),hagg]
     simp only[if_true]
     rw[AU (Gg hinfo w')]
     have hlen:(cs.take i.size).length=i.size:=by
      have:=Fu _ _ _ (PG i.size c cs hr);omega
     have:=VY (P:=P) (off:=off) hw' (cs:=cs.take i.size) (rest:=cs.drop i.size++rest) (by rw[hd,←List.append_assoc,List.take_append_drop])
     rw[hlen] at this
     rw[AU this];rfl
    ·simp only[Ad];exact⟨_,rfl,PG _ _ _ hr⟩
    ·simp only[AR];exact Nt _ _ hi
   ·exact hvc.elim
  ·rename_i hagg
   split at hvc
   ·rename_i a _
    simp only[Am] at hr
    obtain⟨v,cs',A,B,e,hj,h1,h2⟩:=hr
    have hA:=(Hv hj AW).1
    rw[EB hA] at h1
    refine⟨v,a,fun w' hw'=> ?_,h1,hi.1,hvc⟩
    simp only[loadVar]
    rw[AU (Ij hu w'),hagg]
    simp only[Bool.false_eq_true,if_false]
    refine PC ?_
    rw[LE hw']
    have:(arr.toList.drop off)[0]? =some v:=by rw[hd,e];rfl
    rw[List.getElem?_drop] at this
    simpa [Array.getElem?_toList] using this
   ·exact hvc.elim
 ·exact hvc.elim
theorem RO{t:TypeId}(hvc:Ku P t c K)
 {ty:TypeId}  (hb:w.heap[b]? =some (.cells arr ty fr))  (hd:arr.toList.drop off=cs++rest)
 (hr:Am Z η w c cs (fun _=>False)) (hi:AX n c):
 ∃v r,(∀w',Sees w w'→(loadVar t (ad b off)).run P w'= .ok v w')∧Ad Z η w r v (fun _=>False)∧AR n r∧K r:=by
 obtain⟨v,r,h1,h2,h3,h4⟩:=a2c hvc hb hd hr hi
 exact⟨v,r,fun w' hw'=>h1 w' (hw'.blk hb),h2,h3,h4⟩
mutual
def Cg(id:Nat):AV→Option AV
 | .sl true i sz α f xs=>match Nat.beq i id with|true=>some (.sl true i sz α f xs)|false=>none
 | .box i c=>match Nat.beq i id with|true=>some (.box i c)|false=>Eh id c
 | .bv _ c=>Eh id c
 | .agg fs=>Eh id fs
 | .tup fs=>Eh id fs
 | .clo _ fs=>Eh id fs
 |_=>none
def Eh(id:Nat):List AV→Option AV
 |[]=>none
 |a::azs=>match Cg id a with
  |some o=>some o
  |none=>Eh id azs
end
def Kv(id:Nat):AV→Prop
 | .sl true i _ _ _ _=>i=id
 | .box i _=>i=id
 |_=>False
mutual
theorem b0r{Z:FP}{η:Nat→Value}{w:World}{id:Nat}:∀(a:AV) (v:Value) (S:FP) (o:AV),Ad Z η w a v S→Cg id a=some o→
 ∃A,(∀b,A b→S b)∧Kv id o∧Ad Z η w o (η id) A
 | .sl true i sz α f xs,v,S,o,h,hf=>by
   simp only[Cg] at hf
   split at hf
   ·rename_i hb;simp only[Option.some.injEq] at hf;subst hf
    have:=Nat.eq_of_beq_eq_true hb;subst this
    refine⟨S,fun _ x=>x,rfl,?_⟩
    have h':=h
    simp only[Ad] at h'
    rw[←h'.1 trivial];exact h
   ·simp at hf
 | .sl false i sz α f xs,v,S,o,h,hf=>by simp [Cg] at hf
 | .box i c,v,S,o,h,hf=>by
   simp only[Cg] at hf
   split at hf
   ·rename_i hb;simp only[Option.some.injEq] at hf;subst hf
    have:=Nat.eq_of_beq_eq_true hb;subst this
    refine⟨S,fun _ x=>x,rfl,?_⟩
    have h':=h
    simp only[Ad] at h'
    rw[←h'.1];exact h
   ·simp only[Ad] at h
    obtain⟨_,b,arr,ty,S1,_,_,h,hj⟩:=h
    obtain⟨A,hA,h1,h2⟩:=Fg c _ S1 o h hf
    exact⟨A,fun b hb=>(hj.1 b).2 (.inr (hA b hb)),h1,h2⟩
 | .bv _ c,v,S,o,h,hf=>by
   simp only[Cg] at hf;simp only[Ad] at h
   obtain⟨_,b,arr,ty,S1,_,_,h,hj⟩:=h
   obtain⟨A,hA,h1,h2⟩:=Fg c _ S1 o h hf
   exact⟨A,fun b hb=>(hj.1 b).2 (.inr (hA b hb)),h1,h2⟩
 | .hv _,v,S,o,h,hf=>by simp [Cg] at hf
 | .agg fs,v,S,o,h,hf=>by
   simp only[Cg] at hf;simp only[Ad] at h
   obtain⟨cs,_,h⟩:=h
   exact Fg fs cs S o h hf
 | .tup fs,v,S,o,h,hf=>by
   simp only[Cg] at hf;simp only[Ad] at h
   obtain⟨cs,_,h⟩:=h
   exact Fg fs cs S o h hf
 | .clo _ fs,v,S,o,h,hf=>by
   simp only[Cg] at hf;simp only[Ad] at h
   obtain⟨cs,_,h⟩:=h
   exact Fg fs cs S o h hf
 | .int _ _,v,S,o,h,hf=>by simp [Cg] at hf
 | .bool _,v,S,o,h,hf=>by simp [Cg] at hf
 | .str _,v,S,o,h,hf=>by simp [Cg] at hf
 | .val _,v,S,o,h,hf=>by simp [Cg] at hf
 | .any,v,S,o,h,hf=>by simp [Cg] at hf
 | .top,v,S,o,h,hf=>by simp [Cg] at hf
 | .nil,v,S,o,h,hf=>by simp [Cg] at hf
 | .hole _,v,S,o,h,hf=>by simp [Cg] at hf
 | .al _,v,S,o,h,hf=>by simp [Cg] at hf
 | .po _ _ _ _,v,S,o,h,hf=>by simp [Cg] at hf
 | .pf _,v,S,o,h,hf=>by simp [Cg] at hf
theorem Fg{Z:FP}{η:Nat→Value}{w:World}{id:Nat}:∀(azs:List AV) (cs:List Value) (S:FP) (o:AV),Am Z η w azs cs S→Eh id azs=some o→
 ∃A,(∀b,A b→S b)∧Kv id o∧Ad Z η w o (η id) A
 |[],cs,S,o,h,hf=>by simp [Eh] at hf
 |a::azs,cs,S,o,h,hf=>by
  simp only[Am] at h
  obtain⟨v,cs',A,B,e,hj,h1,h2⟩:=h
  simp only[Eh] at hf
  split at hf
  ·rename_i o' ho
   simp only[Option.some.injEq] at hf;subst hf
   obtain⟨A',hA,x,y⟩:=b0r a v A _ h1 ho
   exact⟨A',fun b hb=>(hj.1 b).2 (.inl (hA b hb)),x,y⟩
  ·obtain⟨A',hA,x,y⟩:=Fg azs cs' B o h2 hf
   exact⟨A',fun b hb=>(hj.1 b).2 (.inr (hA b hb)),x,y⟩
end
mutual
theorem b0s{n id:Nat}:∀(a:AV) (o:AV),AR n a→Cg id a=some o→AR n o
 | .sl true i sz α f xs,o,h,hf=>by
   simp only[Cg] at hf
   split at hf
   ·simp only[Option.some.injEq] at hf;subst hf;exact h
   ·simp at hf
 | .sl false i sz α f xs,o,h,hf=>by simp [Cg] at hf
 | .box i c,o,h,hf=>by
   simp only[Cg] at hf
   split at hf
   ·simp only[Option.some.injEq] at hf;subst hf;exact h
   ·exact Kw c o h.2 hf
 | .bv _ c,o,h,hf=>by simp only[Cg] at hf;simp only[AR] at h;exact Kw c o h hf
 | .hv _,o,h,hf=>by simp [Cg] at hf
 | .agg fs,o,h,hf=>by simp only[Cg] at hf;simp only[AR] at h;exact Kw fs o h hf
 | .tup fs,o,h,hf=>by simp only[Cg] at hf;simp only[AR] at h;exact Kw fs o h hf
 | .clo _ fs,o,h,hf=>by simp only[Cg] at hf;simp only[AR] at h;exact Kw fs o h hf
 | .int _ _,o,h,hf=>by simp [Cg] at hf
 | .bool _,o,h,hf=>by simp [Cg] at hf
 | .str _,o,h,hf=>by simp [Cg] at hf
 | .val _,o,h,hf=>by simp [Cg] at hf
 | .any,o,h,hf=>by simp [Cg] at hf
 | .top,o,h,hf=>by simp [Cg] at hf
 | .nil,o,h,hf=>by simp [Cg] at hf
 | .hole _,o,h,hf=>by simp [Cg] at hf
 | .al _,o,h,hf=>by simp [Cg] at hf
 | .po _ _ _ _,o,h,hf=>by simp [Cg] at hf
 | .pf _,o,h,hf=>by simp [Cg] at hf
theorem Kw{n id:Nat}:∀(azs:List AV) (o:AV),AX n azs→Eh id azs=some o→AR n o
 |[],o,h,hf=>by simp [Eh] at hf
 |a::azs,o,h,hf=>by
  simp only[Eh] at hf
  split at hf
  ·rename_i o' ho
   simp only[Option.some.injEq] at hf;subst hf
   exact b0s a _ h.1 ho
  ·exact Kw azs o h.2 hf
end
theorem RP{α:Type}{sz:Nat}{R:α→List Value→FP→Prop}:∀(xs:List α) (cs:List Value) (S:FP) (k:Nat) (x:α),Rows sz R xs cs S→xs[k]? =some x→
 ∃A,(∀b,A b→S b)∧((cs.drop (k*sz)).take sz).length=sz∧R x ((cs.drop (k*sz)).take sz) A
 |[],cs,S,k,x,h,hk=>by simp at hk
 |y::xs,cs,S,0,x,h,hk=>by
  simp at hk;subst hk
  obtain⟨A,B,hj,hl,h1,h2⟩:=h
  refine⟨A,fun b hb=>(hj.1 b).2 (.inl hb),?_,?_⟩
  ·simpa using hl
  ·simpa using h1
 |y::xs,cs,S,k+1,x,h,hk=>by
  obtain⟨A,B,hj,hl,h1,h2⟩:=h
  obtain⟨A',hA,hl',hr⟩:=RP xs (cs.drop sz) B k x h2 (by simpa using hk)
  rw[List.drop_drop] at hl' hr
  have e:(k+1)*sz=sz+k*sz:=by rw[Nat.succ_mul];omega
  rw[e]
  exact⟨A',fun b hb=>(hj.1 b).2 (.inr (hA b hb)),hl',hr⟩
def POk(P:Program)(Z:FP)(η:Nat→Value)(w:World)(n:Nat)(s:Sem Value)(K:AV→Prop):Prop:=
 ∃v r,(∀w',Sees w w'→s.run P w'= .ok v w')∧Ad Z η w r v (fun _=>False)∧AR n r∧K r
theorem POk.pre{g:Sem Unit}{s:Sem Value}(hg:∀w',g.run P w'= .ok () w')(h:POk P Z η w n s K):
 POk P Z η w n (do g;s) K:=by
 obtain⟨v,r,h1,h2⟩:=h
 exact⟨v,r,fun w' hw'=>by rw[AU (hg w')];exact h1 w' hw',h2⟩
theorem Gh{s:Sem Value}(h:s.run P w= .ok v w'):(do pure (Next.value (←s)):Sem Next).run P w= .ok (.value v) w':=by
 rw[AU h];rfl
def inR(k:IntKind)(n:Int):Prop:=k.min≤n∧n≤k.max
theorem RQ{n:Int}(h:inR k n):k.wrap n=n:=by
 unfold inR at h
 obtain⟨h1,h2⟩:=h
 cases k<;>simp [IntKind.wrap,IntKind.min,IntKind.max,IntKind.bits,IntKind.signed] at* <;>omega
def LF(ov:Bool)(k:IntKind)(n:Int)(K:AV→Prop):Prop:=
 match ov with
 |true=>K (.int k (k.wrap n))
 |false=>inR k n∧K (.int k n)
theorem Nu{n:Int}(h:LF ov k n K):K (.int k (k.wrap n)):=by
 cases ov
 ·rw[RQ h.1];exact h.2
 ·exact h
def LG:IntKind→IntKind→Bool
 | .i8,.i8=>true
 | .i16,.i16=>true
 | .i32,.i32=>true
 | .i64,.i64=>true
 | .u8,.u8=>true
 | .u16,.u16=>true
 | .u32,.u32=>true
 | .u64,.u64=>true
 |_,_=>false
theorem PH{a b:IntKind}(h:LG a b=true):a=b:=by cases a<;>cases b<;>first|rfl|cases h
def En(op:BinOp)(k:IntKind)(x y:Int):Int:=match op with
 | .and=>k.wrap (BitVec.ofInt k.bits x&&& BitVec.ofInt k.bits y).toNat
 | .or=>k.wrap (BitVec.ofInt k.bits x|||BitVec.ofInt k.bits y).toNat
 | .xor=>k.wrap (BitVec.ofInt k.bits x^^^BitVec.ofInt k.bits y).toNat
 |_=>0
def shI(left:Bool)(k:IntKind)(x y:Int):Int:=match left with
 |true=>k.wrap (x*2^(min y.toNat k.bits))
 |false=>x.fdiv (2^(min y.toNat k.bits))
def a2d:BinOp→Option Bool
 | .shl=>some true
 | .shr=>some false
 |_=>none
def a2e(ov:Bool)(op:BinOp)(k:IntKind)(x y:Int)(K:AV→Prop):Prop:=
 match op with
 | .add=>LF ov k (x+y) K
 | .sub=>LF ov k (x-y) K
 | .mul=>LF ov k (x*y) K
 | .quo=>y≠0∧LF ov k (x.tdiv y) K
 | .rem=>y≠0∧K (.int k (x.tmod y))
 | .eql=>K (.bool (x==y))
 | .neq=>K (.bool (x != y))
 | .lss=>K (.bool (decide (x<y)))
 | .leq=>K (.bool (decide (x≤y)))
 | .gtr=>K (.bool (decide (x>y)))
 | .geq=>K (.bool (decide (x≥y)))
 | .and=>K (.int k (En .and k x y))
 | .or=>K (.int k (En .or k x y))
 | .xor=>K (.int k (En .xor k x y))
 |_=>False
def RR(P:Program)(xs ys:List AV):List Field→Bool→(Bool→Prop)→Prop
 |[],acc,K=>K acc
 |f::fs,acc,K=>match decide (f.name= "_") with
  |true=>RR P xs ys fs acc K
  |false=>match P.underlying f.type with
   |some (.int _)=>match xs[f.offset]?,ys[f.offset]? with
    |some (.int k a),some (.int k' b)=>match LG k k' with
     |true=>RR P xs ys fs (acc&&(a==b)) K
     |false=>False
    |_,_=>False
   |some .bool=>match xs[f.offset]?,ys[f.offset]? with
    |some (.bool a),some (.bool b)=>RR P xs ys fs (acc&&(a==b)) K
    |_,_=>False
   |some .string=>match xs[f.offset]?,ys[f.offset]? with
    |some (.str a),some (.str b)=>RR P xs ys fs (acc&&(a==b)) K
    |_,_=>False
   |_=>False
theorem Hz(h:Am Z η w azs vs S)(hi:azs[i]? =some a):∃v A,vs[i]? =some v∧Ad Z η w a v A:=by
 obtain⟨v,A,B,h1,h2,_⟩:=Ff azs vs S i a h hi
 exact⟨v,A,h1,h2⟩
theorem a2f{t:TypeId}{d:TypeDesc}(h:P.underlying t=some d)(hd:Hw d=false)(hv:cs[off]? =some v)(w:World):(part t cs.toArray off).run P w= .ok v w:=by
 unfold part
 rw[AU (Ij h w),hd]
 simp only[Bool.false_eq_true,if_false,List.getElem?_toArray,hv]
 rfl
def Kx(P:Program)(xs ys:List AV)(o sz:Nat):List Field→Bool→(Bool→Prop)→Prop
 |[],acc,K=>K acc
 |f::fs,acc,K=>match decide (f.name= "_") with
  |true=>Kx P xs ys o sz fs acc K
  |false=>match Nat.blt f.offset sz with
   |true=>match P.underlying f.type with
    |some (.int _)=>match xs[o+f.offset]?,ys[o+f.offset]? with
     |some (.int k a),some (.int k' b)=>match LG k k' with
      |true=>Kx P xs ys o sz fs (acc&&(a==b)) K
      |false=>False
     |_,_=>False
    |some .bool=>match xs[o+f.offset]?,ys[o+f.offset]? with
     |some (.bool a),some (.bool b)=>Kx P xs ys o sz fs (acc&&(a==b)) K
     |_,_=>False
    |some .string=>match xs[o+f.offset]?,ys[o+f.offset]? with
     |some (.str a),some (.str b)=>Kx P xs ys o sz fs (acc&&(a==b)) K
     |_,_=>False
    |_=>False
   |false=>False
def Il(P:Program)(xs ys:List AV):List Field→Bool→(Bool→Prop)→Prop
 |[],acc,K=>K acc
 |f::fs,acc,K=>match decide (f.name= "_") with
  |true=>Il P xs ys fs acc K
  |false=>match P.underlying f.type with
   |some (.int _)=>match xs[f.offset]?,ys[f.offset]? with
    |some (.int k a),some (.int k' b)=>match LG k k' with
     |true=>Il P xs ys fs (acc&&(a==b)) K
     |false=>False
    |_,_=>False
   |some .bool=>match xs[f.offset]?,ys[f.offset]? with
    |some (.bool a),some (.bool b)=>Il P xs ys fs (acc&&(a==b)) K
    |_,_=>False
   |some .string=>match xs[f.offset]?,ys[f.offset]? with
    |some (.str a),some (.str b)=>Il P xs ys fs (acc&&(a==b)) K
    |_,_=>False
   |some (.struct gs)=>match P.stoodInHeld f.type,P.info? f.type with
    |false,some inf=>Kx P xs ys f.offset inf.size gs.toList true fun b=>Il P xs ys fs (acc&&b) K
    |_,_=>False
   |_=>False
theorem a2g{t:TypeId}{d:TypeDesc}{cs:Array Value}(h:P.underlying t=some d)(hd:Hw d=false)(hv:cs[off]? =some v)(w:World):(part t cs off).run P w= .ok v w:=by
 unfold part
 rw[AU (Ij h w),hd]
 simp only[Bool.false_eq_true,if_false,hv]
 rfl
theorem a2h{t:TypeId}{d:TypeDesc}{inf:TypeInfo}{cs:Array Value}(h:P.underlying t=some d)(hd:Hw d=true)(hi:P.info? t=some inf)(w:World):(part t cs off).run P w= .ok (.agg (cs.extract off (off+inf.size))) w:=by
 unfold part
 rw[AU (Ij h w),hd]
 simp only[if_true]
 rw[AU (Gg hi w)]
 rfl
theorem a2i{o sz:Nat}(hi:i<sz)(h:cs[o+i]? =some v):(cs.toArray.extract o (o+sz))[i]? =some v:=by
 have hl:o+i<cs.length:=(List.getElem?_eq_some_iff.1 h).1
 rw[Array.getElem?_extract,if_pos (by simp;omega)]
 simpa using h
theorem Wb{P:Program}{xs ys:List AV}{Z:FP}{η:Nat→Value}{w:World}{cs ds:List Value}{S T:FP}(hx:Am Z η w xs cs S)(hy:Am Z η w ys ds T)(d o sz:Nat):∀(fs:List Field) (acc:Bool) (K:Bool→Prop),Kx P xs ys o sz fs acc K→
 ∃b,(∀w',(Op.eqFields (d+1) (cs.toArray.extract o (o+sz)) (ds.toArray.extract o (o+sz)) fs).run P w'= .ok b w')∧K (acc&&b)
 |[],acc,K,h=>⟨true,fun w'=>rfl,by rw[Bool.and_true];exact h⟩
 |f::fs,acc,K,h=>by
  have step:∀ {dd:TypeDesc} {u v:Value} {r:Bool},P.underlying f.type=some dd→Hw dd=false→f.offset<sz→cs[o+f.offset]? =some u→ds[o+f.offset]? =some v→f.name≠ "_" →
   (∀w',(Op.equalIn (d+1) f.type u v).run P w'= .ok r w')→Kx P xs ys o sz fs (acc&&r) K→
   ∃b,(∀w',(Op.eqFields (d+1) (cs.toArray.extract o (o+sz)) (ds.toArray.extract o (o+sz)) (f::fs)).run P w'= .ok b w')∧K (acc&&b):=by
   intro dd u v r hu hd hlt hcu hdv hn he hk
   obtain⟨b,h1,h2⟩:=Wb hx hy d o sz fs _ K hk
   refine⟨r&&b,fun w'=> ?_,by rw[←Bool.and_assoc];exact h2⟩
   rw[Op.eqFields,if_pos hn,AU (a2g hu hd (a2i hlt hcu) w'),AU (a2g hu hd (a2i hlt hdv) w'),AU (he w')]
   cases r
   ·rfl
   ·simpa using h1 w'
  unfold Kx at h
  split at h
  ·rename_i hn
   have hn:=of_decide_eq_true hn
   obtain⟨b,h1,h2⟩:=Wb hx hy d o sz fs acc K h
   exact⟨b,fun w'=>by rw[Op.eqFields,if_neg (by simp [hn])];exact h1 w',h2⟩
  ·rename_i hn
   have hn:=of_decide_eq_false hn
   split at h
   ·rename_i hlt
    have hlt:f.offset<sz:=by rw[Nat.blt_eq] at hlt;exact hlt
    split at h
    ·rename_i hu
     split at h
     ·rename_i k a k' b hxa hyb
      split at h
      ·rename_i hk
       have hk:=PH hk
       subst hk
       obtain⟨u,_,hcu,hru⟩:=Hz hx hxa
       obtain⟨v,_,hdv,hrv⟩:=Hz hy hyb
       simp only[Ad,Aj] at hru hrv
       rw[hru.1] at hcu;rw[hrv.1] at hdv
       exact step hu rfl hlt hcu hdv hn (fun w'=>run_equalIn_int w' d _ _ _ _ _ hu) h
      ·exact h.elim
     ·exact h.elim
    ·rename_i hu
     split at h
     ·rename_i a b hxa hyb
      obtain⟨u,_,hcu,hru⟩:=Hz hx hxa
      obtain⟨v,_,hdv,hrv⟩:=Hz hy hyb
      simp only[Ad,Aj] at hru hrv
      rw[hru.1] at hcu;rw[hrv.1] at hdv
      exact step hu rfl hlt hcu hdv hn (fun w'=>run_equalIn_bool' w' d _ _ _ hu) h
     ·exact h.elim
    ·rename_i hu
     split at h
     ·rename_i a b hxa hyb
      obtain⟨u,_,hcu,hru⟩:=Hz hx hxa
      obtain⟨v,_,hdv,hrv⟩:=Hz hy hyb
      simp only[Ad,Aj] at hru hrv
      rw[hru.1] at hcu;rw[hrv.1] at hdv
      refine step hu rfl hlt hcu hdv hn (fun w'=> ?_) h
      rw[run_equalIn_string w' d _ _ _ hu];simp only[ByteArray.toList_mk]
     ·exact h.elim
    ·exact h.elim
   ·exact h.elim
theorem RS{P:Program}{xs ys:List AV}{Z:FP}{η:Nat→Value}{w:World}{cs ds:List Value}{S T:FP}(hx:Am Z η w xs cs S)(hy:Am Z η w ys ds T)(d:Nat):∀(fs:List Field) (acc:Bool) (K:Bool→Prop),Il P xs ys fs acc K→
 ∃b,(∀w',(Op.eqFields (d+2) cs.toArray ds.toArray fs).run P w'= .ok b w')∧K (acc&&b)
 |[],acc,K,h=>⟨true,fun w'=>rfl,by rw[Bool.and_true];exact h⟩
 |f::fs,acc,K,h=>by
  have step:∀ {dd:TypeDesc} {u v:Value} {r:Bool},P.underlying f.type=some dd→Hw dd=false→cs[f.offset]? =some u→ds[f.offset]? =some v→f.name≠ "_" →
   (∀w',(Op.equalIn (d+2) f.type u v).run P w'= .ok r w')→Il P xs ys fs (acc&&r) K→
   ∃b,(∀w',(Op.eqFields (d+2) cs.toArray ds.toArray (f::fs)).run P w'= .ok b w')∧K (acc&&b):=by
   intro dd u v r hu hd hcu hdv hn he hk
   obtain⟨b,h1,h2⟩:=RS hx hy d fs _ K hk
   refine⟨r&&b,fun w'=> ?_,by rw[←Bool.and_assoc];exact h2⟩
   rw[Op.eqFields,if_pos hn,AU (a2f hu hd hcu w'),AU (a2f hu hd hdv w'),AU (he w')]
   cases r
   ·rfl
   ·simpa using h1 w'
  unfold Il at h
  split at h
  ·rename_i hn
   have hn:=of_decide_eq_true hn
   obtain⟨b,h1,h2⟩:=RS hx hy d fs acc K h
   exact⟨b,fun w'=>by rw[Op.eqFields,if_neg (by simp [hn])];exact h1 w',h2⟩
  ·rename_i hn
   have hn:=of_decide_eq_false hn
   split at h
   ·rename_i hu
    split at h
    ·rename_i k a k' b hxa hyb
     split at h
     ·rename_i hk
      have hk:=PH hk
      subst hk
      obtain⟨u,_,hcu,hru⟩:=Hz hx hxa
      obtain⟨v,_,hdv,hrv⟩:=Hz hy hyb
      simp only[Ad,Aj] at hru hrv
      rw[hru.1] at hcu;rw[hrv.1] at hdv
      exact step hu rfl hcu hdv hn (fun w'=>run_equalIn_int w' (d+1) _ _ _ _ _ hu) h
     ·exact h.elim
    ·exact h.elim
   ·rename_i hu
    split at h
    ·rename_i a b hxa hyb
     obtain⟨u,_,hcu,hru⟩:=Hz hx hxa
     obtain⟨v,_,hdv,hrv⟩:=Hz hy hyb
     simp only[Ad,Aj] at hru hrv
     rw[hru.1] at hcu;rw[hrv.1] at hdv
     exact step hu rfl hcu hdv hn (fun w'=>run_equalIn_bool' w' (d+1) _ _ _ hu) h
    ·exact h.elim
   ·rename_i hu
    split at h
    ·rename_i a b hxa hyb
     obtain⟨u,_,hcu,hru⟩:=Hz hx hxa
     obtain⟨v,_,hdv,hrv⟩:=Hz hy hyb
     simp only[Ad,Aj] at hru hrv
     rw[hru.1] at hcu;rw[hrv.1] at hdv
     refine step hu rfl hcu hdv hn (fun w'=> ?_) h
     rw[run_equalIn_string w' (d+1) _ _ _ hu];simp only[ByteArray.toList_mk]
    ·exact h.elim
   ·rename_i gs hu
    split at h
    ·rename_i inf hst hinf
     obtain⟨r,g1,g2⟩:=Wb hx hy d f.offset inf.size gs.toList true _ h
     rw[Bool.true_and] at g2
     obtain⟨b,h1,h2⟩:=RS hx hy d fs _ K g2
     have hf:P.fieldsOf f.type=gs:=by unfold Program.fieldsOf;rw[hu]
     refine⟨r&&b,fun w'=> ?_,by rw[←Bool.and_assoc];exact h2⟩
     have he:(Op.equalIn (d+2) f.type (.agg (cs.toArray.extract f.offset (f.offset+inf.size))) (.agg (ds.toArray.extract f.offset (f.offset+inf.size)))).run P w'= .ok r w':=by
      rw[run_equalIn_struct w' (d+1) f.type _ _ (by rw[hf];exact hu) hst,hf];exact g1 w'
     rw[Op.eqFields,if_pos hn,AU (a2h hu rfl hinf w'),AU (a2h hu rfl hinf w'),AU he]
     cases r
     ·rfl
     ·simpa using h1 w'
    ·exact h.elim
   ·exact h.elim
def Wc(P:Program)(ov:Bool)(op:BinOp)(t:TypeId)(a b:AV)(K:AV→Prop):Prop:=
 match a,b with
 | .int k x,.int k' y=>match a2d op with
   |some left=>0≤y∧K (.int k (shI left k x y))
   |none=>match LG k k' with
    |true=>a2e ov op k x y K
    |false=>False
 | .str x,.str y=>match op with
   | .add=>((x.length+y.length:Nat):Int)≤IntKind.i64.max∧K (.str (x++y))
   | .eql=>K (.bool (x==y))
   | .neq=>K (.bool !(x==y))
   | .lss=>K (.bool (Op.bytesLess x y))
   | .leq=>K (.bool (Op.bytesLess x y||x==y))
   | .gtr=>K (.bool !(Op.bytesLess x y||x==y))
   | .geq=>K (.bool !(Op.bytesLess x y))
   |_=>False
 | .bool x,.bool y=>match P.underlying t with
   |some .bool=>match op with
    | .eql=>K (.bool (x==y))
    | .neq=>K (.bool !(x==y))
    |_=>False
   |_=>False
 | .sl false _ _ _ _ xs,.nil=>match P.underlying t with
   |some (.slice _)=>match op with
    | .eql=>∀b:Bool,(b=true→xs=[])→K (.bool b)
    | .neq=>∀b:Bool,(b=false→xs=[])→K (.bool b)
    |_=>False
   |_=>False
 | .agg xs,.agg ys=>match P.underlying t with
   |some (.struct fs)=>match P.stoodInHeld t,P.eqGuardType P.depth t with
    |false,false=>match op with
     | .eql=>Il P xs ys fs.toList true fun b=>K (.bool b)
     | .neq=>Il P xs ys fs.toList true fun b=>K (.bool !b)
     |_=>False
    |_,_=>False
   |_=>False
 |_,_=>False
theorem b0t{t:TypeId}{x:Operand}{a a':Option Addr}{c n' c':Nat}:(eqGuard op t x y (.slice a n c) (.slice a' n' c')).run P w= .ok () w:=by
 unfold eqGuard;cases op<;>rfl
theorem b0u{t:TypeId}{x:Operand}{k':IntKind}{a b:Int}:(eqGuard op t x y (.int k a) (.int k' b)).run P w= .ok () w:=by
 unfold eqGuard;cases op<;>rfl
theorem b0v{t:TypeId}{x:Operand}{a b:ByteArray}:(eqGuard op t x y (.string a) (.string b)).run P w= .ok () w:=by
 unfold eqGuard;cases op<;>rfl
theorem b0w{t:TypeId}{x:Operand}{a b:Bool}:(eqGuard op t x y (.bool a) (.bool b)).run P w= .ok () w:=by
 unfold eqGuard;cases op<;>rfl
theorem a2j{t:TypeId}{b:AV}(h:Wc P ov op t a b K)
 {xo yo:Operand} {y:Value} (hx:Ad Z η w a x (fun _=>False)) (hy:Ad Z η w b y (fun _=>False)):
 POk P Z η w n (do eqGuard op t xo yo x y;binOp op t x y) K:=by
 unfold Wc at h
 split at h
 ·rename_i k p k' q
  simp only[Ad,Aj] at hx hy
  rw[hx.1,hy.1]
  refine POk.pre (fun w'=>b0u) ?_
  split at h
  ·rename_i left hl
   have hn:¬q<0:=by omega
   cases op<;>simp only[a2d,reduceCtorEq] at hl
   case shl=>
    simp only[Option.some.injEq] at hl;subst hl
    exact⟨_,.int k (shI true k p q),fun _ _=>by simp only[binOp,Op.shift,if_neg hn,shI];rfl,⟨rfl,AW⟩,trivial,h.2⟩
   case shr=>
    simp only[Option.some.injEq] at hl;subst hl
    exact⟨_,.int k (shI false k p q),fun _ _=>by simp only[binOp,Op.shift,if_neg hn,shI];rfl,⟨rfl,AW⟩,trivial,h.2⟩
  split at h
  ·rename_i hk
   have hk:=PH hk
   subst hk
   cases op<;>simp only[a2e] at h<;>try exact h.elim
   case and=>exact⟨_,.int k (En .and k p q),fun _ _=>by simp only[binOp,Op.intBits,ne_eq,not_true_eq_false,if_false,En];rfl,⟨rfl,AW⟩,trivial,h⟩
   case or=>exact⟨_,.int k (En .or k p q),fun _ _=>by simp only[binOp,Op.intBits,ne_eq,not_true_eq_false,if_false,En];rfl,⟨rfl,AW⟩,trivial,h⟩
   case xor=>exact⟨_,.int k (En .xor k p q),fun _ _=>by simp only[binOp,Op.intBits,ne_eq,not_true_eq_false,if_false,En];rfl,⟨rfl,AW⟩,trivial,h⟩
   case add=>exact⟨.int k (k.wrap (p+q)),.int k (k.wrap (p+q)),fun _ _=>by simp [binOp,Op.intArith],⟨rfl,AW⟩,trivial,Nu h⟩
   case sub=>exact⟨.int k (k.wrap (p-q)),.int k (k.wrap (p-q)),fun _ _=>by simp [binOp,Op.intArith],⟨rfl,AW⟩,trivial,Nu h⟩
   case mul=>exact⟨.int k (k.wrap (p*q)),.int k (k.wrap (p*q)),fun _ _=>by simp [binOp,Op.intArith],⟨rfl,AW⟩,trivial,Nu h⟩
   case quo=>exact⟨.int k (k.wrap (p.tdiv q)),.int k (k.wrap (p.tdiv q)),fun _ _=>by simp [binOp,Op.intDiv,h.1],⟨rfl,AW⟩,trivial,Nu h.2⟩
   case rem=>exact⟨.int k (p.tmod q),.int k (p.tmod q),fun _ _=>by simp [binOp,Op.intDiv,h.1],⟨rfl,AW⟩,trivial,h.2⟩
   all_goals exact⟨.bool _,.bool _,(fun _ _=>by simp [binOp,Op.intCmp]),⟨rfl,AW⟩,trivial,h⟩
  ·exact h.elim
 ·rename_i p q
  simp only[Ad,Aj] at hx hy
  rw[hx.1,hy.1]
  refine POk.pre (fun w'=>b0v) ?_
  cases op<;>simp only at h<;>try exact h.elim
  case add=>
   refine⟨.string ⟨(p++q).toArray⟩,.str (p++q),fun _ _=> ?_,⟨rfl,AW⟩,trivial,h.2⟩
   have hh:=h.1
   have e:(ByteArray.mk p.toArray++ByteArray.mk q.toArray)=ByteArray.mk (p++q).toArray:=by
    apply ByteArray.ext;simp
   simp only[binOp,Op.stringOp]
   rw[if_neg (by simp only[ByteArray.size,List.size_toArray];omega),e];rfl
  all_goals exact⟨_,.bool _,(fun _ _=>by simp only[binOp,Op.stringOp,ByteArray.toList_mk];rfl),⟨rfl,AW⟩,trivial,h⟩
 ·rename_i p q
  split at h
  ·rename_i hu
   simp only[Ad,Aj] at hx hy
   rw[hx.1,hy.1]
   refine POk.pre (fun w'=>b0w) ?_
   have he:∀w,(Op.equal t (.bool p) (.bool q)).run P w= .ok (p==q) w:=by
    intro w
    have hd:∀d,(Op.equalIn (d+1) t (.bool p) (.bool q)).run P w= .ok (p==q) w:=by
     intro d;unfold Op.equalIn
     rw[AU (Dn hu w)];rfl
    exact hd 9999
   cases op<;>simp only at h<;>try exact h.elim
   case eql=>exact⟨.bool (p==q),.bool (p==q),fun _ _=>by simp only[binOp];rw[AU (he _)];rfl,⟨rfl,AW⟩,trivial,h⟩
   case neq=>exact⟨.bool !(p==q),.bool !(p==q),fun _ _=>by simp only[binOp];rw[AU (he _)];rfl,⟨rfl,AW⟩,trivial,h⟩
  ·exact h.elim
 ·rename_i sz α f xs
  split at h
  ·rename_i e hu
   simp only[Ad,Aj] at hx hy
   obtain⟨_,a0,n0,c0,rfl,hn,hc,hx⟩:=hx
   rw[hy.1]
   refine POk.pre (fun w'=>b0t) ?_
   have he:∀w,(Op.equal t (.slice a0 n0 c0) (.slice none 0 0)).run P w= .ok a0.isNone w:=by
    intro w
    have hd:∀d,(Op.equalIn (d+1) t (.slice a0 n0 c0) (.slice none 0 0)).run P w= .ok a0.isNone w:=by
     intro d;unfold Op.equalIn
     rw[AU (Dn hu w)];cases a0<;>rfl
    exact hd 9999
   have hnil:a0.isNone=true→xs=[]:=by
    intro h0
    rcases hx with⟨ho,_⟩|⟨_,_,h1⟩
    ·cases ho
    ·rcases h1 with h1|⟨b,off,arr,ty,fr,ha,_⟩
     ·exact h1
     ·rw[ha] at h0;cases h0
   cases op<;>simp only at h<;>try exact h.elim
   case eql=>exact⟨.bool a0.isNone,.bool a0.isNone,fun _ _=>by simp only[binOp];rw[AU (he _)];rfl,⟨rfl,AW⟩,trivial,h _ hnil⟩
   case neq=>exact⟨.bool !a0.isNone,.bool !a0.isNone,fun _ _=>by simp only[binOp];rw[AU (he _)];rfl,⟨rfl,AW⟩,trivial,h _ (fun h0=>hnil (by simpa using h0))⟩
  ·exact h.elim
 ·rename_i xs ys
  split at h
  ·rename_i fs hu
   split at h
   ·rename_i hst hg
    simp only[Ad] at hx hy
    obtain⟨cs,rfl,hx⟩:=hx
    obtain⟨ds,rfl,hy⟩:=hy
    have hf:P.fieldsOf t=fs:=by unfold Program.fieldsOf;rw[hu]
    have key:∀ {K':Bool→Prop},Il P xs ys fs.toList true K'→∃b,(∀w',(Op.equal t (.agg cs.toArray) (.agg ds.toArray)).run P w'= .ok b w')∧K' b:=by
     intro K' hk
     obtain⟨b,h1,h2⟩:=RS hx hy 9997 fs.toList true K' hk
     refine⟨b,fun w'=> ?_,by simpa using h2⟩
     show(Op.equalIn (9999+1) t (.agg cs.toArray) (.agg ds.toArray)).run P w'=_
     rw[run_equalIn_struct w' 9999 t _ _ (by rw[hf];exact hu) hst,hf]
     exact h1 w'
    refine POk.pre (fun w'=>run_eqGuard_agg w' op t xo yo _ _ hg) ?_
    cases op<;>simp only at h<;>try exact h.elim
    case eql=>
     obtain⟨b,h1,h2⟩:=key h
     exact⟨.bool b,.bool b,fun _ _=>by simp only[binOp];rw[AU (h1 _)];rfl,⟨rfl,AW⟩,trivial,h2⟩
    case neq=>
     obtain⟨b,h1,h2⟩:=key h
     exact⟨.bool !b,.bool !b,fun _ _=>by simp only[binOp];rw[AU (h1 _)];rfl,⟨rfl,AW⟩,trivial,h2⟩
   ·exact h.elim
  ·exact h.elim
 ·exact h.elim
def Wd(op:UnOp)(a:AV)(ov:Bool)(K:AV→Prop):Prop:=
 match op,a with
 | .not,.bool b=>K (.bool !b)
 | .neg,.int k n=>LF ov k (0-n) K
 |_,_=>False
theorem b0x{op:UnOp}(h:Wd op a ov K)
 (hx:Ad Z η w a x (fun _=>False)):POk P Z η w n (Op.unary op x) K:=by
 unfold Wd at h
 split at h
 ·simp only[Ad,Aj] at hx;rw[hx.1];exact⟨_,.bool _,fun _ _=>rfl,⟨rfl,AW⟩,trivial,h⟩
 ·rename_i k m
  simp only[Ad,Aj] at hx;rw[hx.1];exact⟨_,.int k (k.wrap (0-m)),fun _ _=>rfl,⟨rfl,AW⟩,trivial,Nu h⟩
 ·exact h.elim
def PI(P:Program)(regs:List AV)(t:TypeId)(p:AV)(K:AV→Prop):Prop:=
 match p with
 | .pf c=>Ku P t (c.map Jc) K
 | .al id=>match Eh id regs with
   |some (.box _ c)=>Ku P t (Gf c) K
   |_=>False
 | .po id k sz off=>match Eh id regs with
   |some (.box _ c)=>match k,sz with
    |0,0=>Ku P t (Gf (c.drop off)) K
    |_,_=>False
   |some (.sl true _ sz' _ f xs)=>match Nat.beq sz sz' with
    |true=>k<xs.length∧∀x,xs[k]? =some x→Ku P t (((f x).map Jc).drop off) K
    |false=>False
   |_=>False
 |_=>False
def LH(Z:FP)(w w':World):Prop:=∀b,¬Z b→b<w.heap.size→w'.heap[b]? =w.heap[b]?
theorem b0y{t:TypeId}(h:Ku P t (c.map Jc) K)(hx:Ad Z η w (.pf c) x (fun _=>False)):
 ∃v r,(∀w',LH Z w w'→(Instr.loadAt t x).run P w'= .ok v w')∧Ad Z η w r v (fun _=>False)∧AR n r∧K r:=by
 simp only[Ad,Aj] at hx
 obtain⟨_,b,off,arr,ty,fr,cs,rest,S1,e,hz,hb,hd,hr,hS1⟩:=hx
 subst e
 obtain⟨v,r,h1,h2,h3,h4⟩:=a2c (n:=n) h hb hd (RN _ _ _ hr) (RM n c)
 refine⟨v,r,fun w' hw'=> ?_,h2,h3,h4⟩
 simp only[Instr.loadAt,Instr.sureAddr]
 have hlt:b<w.heap.size:=by
  rcases Nat.lt_or_ge b w.heap.size with hh|hh
  ·exact hh
  ·simp [Array.getElem?_eq_none hh] at hb
 rw[FK];exact h1 w' ((hw' b hz hlt).trans hb)
theorem We:∀(n:Nat) (l:List AV),Gf (l.drop n)=(Gf l).drop n
 |0,l=>by simp
 |n+1,[]=>by simp [Gf]
 |n+1,a::l=>by simpa [Gf] using We n l
theorem a2k{t:TypeId}(h:PI P regs t p K)
   (hR:Am Z η w regs vs S) (hI:AX n regs) (hx:Ad Z η w p x (fun _=>False)):POk P Z η w n (Instr.loadAt t x) K:=by
 unfold PI at h
 split at h
 ·rename_i c
  simp only[Ad,Aj] at hx
  obtain⟨_,b,off,arr,ty,fr,cs,rest,S1,e,hz,hb,hd,hr,hS1⟩:=hx
  subst e
  obtain⟨v,r,h1,h2,h3,h4⟩:=RO (n:=n) h hb hd (RN _ _ _ hr) (RM n c)
  refine⟨v,r,fun w' hw'=> ?_,h2,h3,h4⟩
  simp only[Instr.loadAt,Instr.sureAddr]
  rw[FK];exact h1 w' hw'
 ·rename_i id
  simp only[Ad] at hx
  obtain⟨e,_⟩:=hx
  split at h
  ·rename_i i c ho
   obtain⟨A,hA,hi,hr⟩:=Fg regs vs S _ hR ho
   have hids:=Kw regs _ hI ho
   simp only[Ad] at hr
   obtain⟨_,b,arr,ty,S1,e0,hb,hr,hj⟩:=hr
   have hrel:=Nk _ _ _ hr
   simp only[AR] at hids
   obtain⟨v,r,h1,h2,h3,h4⟩:=RO (n:=n) (off:=0) h hb (cs:=arr.toList) (rest:=[]) (by simp) hrel (Nl _ hids.2)
   refine⟨v,r,fun w' hw'=> ?_,h2,h3,h4⟩
   rw[e,e0]
   simp only[Instr.loadAt,Instr.sureAddr]
   rw[FK]
   exact h1 w' hw'
  ·exact h.elim
 ·rename_i id k sz off
  simp only[Ad] at hx
  obtain⟨e,_⟩:=hx
  split at h
  ·rename_i i c ho
   obtain⟨A,hA,hi,hr⟩:=Fg regs vs S _ hR ho
   have hids:=Kw regs _ hI ho
   split at h
   ·simp only[Ad] at hr
    obtain⟨_,b,arr,ty,S1,e0,hb,hr,hj⟩:=hr
    have hrel:=Nk _ _ _ hr
    have hrel:=PF off _ _ hrel
    rw[←We] at hrel
    simp only[AR] at hids
    obtain⟨v,r,h1,h2,h3,h4⟩:=RO (n:=n) (off:=off) h hb (cs:=arr.toList.drop off) (rest:=[]) (by simp) hrel (by rw[We];exact Kt _ _ (Nl _ hids.2))
    refine⟨v,r,fun w' hw'=> ?_,h2,h3,h4⟩
    rw[e,e0]
    simp only[Instr.loadAt,Instr.sureAddr,Fe]
    rw[FK]
    simpa [ad] using h1 w' hw'
   ·exact h.elim
  ·rename_i i sz' α f xs ho
   obtain⟨A,hA,hi,hr⟩:=Fg regs vs S _ hR ho
   split at h
   ·rename_i hsz
    have hsz:=Nat.eq_of_beq_eq_true hsz
    subst hsz
    obtain⟨hlt,h⟩:=h
    have hk:xs[k]? =some xs[k]:=by simp
    have h:=h _ hk
    simp only[Ad,Aj] at hr
    obtain⟨_,a,n',c,e0,hn,hc,hr⟩:=hr
    rcases hr with⟨_,hr⟩|⟨ho,_⟩
    ·rcases hr with⟨ha,hc0,_⟩|⟨b,boff,arr,ty,S1,ha,hb,hsz,hrows,hj⟩
     ·omega
     ·obtain⟨A',hA',hl,hr⟩:=RP xs _ S1 k xs[k] hrows hk
      rw[List.drop_drop] at hl hr
      have hp:=RN (η:=η) _ _ _ hr
      have hp:=PF off _ _ hp
      obtain⟨v,r,h1,h2,h3,h4⟩:=RO (n:=n) (off:=boff+(k*sz+off)) h hb (cs:=((arr.toList.drop (boff+k*sz)).take sz).drop off)
       (rest:=(arr.toList.drop (boff+k*sz)).drop (max sz off)) (by
         rw[←Nat.add_assoc,←List.drop_drop]
         generalize arr.toList.drop (boff+k*sz)=l
         rw[List.drop_take]
         rcases Nat.le_total off sz with hle|hle
         ·rw[Nat.max_eq_left hle]
          have e:l.drop sz=(l.drop off).drop (sz-off):=by rw[List.drop_drop];congr 1;omega
          rw[e,List.take_append_drop]
         ·rw[Nat.max_eq_right hle,Nat.sub_eq_zero_of_le hle];simp) hp (Kt _ _ (RM n _))
      refine⟨v,r,fun w' hw'=> ?_,h2,h3,h4⟩
      rw[e,e0,ha]
      simp only[Instr.loadAt,Instr.sureAddr,Fe]
      rw[FK]
      exact h1 w' hw'
    ·cases ho
   ·exact h.elim
  ·exact h.elim
 ·exact h.elim
def Nv(P:Program)(s:TypeId)(f:Nat):Option (Nat×Nat):=
 match P.underlying s with
 |some (.struct fs)=>match fs[f]? with
  |some fd=>match P.info? fd.type with
   |some i=>match i.size with
    |0=>none
    |n+1=>some (fd.offset,n+1)
   |none=>none
  |none=>none
 |_=>none
def RT(P:Program)(regs:List AV)(s:TypeId)(f:Nat)(p:AV)(K:AV→Prop):Prop:=
 match Nv P s f with
 |some (off,_)=>match p with
  | .pf c=>K (.pf (c.drop off))
  | .al id=>match Eh id regs with
    |some (.box _ _)=>K (.po id 0 0 off)
    |_=>False
  | .po id k sz o=>K (.po id k sz (o+off))
  |_=>False
 |none=>False
theorem Wf{Z:FP}{w:World}:∀(n:Nat) (azs:List AV) (cs:List Value) (S:FP),AZ Z w azs cs S→emp S→AZ Z w (azs.drop n) (cs.drop n) S
 |0,azs,cs,S,h,_=>by simpa using h
 |n+1,[],cs,S,h,_=>by simp only[AZ] at h;simp [h.1,AZ,h.2]
 |n+1,a::azs,cs,S,h,hS=>by
  simp only[AZ] at h
  obtain⟨v,cs',A,B,e,hj,h1,h2⟩:=h
  have hB:=(Hv hj hS).2
  subst e
  rw[EB hS]
  rw[EB hB] at h2
  simpa using Wf n azs cs' _ h2 AW
theorem Wg{s:TypeId}{f:Nat}(h:RT P regs s f p K)
   (hR:Am Z η w regs vs S) (hx:Ad Z η w p x (fun _=>False)) (hi:AR n p):
 ∃v r,(∀w',(Instr.fieldAt s x f).run P w'= .ok v w')∧Ad Z η w r v (fun _=>False)∧AR n r∧K r:=by
 unfold RT at h
 split at h
 ·rename_i off q hf
  unfold Nv at hf
  split at hf
  ·rename_i fs hu
   split at hf
   ·rename_i fd hfd
    split at hf
    ·rename_i i hinfo
     split at hf
     ·cases hf
     ·rename_i m hm
      simp only[Option.some.injEq,Prod.mk.injEq] at hf
      obtain⟨rfl,rfl⟩:=hf
      have hrun:∀(a:Addr) (w:World),(Instr.fieldAt s (.pointer (some a)) f).run P w= .ok (.pointer (some (a.add fd.offset))) w:=by
       intro a w
       unfold Instr.fieldAt
       rw[AU (Dn hu w)]
       simp only[hfd,Instr.sureAddr]
       rw[AU (Ce P _ w)]
       unfold fieldPlace
       rw[AU (x:=a.add fd.offset) (w':=w) ?_]
       ·rfl
       ·rw[AU (Gg hinfo w),hm];rfl
      split at h
      ·rename_i c
       simp only[Ad,Aj] at hx
       obtain⟨_,b,off,arr,ty,fr,cs,rest,S1,e,hz,hb,hd,hr,hS1⟩:=hx
       subst e
       refine⟨_,.pf (c.drop fd.offset),fun w'=>hrun _ w',?_,trivial,h⟩
       simp only[Ad,Aj]
       refine⟨AW,b,off+fd.offset,arr,ty,fr,cs.drop fd.offset,(cs++rest).drop (max cs.length fd.offset),S1,congrArg (fun a=>Value.pointer (some a)) (Hx b off fd.offset),hz,hb,?_,Wf _ _ _ _ hr hS1,hS1⟩
       rw[←List.drop_drop,hd]
       rcases Nat.le_total fd.offset cs.length with hle|hle
       ·rw[Nat.max_eq_left hle,List.drop_append_of_le_length hle];simp
       ·rw[Nat.max_eq_right hle,List.drop_eq_nil_of_le hle];simp
      ·rename_i id
       split at h
       ·rename_i i c ho
        obtain⟨A,hA,hi',hr⟩:=Fg regs vs S _ hR ho
        simp only[Ad] at hr hx
        obtain⟨_,b,arr,ty,S1,e0,_⟩:=hr
        rw[hx.1,e0]
        refine⟨_,.po id 0 0 fd.offset,fun w'=>hrun _ w',?_,hi,h⟩
        simp only[Ad]
        refine⟨?_,AW⟩
        rw[e0]
        have:=Hx b 0 fd.offset
        unfold ad at this
        rw[this];simp [Fe]
       ·exact h.elim
      ·rename_i id k sz o
       simp only[Ad] at hx
       rw[hx.1]
       refine⟨_,.po id k sz (o+fd.offset),fun w'=>hrun _ w',?_,hi,h⟩
       simp only[Ad]
       refine⟨?_,AW⟩
       have:=Hx (Fe (η id)).block ((Fe (η id)).off+(k*sz+o)) fd.offset
       unfold ad at this
       rw[this];congr 3;omega
      ·exact h.elim
    ·cases hf
   ·cases hf
  ·cases hf
 ·exact h.elim
theorem b0z{s:TypeId}{f:Nat}(h:RT P regs s f p K)
   (hR:Am Z η w regs vs S) (hx:Ad Z η w p x (fun _=>False)) (hi:AR n p):POk P Z η w n (Instr.fieldAt s x f) K:=by
 obtain⟨v,r,h1,h2,h3,h4⟩:=Wg h hR hx hi
 exact⟨v,r,fun w' _=>h1 w',h2,h3,h4⟩
def Ky(P:Program)(t:TypeId):Option (TypeId×Nat):=
 match P.underlying t with
 |some (.slice e)=>match P.info? e with
  |some i=>some (e,i.size)
  |none=>none
 |_=>none
theorem Nw{t e:TypeId}(h:Ky P t=some (e,n)):P.underlying t=some (.slice e)∧∃i,P.info? e=some i∧i.size=n:=by
 unfold Ky at h
 split at h
 ·rename_i e' hu
  split at h
  ·rename_i i hi
   simp only[Option.some.injEq,Prod.mk.injEq] at h
   obtain⟨rfl,rfl⟩:=h
   exact⟨hu,i,hi,rfl⟩
  ·cases h
 ·cases h
def Wh(P:Program)(t:TypeId):Option (Nat×Nat):=
 match P.underlying t with
 |some (.array len e)=>match P.info? e with
  |some i=>some (len,i.size)
  |none=>none
 |_=>none
theorem b0A{t:TypeId}(h:Wh P t=some (len,n)):∃e i,P.underlying t=some (.array len e)∧P.info? e=some i∧i.size=n:=by
 unfold Wh at h
 split at h
 ·rename_i l e hu
  split at h
  ·rename_i i hi
   simp only[Option.some.injEq,Prod.mk.injEq] at h
   obtain⟨rfl,rfl⟩:=h
   exact⟨e,i,hu,hi,rfl⟩
  ·cases h
 ·cases h
def RU(P:Program)(regs:List AV)(t:TypeId)(x i:AV)(K:AV→Prop):Prop:=
 match i with
 | .int _ n=>match Ky P t with
   |some (_,es)=>match x with
    | .sl false _ sz _ f xs=>match Nat.beq sz es with
      |true=>(0≤n∧n<(xs.length:Int))∧∀e,xs[n.toNat]? =some e→K (.pf (f e))
      |false=>False
    | .al id=>match Eh id regs with
      |some (.sl true _ sz _ f xs)=>match Nat.beq sz es with
       |true=>(0≤n∧n<(xs.length:Int))∧K (.po id n.toNat sz 0)
       |false=>False
      |_=>False
    |_=>False
   |none=>match Wh P t with
    |some (len,es)=>match x with
     | .al id=>match Eh id regs with
       |some (.box _ _)=>(0≤n∧n<(len:Int))∧K (.po id 0 0 (n.toNat*es))
       |_=>False
     | .po id kk sz o=>(0≤n∧n<(len:Int))∧K (.po id kk sz (o+n.toNat*es))
     | .pf c=>(0≤n∧n<(len:Int))∧K (.pf (c.drop (n.toNat*es)))
     |_=>False
    |none=>False
 |_=>False
theorem Wi{t e:TypeId}{i:TypeInfo}{n:Int}{a:Addr}(hu:P.underlying t=some (.array len e))(hi:P.info? e=some i)
 (h0:0≤n) (h1:n<(len:Int)):(Instr.indexAt t (.pointer (some a)) (.int k n)).run P w= .ok (.pointer (some (a.add (n.toNat*i.size)))) w:=by
 unfold Instr.indexAt asIntOf
 rw[AU (Ce P _ w)]
 simp only[]
 rw[AU (Dn hu w)]
 simp only[Instr.sureAddr]
 rw[AU (Ce P a w)]
 rw[AU (Ce P (some a,len,e) w)]
 rw[AU (Dn hu w)]
 simp only[h0,h1,and_self,if_true]
 rw[AU (Gg hi w)]
 rfl
theorem a2l{t e:TypeId}{i:TypeInfo}{n:Int}{a:Addr}{cap:Nat}(hu:P.underlying t=some (.slice e))(hi:P.info? e=some i)
 (h0:0≤n) (h1:n<(len:Int)):(Instr.indexAt t (.slice (some a) len cap) (.int k n)).run P w= .ok (.pointer (some (a.add (n.toNat*i.size)))) w:=by
 unfold Instr.indexAt asIntOf
 rw[AU (Ce P _ w)]
 simp only[]
 rw[AU (Dn hu w)]
 simp only[]
 rw[AU (Ce P _ w)]
 simp only[]
 rw[AU (Dn hu w)]
 simp only[h0,h1,and_self,if_true]
 rw[AU (Gg hi w)]
 rfl
theorem Wj{t:TypeId}{x i:AV}(h:RU P regs t x i K)
    (hR:Am Z η w regs vs S) (hI:AX n regs) (hx:Ad Z η w x xv (fun _=>False)) (hxi:AR n x)
 (hi:Ad Z η w i iv (fun _=>False)):
 ∃v r,(∀w',(Instr.indexAt t xv iv).run P w'= .ok v w')∧Ad Z η w r v (fun _=>False)∧AR n r∧K r:=by
 unfold RU at h
 split at h
 ·rename_i k q
  simp only[Ad,Aj] at hi
  rw[hi.1]
  split at h
  ·rename_i e es he
   obtain⟨hu,inf,hinf,hsz⟩:=Nw he
   split at h
   ·rename_i i' sz α f xs
    split at h
    ·rename_i hb
     have hb:=Nat.eq_of_beq_eq_true hb
     subst hb
     obtain⟨⟨h0,h1⟩,h⟩:=h
     have hlt:q.toNat<xs.length:=by omega
     have hk:xs[q.toNat]? =some xs[q.toNat]:=by simp
     have h:=h _ hk
     simp only[Ad,Aj] at hx
     obtain⟨_,a,n',c,ev,hn,hc,hr⟩:=hx
     rcases hr with⟨ho,_⟩|⟨_,_,hr⟩
     ·cases ho
     ·rcases hr with hr|⟨b,off,arr,ty,fr,ha,hz,hbk,hrows⟩
      ·subst hr;simp at hlt
      ·subst ha
       subst ev
       subst hn
       obtain⟨A,hA,hl,hr⟩:=RP xs _ _ _ _ hrows hk
       rw[List.drop_drop] at hl hr
       refine⟨_,.pf (f xs[q.toNat]),fun _=>a2l hu hinf h0 h1,?_,trivial,h⟩
       simp only[Ad,Aj]
       refine⟨AW,b,off+q.toNat*sz,arr,ty,fr,_,(arr.toList.drop (off+q.toNat*sz)).drop sz,A,?_,hz,hbk,(List.take_append_drop _ _).symm,hr,fun b hb=>hA b hb⟩
       rw[hsz];exact congrArg (fun a=>Value.pointer (some a)) (Hx b off _)
    ·exact h.elim
   ·rename_i id
    split at h
    ·rename_i i' sz α f xs ho
     split at h
     ·rename_i hb
      have hb:=Nat.eq_of_beq_eq_true hb
      subst hb
      obtain⟨⟨h0,h1⟩,h⟩:=h
      have hlt:q.toNat<xs.length:=by omega
      obtain⟨A,hA,hio,hr⟩:=Fg regs vs S _ hR ho
      simp only[Ad] at hx
      simp only[Ad,Aj] at hr
      obtain⟨_,a,n',c,ev,hn,hc,hr⟩:=hr
      rcases hr with⟨_,hr⟩|⟨ho,_⟩
      ·rcases hr with⟨ha,hc0,_⟩|⟨b,boff,arr,ty,S1,ha,hbk,hsz2,hrows,hj⟩
       ·omega
       ·subst ha
        subst hn
        rw[hx.1,ev]
        refine⟨_,.po id q.toNat sz 0,fun _=>a2l hu hinf h0 h1,?_,hxi,h⟩
        simp only[Ad]
        refine⟨?_,AW⟩
        rw[ev,hsz]
        simp only[Fe,Nat.add_zero]
        exact congrArg (fun a=>Value.pointer (some a)) (Hx b boff _)
      ·cases ho
     ·exact h.elim
    ·exact h.elim
   ·exact h.elim
  ·split at h
   ·rename_i len es hae
    obtain⟨e,inf,hu,hinf,hsz⟩:=b0A hae
    split at h
    ·rename_i id
     split at h
     ·rename_i i' c ho
      obtain⟨⟨h0,h1⟩,h⟩:=h
      obtain⟨A,hA,hi',hr⟩:=Fg regs vs S _ hR ho
      simp only[Ad] at hr hx
      obtain⟨_,b,arr,ty,S1,e0,_⟩:=hr
      rw[hx.1,e0]
      refine⟨_,.po id 0 0 (q.toNat*es),fun w'=>Wi hu hinf h0 h1,?_,hxi,h⟩
      simp only[Ad]
      refine⟨?_,AW⟩
      rw[e0,hsz]
      have:=Hx b 0 (q.toNat*es)
      unfold ad at this
      rw[this];simp [Fe]
     ·exact h.elim
    ·rename_i id kk sz o
     obtain⟨⟨h0,h1⟩,h⟩:=h
     simp only[Ad] at hx
     rw[hx.1]
     refine⟨_,.po id kk sz (o+q.toNat*es),fun w'=>Wi hu hinf h0 h1,?_,hxi,h⟩
     simp only[Ad]
     refine⟨?_,AW⟩
     have:=Hx (Fe (η id)).block ((Fe (η id)).off+(kk*sz+o)) (q.toNat*es)
     unfold ad at this
     rw[hsz,this];congr 3;omega
    ·rename_i c
     obtain⟨⟨h0,h1⟩,h⟩:=h
     simp only[Ad,Aj] at hx
     obtain⟨_,b,off,arr,ty,fr,cs,rest,S1,e2,hz,hb,hd,hr,hS1⟩:=hx
     subst e2
     refine⟨_,.pf (c.drop (q.toNat*es)),fun w'=>Wi hu hinf h0 h1,?_,trivial,h⟩
     simp only[Ad,Aj]
     refine⟨AW,b,off+q.toNat*es,arr,ty,fr,cs.drop (q.toNat*es),(cs++rest).drop (max cs.length (q.toNat*es)),S1,?_,hz,hb,?_,Wf _ _ _ _ hr hS1,hS1⟩
     ·rw[hsz];exact congrArg (fun a=>Value.pointer (some a)) (Hx b off (q.toNat*es))
     ·rw[←List.drop_drop,hd]
      rcases Nat.le_total (q.toNat*es) cs.length with hle|hle
      ·rw[Nat.max_eq_left hle,List.drop_append_of_le_length hle];simp
      ·rw[Nat.max_eq_right hle,List.drop_eq_nil_of_le hle];simp
    ·exact h.elim
   ·exact h.elim
 ·exact h.elim
theorem b0B{t:TypeId}{x i:AV}(h:RU P regs t x i K)
    (hR:Am Z η w regs vs S) (hI:AX n regs) (hx:Ad Z η w x xv (fun _=>False)) (hxi:AR n x)
 (hi:Ad Z η w i iv (fun _=>False)):POk P Z η w n (Instr.indexAt t xv iv) K:=by
 obtain⟨v,r,h1,h2,h3,h4⟩:=Wj h hR hI hx hxi hi
 exact⟨v,r,fun w' _=>h1 w',h2,h3,h4⟩
def PJ:List AV→Option (List (List UInt8))
 |[]=>some []
 |a::azs=>match a with
  | .str l=>match PJ azs with
    |some ls=>some (l::ls)
    |none=>none
  |_=>none
theorem a2m{Z:FP}{η:Nat→Value}{w:World}:∀(azs:List AV) (vs:List Value) (S:FP) (ls:List (List UInt8)),PJ azs=some ls→Am Z η w azs vs S→vs=ls.map fun l=>Value.string ⟨l.toArray⟩
 |[],vs,S,ls,h,hr=>by
  simp only[PJ,Option.some.injEq] at h;subst h
  simp only[Am] at hr;exact hr.1
 |a::azs,vs,S,ls,h,hr=>by
  unfold PJ at h
  split at h
  ·rename_i l
   split at h
   ·rename_i ls' hs
    simp only[Option.some.injEq] at h;subst h
    simp only[Am] at hr
    obtain⟨v,cs',A,B,e,hj,h1,h2⟩:=hr
    simp only[Ad,Aj] at h1
    rw[e,h1.1,a2m azs cs' B ls' hs h2];rfl
   ·cases h
  ·cases h
def Wk(P:Program)(t:TypeId)(x i:AV)(K:AV→Prop):Prop:=
 match i with
 | .int _ n=>match x with
   | .str l=>match P.underlying t with
     |some .string=>(0≤n∧n<(l.length:Int))∧∀c,l[n.toNat]? =some c→K (.int .u8 c.toNat)
     |_=>False
   | .agg cs=>match P.underlying t with
     |some (.array len e)=>match P.underlying e,P.info? e with
      |some d,some i=>match Hw d,Nat.beq i.size 1,PJ cs with
       |false,true,some ls=>match Nat.beq ls.length len with
        |true=>(0≤n∧n<(len:Int))∧∀l,ls[n.toNat]? =some l→K (.str l)
        |false=>False
       |_,_,_=>False
      |_,_=>False
     |_=>False
   |_=>False
 |_=>False
theorem b0C{t:TypeId}{x i:AV}(h:Wk P t x i K)
 (hx:Ad Z η w x xv (fun _=>False)) (hi:Ad Z η w i iv (fun _=>False)):POk P Z η w n (Instr.index t xv iv) K:=by
 unfold Wk at h
 split at h
 ·rename_i k q
  simp only[Ad,Aj] at hi
  rw[hi.1]
  split at h
  ·rename_i l
   split at h
   ·rename_i hu
    simp only[Ad,Aj] at hx
    rw[hx.1]
    obtain⟨⟨h0,h1⟩,h⟩:=h
    have hlt:q.toNat<l.length:=by omega
    have hk:l[q.toNat]? =some l[q.toNat]:=by simp
    refine⟨.int .u8 l[q.toNat].toNat,.int .u8 l[q.toNat].toNat,fun w _=> ?_,⟨rfl,AW⟩,trivial,h _ hk⟩
    unfold Instr.index asIntOf
    rw[AU (Ce P _ w)]
    simp only[]
    rw[AU (Dn hu w)]
    simp only[]
    have e:(if 0≤q then(ByteArray.mk l.toArray)[q.toNat]? else none)=some l[q.toNat]:=by
     rw[if_pos h0]
     have:q.toNat<(ByteArray.mk l.toArray).size:=by simpa [ByteArray.size] using hlt
     rw[getElem?_pos (ByteArray.mk l.toArray) q.toNat this]
     rfl
    rw[e];rfl
   ·exact h.elim
  ·rename_i cs
   split at h
   ·rename_i len e hu
    split at h
    ·rename_i d i hud hinf
     split at h
     ·rename_i ls hagg hsz hls
      split at h
      ·rename_i hlen
       have hlen:=Nat.eq_of_beq_eq_true hlen
       have hsz:=Nat.eq_of_beq_eq_true hsz
       obtain⟨⟨h0,h1⟩,h⟩:=h
       simp only[Ad] at hx
       obtain⟨vs,e0,hr⟩:=hx
       subst e0
       have hvs:=a2m cs vs _ ls hls hr
       have hlt:q.toNat<ls.length:=by omega
       have hk:ls[q.toNat]? =some ls[q.toNat]:=by simp
       refine⟨.string ⟨ls[q.toNat].toArray⟩,.str ls[q.toNat],fun w _=> ?_,⟨rfl,AW⟩,trivial,h _ hk⟩
       unfold Instr.index asIntOf
       rw[AU (Ce P _ w)]
       simp only[]
       rw[AU (Dn hu w)]
       simp only[h0,h1,and_self,if_true]
       rw[AU (Gg hinf w)]
       unfold part
       rw[AU (Ij hud w),hagg]
       simp only[Bool.false_eq_true,if_false]
       have:vs.toArray[q.toNat*i.size]? =some (.string ⟨ls[q.toNat].toArray⟩):=by rw[hvs,hsz];simp [hlt]
       rw[this];rfl
      ·exact h.elim
     ·exact h.elim
    ·exact h.elim
   ·exact h.elim
  ·exact h.elim
 ·exact h.elim
def HA(d:Int):Option AV→Option Int
 |none=>some d
 |some (.int _ n)=>some n
 |_=>none
def PK{α:Type}(lo hi:Bool)(p q:Int)(l:List α):List α:=match lo,hi with
 |false,false=>l
 |false,true=>l.take q.toNat
 |true,false=>l.drop p.toNat
 |true,true=>(l.take q.toNat).drop p.toNat
theorem Wl{α:Type}{hi:Option AV}{p q:Int}{l:List α}(hp:HA 0 lo=some p)(hq:HA l.length hi=some q):
 PK lo.isSome hi.isSome p q l=(l.take q.toNat).drop p.toNat:=by
 have h1:lo=none→p=0:=fun h=>by subst h;simp [HA] at hp;exact hp.symm
 have h2:hi=none→q=l.length:=fun h=>by subst h;simp [HA] at hq;exact hq.symm
 cases lo<;>cases hi<;>simp only[PK,Option.isSome]
 ·rw[h1 rfl,h2 rfl];simp
 ·rw[h1 rfl];simp
 ·rw[h2 rfl];simp
def Wm(P:Program)(t:TypeId)(x:AV)(lo hi:Option AV)(K:AV→Prop):Prop:=
 match x with
 | .str l=>match P.underlying t with
   |some .string=>match HA 0 lo,HA l.length hi with
    |some p,some q=>(0≤p∧p≤q∧q≤(l.length:Int))∧K (.str (PK lo.isSome hi.isSome p q l))
    |_,_=>False
   |_=>False
 | .sl false _ sz α f xs=>match Ky P t with
   |some (_,es)=>match Nat.beq sz es with
    |true=>match HA 0 lo,HA xs.length hi with
     |some p,some q=>(0≤p∧p≤q∧q≤(xs.length:Int))∧K (.sl false 0 sz α f (PK lo.isSome hi.isSome p q xs))
     |_,_=>False
    |false=>False
   |none=>False
 |_=>False
theorem Wn{isS:Bool}{cap:Nat}{lo hi:Option Value}{p q:Int}(hc:len≤cap)(hp:0≤p)(hpq:p≤q)(hq:q≤(len:Int))
 (hlo:lo=none∧p=0∨∃k,lo=some (.int k p)) (hhi:hi=none∧q=len∨∃k,hi=some (.int k q)):
 (Instr.sliceBounds isS len cap lo hi none).run P w= .ok (p.toNat,q.toNat,cap) w:=by
 unfold Instr.sliceBounds
 simp only[]
 rw[AU (Ce P _ w)]
 have h1:∀(y:Nat) (code:BoundsCode) (k:IntKind) (z:Int),0≤z→z≤(y:Int)→(Instr.sliceBound (.int k z) y code).run P w= .ok z.toNat w:=by
  intro y code k z h0 h1
  unfold Instr.sliceBound asIntOf
  rw[AU (Ce P _ w)]
  simp only[h0,h1,and_self,if_true];rfl
 rcases hhi with⟨rfl,rfl⟩|⟨k,rfl⟩
 ·simp only[]
  rw[AU (Ce P _ w)]
  rcases hlo with⟨rfl,rfl⟩|⟨k',rfl⟩
  ·simp only[]
   rw[AU (Ce P _ w)];simp [Ce]
  ·simp only[]
   rw[AU (h1 _ _ _ _ hp hpq)];simp [Ce]
 ·simp only[]
  rw[AU (h1 _ _ _ _ (by omega) (by omega))]
  rcases hlo with⟨rfl,rfl⟩|⟨k',rfl⟩
  ·simp only[]
   rw[AU (Ce P _ w)];simp [Ce]
  ·simp only[]
   rw[AU (h1 _ _ _ _ hp (by omega))];simp [Ce]
theorem Nx{d:Int}{p:Int}(h:HA d lo=some p){lov:Option Value}
 (hr:∀a,lo=some a→∃v,lov=some v∧Ad Z η w a v (fun _=>False)) (hn:lo=none→lov=none):lov=none∧p=d∨∃k,lov=some (.int k p):=by
 unfold HA at h
 split at h
 ·simp only[Option.some.injEq] at h;exact .inl ⟨hn rfl,h.symm⟩
 ·rename_i k n
  simp only[Option.some.injEq] at h;subst h
  obtain⟨v,hv,hr⟩:=hr _ rfl
  simp only[Ad,Aj] at hr
  exact .inr ⟨k,by rw[hv,hr.1]⟩
 ·cases h
theorem Wo{α:Type}{sz:Nat}{R:α→List Value→FP→Prop}:∀(k:Nat) (xs:List α) (cs:List Value) (S:FP),Rows sz R xs cs S→∃S',(∀b,S' b→S b)∧Rows sz R (xs.drop k) (cs.drop (k*sz)) S'
 |0,xs,cs,S,h=>⟨S,fun _ h=>h,by simpa using h⟩
 |k+1,[],cs,S,h=>⟨S,fun _ h=>h,by simpa [Rows] using h⟩
 |k+1,x::xs,cs,S,h=>by
  obtain⟨A,B,hj,hl,h1,h2⟩:=h
  obtain⟨S',hs,hr⟩:=Wo k xs (cs.drop sz) B h2
  rw[List.drop_drop] at hr
  have e:(k+1)*sz=sz+k*sz:=by rw[Nat.succ_mul];omega
  rw[e]
  exact⟨S',fun b hb=>(hj.1 b).2 (.inr (hs b hb)),by simpa using hr⟩
theorem Wp{α:Type}{sz:Nat}{R:α→List Value→FP→Prop}:∀(k:Nat) (xs:List α) (cs:List Value) (S:FP),Rows sz R xs cs S→∃S',(∀b,S' b→S b)∧Rows sz R (xs.take k) cs S'
 |0,xs,cs,S,h=>⟨fun _=>False,fun _ h=>h.elim,by simp [Rows,emp]⟩
 |k+1,[],cs,S,h=>⟨S,fun _ h=>h,by simpa [Rows] using h⟩
 |k+1,x::xs,cs,S,h=>by
  obtain⟨A,B,hj,hl,h1,h2⟩:=h
  obtain⟨S',hs,hr⟩:=Wp k xs (cs.drop sz) B h2
  exact⟨fun b=>A b∨S' b,fun b hb=>(hj.1 b).2 (hb.imp id (hs b)),A,S',⟨fun _=>Iff.rfl,fun b x y=>hj.2 b x (hs b y)⟩,hl,h1,hr⟩
theorem b0D{t:TypeId}{x:AV}{hi:Option AV}(h:Wm P t x lo hi K)
 {lov hiv:Option Value} (hx:Ad Z η w x xv (fun _=>False))
 (hlo:∀a,lo=some a→∃v,lov=some v∧Ad Z η w a v (fun _=>False)) (hlon:lo=none→lov=none)
 (hhi:∀a,hi=some a→∃v,hiv=some v∧Ad Z η w a v (fun _=>False)) (hhin:hi=none→hiv=none):POk P Z η w n (Instr.sliceAt t xv lov hiv none) K:=by
 unfold Wm at h
 split at h
 ·rename_i l
  split at h
  ·rename_i hu
   split at h
   ·rename_i p q hp hq
    obtain⟨⟨h0,h1,h2⟩,h⟩:=h
    rw[Wl hp hq] at h
    simp only[Ad,Aj] at hx
    rw[hx.1]
    refine⟨.string ⟨((l.take q.toNat).drop p.toNat).toArray⟩,.str ((l.take q.toNat).drop p.toNat),fun w2 _=> ?_,⟨rfl,AW⟩,trivial,h⟩
    unfold Instr.sliceAt Instr.slice
    rw[AU (Dn hu w2)]
    simp only[]
    rw[AU (Dn hu w2)]
    simp only[Option.isSome_none,Bool.false_eq_true,if_false]
    have hs:(ByteArray.mk l.toArray).size=l.length:=by simp [ByteArray.size]
    rw[hs]
    rw[AU (Wn (Nat.le_refl _) h0 h1 h2 (Nx hp hlo hlon) (Nx hq hhi hhin))]
    simp only[Ce]
    congr 2
    apply ByteArray.ext
    apply Array.ext'
    simp [List.drop_take]
   ·exact h.elim
  ·exact h.elim
 ·rename_i i' sz α f xs
  split at h
  ·rename_i e es he
   obtain⟨hu,inf,hinf,hsz⟩:=Nw he
   split at h
   ·rename_i hb
    have hb:=Nat.eq_of_beq_eq_true hb
    subst hb
    split at h
    ·rename_i p q hp hq
     obtain⟨⟨h0,h1,h2⟩,h⟩:=h
     rw[Wl hp hq] at h
     simp only[Ad,Aj] at hx
     obtain⟨_,a,n',c,ev,hn,hc,hr⟩:=hx
     subst ev
     subst hn
     refine⟨.slice (if c=p.toNat then a else a.map (·.add (p.toNat*sz))) (q.toNat-p.toNat) (c-p.toNat),_,fun w2 _=> ?_,?_,?_,h⟩
     ·unfold Instr.sliceAt Instr.slice
      rw[AU (Dn hu w2)]
      simp only[]
      rw[AU (Dn hu w2)]
      simp only[]
      rw[AU (Wn hc h0 h1 h2 (Nx hp hlo hlon) (Nx hq hhi hhin))]
      simp only[]
      rw[AU (Gg hinf w2),hsz];rfl
     ·simp only[Ad,Aj]
      refine⟨(fun o=>by cases o),_,_,_,rfl,?_,by omega,.inr ⟨trivial,AW,?_⟩⟩
      ·simp;omega
      ·rcases hr with⟨ho,_⟩|⟨_,_,hr⟩
       ·cases ho
       ·rcases hr with hr|⟨b,off,arr,ty,fr,ha,hz,hbk,hrows⟩
        ·subst hr;exact .inl (by simp)
        ·by_cases hcp:c=p.toNat
         ·refine .inl ?_
          apply List.drop_eq_nil_of_le
          simp;omega
         ·rw[if_neg hcp]
          subst ha
          refine .inr ⟨b,off+p.toNat*sz,arr,ty,fr,congrArg some (Hx b off _),hz,hbk,?_⟩
          obtain⟨S1,hs1,hr1⟩:=Wp q.toNat xs _ _ hrows
          obtain⟨S2,hs2,hr2⟩:=Wo p.toNat _ _ _ hr1
          rw[List.drop_drop] at hr2
          have:S2=fun _=>False:=EB (fun b hb=>hs1 b (hs2 b hb))
          rwa [this] at hr2
     ·simp only[AR];intro o;cases o
    ·exact h.elim
   ·exact h.elim
  ·exact h.elim
 ·exact h.elim
def Kz:UInt8→List AV:=fun c=>[.int .u8 c.toNat]
theorem a2n{Z:FP}{w:World}:∀(l:List UInt8) (cs:List Value) (S:FP),Rows 1 (fun x cs A=>AZ Z w (Kz x) cs A) l cs S→
 ∃rest,cs=(l.map fun c=>Value.int .u8 c.toNat)++rest
 |[],cs,S,h=>⟨cs,rfl⟩
 |c::l,cs,S,h=>by
  obtain⟨A,B,hj,hl,h1,h2⟩:=h
  obtain⟨rest,hr⟩:=a2n l _ B h2
  simp only[Kz,AZ] at h1
  obtain⟨v,cs',A1,A2,e,hj1,h3,h4,h5⟩:=h1
  simp only[Aj] at h3
  refine⟨rest,?_⟩
  have:cs=cs.take 1++cs.drop 1:=(List.take_append_drop 1 cs).symm
  rw[this,e,h3.1,h4,hr];rfl
theorem a2o:∀(l:List UInt8) (r:ByteArray),(l.map fun c=>((c.toNat:Nat):Int)).foldl (fun r n=>r.push (UInt8.ofNat n.toNat)) r=⟨r.data++l.toArray⟩
 |[],r=>by simp
 |c::l,r=>by
  simp only[List.map_cons,List.foldl_cons]
  rw[a2o l]
  apply ByteArray.ext
  simp [ByteArray.push]
theorem a2p(hw:Sees w w'){own:Bool}{id:Nat}{l:List UInt8}(h:Aj Z w (.sl own id 1 UInt8 Kz l) v S):
 ∃a n c,v= .slice a n c∧(Conv.bytesToString v).run P w'= .ok (.string ⟨l.toArray⟩) w':=by
 simp only[Aj] at h
 obtain⟨a,n,c,hv,hn,hc,h⟩:=h
 refine⟨a,n,c,hv,?_⟩
 subst hv
 have some_case:∀b off arr ty fr S1,a=some ⟨b,off,none⟩→w.heap[b]? =some (.cells arr ty fr)→Rows 1 (fun x cs A=>AZ Z w (Kz x) cs A) l (arr.toList.drop off) S1→
  (Conv.bytesToString (.slice a n c)).run P w'= .ok (.string ⟨l.toArray⟩) w':=by
  intro b off arr ty fr S1 ha hb hr
  obtain⟨rest,hd⟩:=a2n l _ _ hr
  subst ha
  have hl:=VY (P:=P) (hw.blk hb) hd
  rw[List.length_map,←hn] at hl
  have:=run_bytesToString (P:=P) w' ⟨b,off,none⟩ n c (l.map fun c=>((c.toNat:Nat):Int)) (by rw[List.map_map];exact hl)
  rw[this,a2o]
  congr 2
  apply ByteArray.ext
  simp
 have nil_case:l=[]→(Conv.bytesToString (.slice a n c)).run P w'= .ok (.string ⟨l.toArray⟩) w':=by
  intro hl
  subst hl
  simp at hn
  subst hn
  cases a with
  |none=>rfl
  |some ad=>
   have:=run_bytesToString (P:=P) w' ad 0 c [] (by simp [loadCells,loadCellsFrom])
   rw[this];rfl
 rcases h with⟨_,h⟩|⟨_,_,h⟩
 ·rcases h with⟨_,h0,_⟩|⟨b,off,arr,ty,S1,ha,hb,hsz,hr,hj⟩
  ·exact nil_case (List.length_eq_zero_iff.1 (by omega))
  ·exact some_case b off arr ty (0,0) S1 ha hb hr
 ·rcases h with h|⟨b,off,arr,ty,fr,ha,hz,hb,hr⟩
  ·exact nil_case h
  ·exact some_case b off arr ty fr S ha hb hr
end Go.Eng
end
