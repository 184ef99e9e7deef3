/- joined -/
import Derived.Calls
import Derived.KernelRfl
import Derived.Laws.Strings
import Derived.Laws.StructEq
import Derived.Laws.BytesString
set_option linter.unusedSimpArgs false
set_option linter.unusedVariables false
namespace Go
theorem AG:type_of% @And.intro:=@And.intro
theorem Oy:type_of% @Array.ext':=@Array.ext'
theorem Jr:type_of% @Array.getD_eq_getD_getElem?:=@Array.getD_eq_getD_getElem?
theorem Te:type_of% @Array.getElem?_eq_none:=@Array.getElem?_eq_none
theorem Qt:type_of% @Array.getElem?_push:=@Array.getElem?_push
theorem VN:type_of% @Array.getElem?_setIfInBounds_ne:=@Array.getElem?_setIfInBounds_ne
theorem Fi:type_of% @Array.getElem?_toList:=@Array.getElem?_toList
theorem AY:type_of% @Bool.and_eq_true:=@Bool.and_eq_true
theorem Qu:type_of% @Bool.and_true:=@Bool.and_true
theorem FI:type_of% @Bool.eq_false_iff:=@Bool.eq_false_iff
theorem DR:type_of% @Bool.eq_iff_iff:=@Bool.eq_iff_iff
theorem Lb:type_of% @Bool.false_and:=@Bool.false_and
theorem Bl:type_of% @Bool.false_eq_true:=@Bool.false_eq_true
theorem Oz:type_of% @Bool.not_eq_true:=@Bool.not_eq_true
theorem EV:type_of% @Bool.not_eq_true':=@Bool.not_eq_true'
theorem LM:type_of% @Bool.not_not:=@Bool.not_not
theorem CG:type_of% @Bool.or_eq_true:=@Bool.or_eq_true
theorem Kf:type_of% @Bool.true_and:=@Bool.true_and
theorem Cg:type_of% @Iff.rfl:=@Iff.rfl
theorem Em:type_of% @Int.le_refl:=@Int.le_refl
theorem LN:type_of% @Int.toNat_natCast:=@Int.toNat_natCast
theorem LO:type_of% @List.all_cons:=@List.all_cons
theorem CC:type_of% @List.all_eq_true:=@List.all_eq_true
theorem Bz:type_of% @List.append_assoc:=@List.append_assoc
theorem GE:type_of% @List.append_nil:=@List.append_nil
theorem HQ:type_of% @List.cons.injEq:=@List.cons.injEq
theorem EW:type_of% @List.cons_append:=@List.cons_append
theorem Lc:type_of% @List.drop_append_of_le_length:=@List.drop_append_of_le_length
theorem Dv:type_of% @List.drop_drop:=@List.drop_drop
theorem Gh:type_of% @List.drop_eq_getElem_cons:=@List.drop_eq_getElem_cons
theorem OA:type_of% @List.drop_eq_nil_of_le:=@List.drop_eq_nil_of_le
theorem EG:type_of% @List.drop_of_length_le:=@List.drop_of_length_le
theorem Na:type_of% @List.drop_succ_cons:=@List.drop_succ_cons
theorem Ld:type_of% @List.drop_take:=@List.drop_take
theorem GU:type_of% @List.drop_zero:=@List.drop_zero
theorem Qv:type_of% @List.eq_nil_of_length_eq_zero:=@List.eq_nil_of_length_eq_zero
theorem LP:type_of% @List.ext_getElem?:=@List.ext_getElem?
theorem GV:type_of% @List.flatMap_cons:=@List.flatMap_cons
theorem Tf:type_of% @List.flatten_cons:=@List.flatten_cons
theorem Le:type_of% @List.getElem?_append_left:=@List.getElem?_append_left
theorem LQ:type_of% @List.getElem?_append_right:=@List.getElem?_append_right
theorem It:type_of% @List.getElem?_drop:=@List.getElem?_drop
theorem DS:type_of% @List.getElem?_eq_getElem:=@List.getElem?_eq_getElem
theorem Gi:type_of% @List.getElem?_eq_none:=@List.getElem?_eq_none
theorem DT:type_of% @List.getElem?_eq_some_iff:=@List.getElem?_eq_some_iff
theorem LR:type_of% @List.getElem?_map:=@List.getElem?_map
theorem Qw:type_of% @List.getElem?_set:=@List.getElem?_set
theorem VO:type_of% @List.getLast?_eq_getElem?:=@List.getLast?_eq_getElem?
theorem Nb:type_of% @List.headD_cons:=@List.headD_cons
theorem Ba:type_of% @List.length_append:=@List.length_append
theorem AE:type_of% @List.length_cons:=@List.length_cons
theorem GW:type_of% @List.length_drop:=@List.length_drop
theorem Hq:type_of% @List.length_eq_zero_iff:=@List.length_eq_zero_iff
theorem Fv:type_of% @List.length_map:=@List.length_map
theorem AX:type_of% @List.length_nil:=@List.length_nil
theorem Tg:type_of% @List.length_pos_iff:=@List.length_pos_iff
theorem Lf:type_of% @List.length_set:=@List.length_set
theorem DU:type_of% @List.length_take:=@List.length_take
theorem FJ:type_of% @List.map_append:=@List.map_append
theorem En:type_of% @List.map_cons:=@List.map_cons
theorem FK:type_of% @List.mem_append:=@List.mem_append
theorem EX:type_of% @List.mem_cons:=@List.mem_cons
theorem Th:type_of% @List.mem_flatMap:=@List.mem_flatMap
theorem Iu:type_of% @List.mem_map:=@List.mem_map
theorem Iv:type_of% @List.mem_of_getElem?:=@List.mem_of_getElem?
theorem Iw:type_of% @List.mem_of_mem_drop:=@List.mem_of_mem_drop
theorem GX:type_of% @List.mem_of_mem_take:=@List.mem_of_mem_take
theorem VP:type_of% @List.mem_or_eq_of_mem_set:=@List.mem_or_eq_of_mem_set
theorem Hr:type_of% @List.nil_append:=@List.nil_append
theorem Nc:type_of% @List.set_eq_of_length_le:=@List.set_eq_of_length_le
theorem Qx:type_of% @List.sum_append:=@List.sum_append
theorem Lg:type_of% @List.sum_cons:=@List.sum_cons
theorem Js:type_of% @List.takeWhile_cons:=@List.takeWhile_cons
theorem Kg:type_of% @List.takeWhile_prefix:=@List.takeWhile_prefix
theorem Fw:type_of% @List.take_append_drop:=@List.take_append_drop
theorem Ix:type_of% @List.take_append_of_le_length:=@List.take_append_of_le_length
theorem EH:type_of% @List.take_of_length_le:=@List.take_of_length_le
theorem Kh:type_of% @List.take_succ_cons:=@List.take_succ_cons
theorem Qy:type_of% @List.take_take:=@List.take_take
theorem Qz:type_of% @List.take_zero:=@List.take_zero
theorem QA:type_of% @Nat.add_assoc:=@Nat.add_assoc
theorem OB:type_of% @Nat.add_mul:=@Nat.add_mul
theorem Cj:type_of% @Nat.eq_of_beq_eq_true:=@Nat.eq_of_beq_eq_true
theorem Tj:type_of% @Nat.eq_zero_or_pos:=@Nat.eq_zero_or_pos
theorem HR:type_of% @Nat.le_of_ble_eq_true:=@Nat.le_of_ble_eq_true
theorem Bu:type_of% @Nat.le_refl:=@Nat.le_refl
theorem Nf:type_of% @Nat.le_succ:=@Nat.le_succ
theorem Jt:type_of% @Nat.le_trans:=@Nat.le_trans
theorem Ev:type_of% @Nat.lt_of_lt_of_le:=@Nat.lt_of_lt_of_le
theorem Ju:type_of% @Nat.lt_or_ge:=@Nat.lt_or_ge
theorem Ng:type_of% @Nat.lt_succ_self:=@Nat.lt_succ_self
theorem Ki:type_of% @Nat.mul_le_mul_right:=@Nat.mul_le_mul_right
theorem QB:type_of% @Nat.ne_of_beq_eq_false:=@Nat.ne_of_beq_eq_false
theorem Hs:type_of% @Nat.succ_mul:=@Nat.succ_mul
theorem OC:type_of% @Nat.zero_mul:=@Nat.zero_mul
theorem BP:type_of% @Option.bind_eq_some_iff:=@Option.bind_eq_some_iff
theorem De:type_of% @Option.bind_some:=@Option.bind_some
theorem LT:type_of% @Option.getD_some:=@Option.getD_some
theorem FM:type_of% @Option.map_eq_some_iff:=@Option.map_eq_some_iff
theorem Kj:type_of% @Option.map_some:=@Option.map_some
theorem LU:type_of% @Option.some.inj:=@Option.some.inj
theorem AS:type_of% @Option.some.injEq:=@Option.some.injEq
theorem AH:type_of% @Prod.forall:=@Prod.forall
theorem BM:type_of% @Prod.mk.injEq:=@Prod.mk.injEq
theorem QC:type_of% @beq_eq_false_iff_ne:=@beq_eq_false_iff_ne
theorem DB:type_of% @beq_iff_eq:=@beq_iff_eq
theorem LV:type_of% @bne_iff_ne:=@bne_iff_ne
theorem OD:type_of% @decide_eq_decide:=@decide_eq_decide
theorem Gj:type_of% @decide_eq_false:=@decide_eq_false
theorem GY:type_of% @decide_eq_false_iff_not:=@decide_eq_false_iff_not
theorem Ht:type_of% @decide_eq_true:=@decide_eq_true
theorem Bf:type_of% @decide_eq_true_eq:=@decide_eq_true_eq
theorem LW:type_of% @false_iff:=@false_iff
theorem Br:type_of% @if_false:=@if_false
theorem BN:type_of% @if_true:=@if_true
theorem LY:type_of% @iff_false:=@iff_false
theorem LZ:type_of% @iff_true:=@iff_true
theorem Ma:type_of% @not_false_eq_true:=@not_false_eq_true
theorem Mb:type_of% @not_true:=@not_true
theorem Mc:type_of% @true_iff:=@true_iff
abbrev Aa:=List UInt8
abbrev Ad:=List Int
end Go
section
namespace Go.Eng
variable {P:Program}{arr:Array Value}{b i len n off:Nat}{cs rest vs:List Value}{fr:Nat×Nat}{iv v x xv:Value}{k:IntKind}{op:BinOp}{ov:Bool}{w w':World}{y:Operand}{η:Nat→Value}
abbrev FP:=Nat→Prop
variable {A B S Z:FP}
def emp(S:FP):Prop:=∀b,¬S b
def one(b:Nat):FP:=fun c=>c=b
def Bm(S A B:FP):Prop:=(∀b,S b↔(A b∨B b))∧(∀b,A b→B b→False)
def Dm:Value→Prop
 | .agg _=>False
 | .tuple _=>False
 |_=>True
def HS:Fn→List Value→Value
 | .yield g,cs=> .func (.func g) cs.toArray #[]
 |fn,cs=> .func fn #[] cs.toArray
theorem Tk{fn:Fn}:Dm (HS fn cs):=by cases fn<;>trivial
inductive AV:Type 1
 |int (k:IntKind) (n:Int)
 |bool (b:Bool)
 |str (l:Aa)
 |val (v:Value)
 |any
 |top
 |nil
 |hole (id:Nat)
 |al (id:Nat)
 |po (id k sz off:Nat)
 |agg (fs:List AV)
 |tup (vs:List AV)
 |box (id:Nat) (c:List AV)
 |bv (x:Value) (c:List AV)
 |hv (x:Value)
 |pf (c:List AV)
 |clo (fn:Fn) (caps:List AV)
 |sl (own:Bool) (id sz:Nat) (α:Type) (f:α→List AV) (xs:List α)
variable {K:AV→Prop}{a p:AV}{azs c regs:List AV}{lo:Option AV}
def Rows{α:Type}(sz:Nat)(R:α→List Value→FP→Prop):List α→List Value→FP→Prop
 |[],_,S=>emp S
 |x::xs,cs,S=>∃A B,Bm S A B∧(cs.take sz).length=sz∧R x (cs.take sz) A∧Rows sz R xs (cs.drop sz) B
mutual
def Aj(Z:FP)(w:World):AV→Value→FP→Prop
 | .int k n,v,S=>v= .int k n∧emp S
 | .bool b,v,S=>v= .bool b∧emp S
 | .str l,v,S=>v= .string ⟨l.toArray⟩∧emp S
 | .val x,v,S=>v=x∧Dm x∧emp S
 | .any,v,S=>Dm v∧emp S
 | .top,v,S=>emp S
 | .nil,v,S=>v= .slice none 0 0∧emp S
 | .agg fs,v,S=>∃cs:List Value,v= .agg cs.toArray∧AU Z w fs cs S
 | .tup fs,v,S=>∃cs:List Value,v= .tuple cs.toArray∧AU Z w fs cs S
 | .clo fn fs,v,S=>∃cs:List Value,v=HS fn cs∧AU Z w fs cs S
 | .box _ c,v,S=>∃b arr ty S1,v= .pointer (some ⟨b,0,none⟩)∧w.heap[b]? =some (.cells arr ty (0,0))∧
    AU Z w c arr.toList S1∧Bm S (one b) S1
 | .bv x c,v,S=>v=x∧∃b arr ty S1,v= .pointer (some ⟨b,0,none⟩)∧w.heap[b]? =some (.cells arr ty (0,0))∧
    AU Z w c arr.toList S1∧Bm S (one b) S1
 | .hv x,v,S=>v=x∧Dm x∧emp S
 | .pf c,v,S=>emp S∧∃b off arr ty fr cs rest S1,v= .pointer (some ⟨b,off,none⟩)∧¬Z b∧w.heap[b]? =some (.cells arr ty fr)∧
    arr.toList.drop off=cs++rest∧AU Z w c cs S1∧emp S1
 | .sl own _ sz _ f xs,v,S=>∃a n c,v= .slice a n c∧n=xs.length∧n≤c∧
    ((own=true∧((a=none∧c=0∧emp S)∨∃b off arr ty S1,a=some ⟨b,off,none⟩∧w.heap[b]? =some (.cells arr ty (0,0))∧
       off+c*sz≤arr.size∧Rows sz (fun x cs A=>AU Z w (f x) cs A) xs (arr.toList.drop off) S1∧Bm S (one b) S1))∨
     (own=false∧emp S∧(xs=[]∨∃b off arr ty fr,a=some ⟨b,off,none⟩∧¬Z b∧w.heap[b]? =some (.cells arr ty fr)∧
       Rows sz (fun x cs A=>AU Z w (f x) cs A) xs (arr.toList.drop off) S)))
 | .hole _,_,_=>False
 | .al _,_,_=>False
 | .po _ _ _ _,_,_=>False
def AU(Z:FP)(w:World):List AV→List Value→FP→Prop
 |[],cs,S=>cs=[]∧emp S
 |a::azs,cs,S=>∃v cs' A B,cs=v::cs'∧Bm S A B∧Aj Z w a v A∧AU Z w azs cs' B
end
theorem Hv(h:Bm S A B)(ha:emp A):∀b,S b↔B b:=by
 intro b;rw[h.1 b];exact⟨fun| .inl x=>(ha b x).elim| .inr x=>x,.inr⟩
theorem a6E(h:Bm S A B)(hb:emp B):∀b,S b↔A b:=by
 intro b;rw[h.1 b];exact⟨fun| .inr x=>(hb b x).elim| .inl x=>x,.inl⟩
theorem FO(h:∀b,A b↔B b):A=B:=funext fun b=>propext (h b)
theorem Cu(S:FP):Bm S (fun _=>False) S:=⟨fun b=>by simp,fun b h=>h.elim⟩
theorem Me(S:FP):Bm S S (fun _=>False):=⟨fun b=>by simp,fun b _ h=>h⟩
theorem a6F(h:Bm S A B):Bm S B A:=⟨fun b=>by rw[h.1 b];exact or_comm,fun b x y=>h.2 b y x⟩
theorem Nh{C D:FP}(h:Bm S A B)(h2:Bm B C D):∃E,Bm S E D∧Bm E A C:=
 ⟨fun b=>A b∨C b,⟨fun b=>by rw[h.1 b,h2.1 b];exact or_assoc.symm,fun b x y=>x.elim (fun x=>h.2 b x ((h2.1 b).2 (.inr y))) (fun x=>h2.2 b x y)⟩,
   ⟨fun b=>Cg,fun b x y=>h.2 b x ((h2.1 b).2 (.inl y))⟩⟩
theorem Tl{C D:FP}(h:Bm S A B)(h2:Bm A C D):∃E,Bm S C E∧Bm E D B:=
 ⟨fun b=>D b∨B b,⟨fun b=>by rw[h.1 b,h2.1 b];exact or_assoc,fun b x y=>y.elim (fun y=>h2.2 b x y) (fun y=>h.2 b ((h2.1 b).2 (.inl x)) y)⟩,
   ⟨fun b=>Cg,fun b x y=>h.2 b ((h2.1 b).2 (.inr x)) y⟩⟩
theorem Jv(h:Bm S A B)(hs:emp S):emp A∧emp B:=
 ⟨fun b x=>hs b ((h.1 b).2 (.inl x)),fun b x=>hs b ((h.1 b).2 (.inr x))⟩
theorem AI:emp (fun _=>False):=fun _ h=>h
theorem Fx(h:emp S):S=fun _=>False:=funext fun b=>propext ⟨fun x=>h b x,False.elim⟩
theorem Lh{α:Type}{sz:Nat}{R R':α→List Value→FP→Prop}:∀(xs:List α) (cs:List Value) (S:FP),
 (∀x cs A,(∀b,A b→S b)→R x cs A→R' x cs A)→Rows sz R xs cs S→Rows sz R' xs cs S
 |[],_,_,_,h=>h
 |x::xs,cs,S,hr,h=>by
  obtain⟨A,B,hj,hl,h1,h2⟩:=h
  exact⟨A,B,hj,hl,hr _ _ _ (fun b hb=>(hj.1 b).2 (.inl hb)) h1,Lh xs _ B (fun x cs A' hA=>hr x cs A' (fun b hb=>(hj.1 b).2 (.inr (hA b hb)))) h2⟩
mutual
theorem Hw{Z Z':FP}{w w':World}(hZ:∀b,¬Z b→b<w.heap.size→¬Z' b∧w'.heap[b]? =w.heap[b]?):
 ∀(a:AV) (v:Value) (S:FP),(∀b,S b→w'.heap[b]? =w.heap[b]?)→Aj Z w a v S→Aj Z' w' a v S
 | .int _ _,_,_,_,h=>h
 | .bool _,_,_,_,h=>h
 | .str _,_,_,_,h=>h
 | .val _,_,_,_,h=>h
 | .any,_,_,_,h=>h
 | .top,_,_,_,h=>h
 | .nil,_,_,_,h=>h
 | .agg fs,v,S,hS,h=>by
   simp only[Aj] at h ⊢;obtain⟨cs,e,h⟩:=h;exact⟨cs,e,Ea hZ fs cs S hS h⟩
 | .tup fs,v,S,hS,h=>by
   simp only[Aj] at h ⊢;obtain⟨cs,e,h⟩:=h;exact⟨cs,e,Ea hZ fs cs S hS h⟩
 | .clo _ fs,v,S,hS,h=>by
   simp only[Aj] at h ⊢;obtain⟨cs,e,h⟩:=h;exact⟨cs,e,Ea hZ fs cs S hS h⟩
 | .box _ c,v,S,hS,h=>by
   simp only[Aj] at h ⊢
   obtain⟨b,arr,ty,S1,e,hb,h,hj⟩:=h
   exact⟨b,arr,ty,S1,e,by rw[hS b ((hj.1 b).2 (.inl rfl))];exact hb,Ea hZ c _ S1 (fun b hb=>hS b ((hj.1 b).2 (.inr hb))) h,hj⟩
 | .bv _ c,v,S,hS,h=>by
   simp only[Aj] at h ⊢
   obtain⟨e0,b,arr,ty,S1,e,hb,h,hj⟩:=h
   exact⟨e0,b,arr,ty,S1,e,by rw[hS b ((hj.1 b).2 (.inl rfl))];exact hb,Ea hZ c _ S1 (fun b hb=>hS b ((hj.1 b).2 (.inr hb))) h,hj⟩
 | .hv _,_,_,_,h=>h
 | .pf c,v,S,hS,h=>by
   simp only[Aj] at h ⊢
   obtain⟨he,b,off,arr,ty,fr,cs,rest,S1,e,hz,hb,hd,h,h1⟩:=h
   have hlt:b<w.heap.size:=by
    rcases Ju b w.heap.size with hh|hh
    ·exact hh
    ·simp [Te hh] at hb
   exact⟨he,b,off,arr,ty,fr,cs,rest,S1,e,(hZ b hz hlt).1,by rw[(hZ b hz hlt).2];exact hb,hd,Ea hZ c _ S1 (fun b hb=>(h1 b hb).elim) h,h1⟩
 | .sl own _ sz α f xs,v,S,hS,h=>by
   simp only[Aj] at h ⊢
   obtain⟨a,n,c,e,hn,hc,h⟩:=h
   refine⟨a,n,c,e,hn,hc,?_⟩
   rcases h with⟨ho,h⟩|⟨ho,he,h⟩
   ·refine .inl ⟨ho,?_⟩
    rcases h with h|⟨b,off,arr,ty,S1,ha,hb,hsz,hr,hj⟩
    ·exact .inl h
    ·refine .inr ⟨b,off,arr,ty,S1,ha,by rw[hS b ((hj.1 b).2 (.inl rfl))];exact hb,hsz,?_,hj⟩
     exact Lh xs _ S1 (fun x cs A hA hx=>Ea hZ (f x) cs A (fun b hb=>hS b ((hj.1 b).2 (.inr (hA b hb)))) hx) hr
   ·refine .inr ⟨ho,he,?_⟩
    rcases h with h|⟨b,off,arr,ty,fr,ha,hz,hb,hr⟩
    ·exact .inl h
    ·have hlt:b<w.heap.size:=by
      rcases Ju b w.heap.size with hh|hh
      ·exact hh
      ·simp [Te hh] at hb
     refine .inr ⟨b,off,arr,ty,fr,ha,(hZ b hz hlt).1,by rw[(hZ b hz hlt).2];exact hb,?_⟩
     exact Lh xs _ S (fun x cs A hA hx=>Ea hZ (f x) cs A (fun b hb=>hS b (hA b hb)) hx) hr
 | .hole _,_,_,_,h=>h
 | .al _,_,_,_,h=>h
 | .po _ _ _ _,_,_,_,h=>h
theorem Ea{Z Z':FP}{w w':World}(hZ:∀b,¬Z b→b<w.heap.size→¬Z' b∧w'.heap[b]? =w.heap[b]?):
 ∀(azs:List AV) (cs:List Value) (S:FP),(∀b,S b→w'.heap[b]? =w.heap[b]?)→AU Z w azs cs S→AU Z' w' azs cs S
 |[],_,_,_,h=>h
 |a::azs,cs,S,hS,h=>by
  simp only[AU] at h ⊢
  obtain⟨v,cs',A,B,e,hj,h1,h2⟩:=h
  exact⟨v,cs',A,B,e,hj,Hw hZ a v A (fun b hb=>hS b ((hj.1 b).2 (.inl hb))) h1,Ea hZ azs cs' B (fun b hb=>hS b ((hj.1 b).2 (.inr hb))) h2⟩
end
def Gk:Value→Addr
 | .slice (some a) _ _=>a
 | .pointer (some a)=>a
 |_=>⟨0,0,none⟩
mutual
def Af(Z:FP)(η:Nat→Value)(w:World):AV→Value→FP→Prop
 | .al id,v,S=>v=η id∧Dm v∧emp S
 | .hole id,v,S=>v=η id∧Dm v∧emp S
 | .po id k sz off,v,S=>v= .pointer (some ⟨(Gk (η id)).block,(Gk (η id)).off+(k*sz+off),none⟩)∧emp S
 | .agg fs,v,S=>∃cs:List Value,v= .agg cs.toArray∧Am Z η w fs cs S
 | .tup fs,v,S=>∃cs:List Value,v= .tuple cs.toArray∧Am Z η w fs cs S
 | .clo fn fs,v,S=>∃cs:List Value,v=HS fn cs∧Am Z η w fs cs S
 | .box id c,v,S=>v=η id∧∃b arr ty S1,v= .pointer (some ⟨b,0,none⟩)∧w.heap[b]? =some (.cells arr ty (0,0))∧
    Am Z η w c arr.toList S1∧Bm S (one b) S1
 | .bv x c,v,S=>v=x∧∃b arr ty S1,v= .pointer (some ⟨b,0,none⟩)∧w.heap[b]? =some (.cells arr ty (0,0))∧
    Am Z η w c arr.toList S1∧Bm S (one b) S1
 | .hv x,v,S=>Aj Z w (.hv x) v S
 | .sl own id sz α f xs,v,S=>(own=true→v=η id)∧Aj Z w (.sl own id sz α f xs) v S
 | .int k n,v,S=>Aj Z w (.int k n) v S
 | .bool b,v,S=>Aj Z w (.bool b) v S
 | .str l,v,S=>Aj Z w (.str l) v S
 | .val x,v,S=>Aj Z w (.val x) v S
 | .any,v,S=>Aj Z w .any v S
 | .top,v,S=>Aj Z w .top v S
 | .nil,v,S=>Aj Z w .nil v S
 | .pf c,v,S=>Aj Z w (.pf c) v S
def Am(Z:FP)(η:Nat→Value)(w:World):List AV→List Value→FP→Prop
 |[],cs,S=>cs=[]∧emp S
 |a::azs,cs,S=>∃v cs' A B,cs=v::cs'∧Bm S A B∧Af Z η w a v A∧Am Z η w azs cs' B
end
mutual
def Az(n:Nat):AV→Prop
 | .al id=>id<n
 | .hole id=>id<n
 | .po id _ _ _=>id<n
 | .agg fs=>AN n fs
 | .tup fs=>AN n fs
 | .clo _ fs=>AN n fs
 | .box id c=>id<n∧AN n c
 | .bv _ c=>AN n c
 | .sl own id _ _ _ _=>own=true→id<n
 |_=>True
def AN(n:Nat):List AV→Prop
 |[]=>True
 |a::azs=>Az n a∧AN n azs
end
mutual
theorem a6G{n m:Nat}(h:n≤m):∀a:AV,Az n a→Az m a
 | .al _,x=>Ev x h
 | .hole _,x=>Ev x h
 | .po _ _ _ _,x=>Ev x h
 | .agg fs,x=>by simp only[Az] at x ⊢;exact GZ h fs x
 | .tup fs,x=>by simp only[Az] at x ⊢;exact GZ h fs x
 | .clo _ fs,x=>by simp only[Az] at x ⊢;exact GZ h fs x
 | .box _ c,x=>by simp only[Az] at x ⊢;exact⟨Ev x.1 h,GZ h c x.2⟩
 | .bv _ c,x=>by simp only[Az] at x ⊢;exact GZ h c x
 | .hv _,x=>x
 | .sl _ _ _ _ _ _,x=>fun o=>Ev (x o) h
 | .int _ _,x=>x
 | .bool _,x=>x
 | .str _,x=>x
 | .val _,x=>x
 | .any,x=>x
 | .top,x=>x
 | .nil,x=>x
 | .pf _,x=>x
theorem GZ{n m:Nat}(h:n≤m):∀azs:List AV,AN n azs→AN m azs
 |[],x=>x
 |a::azs,x=>by simp only[AN] at x ⊢;exact⟨a6G h a x.1,GZ h azs x.2⟩
end
structure Moves (Z Z':FP) (w w':World):Prop where
 fz:∀b,¬Z b→b<w.heap.size→¬Z' b∧w'.heap[b]? =w.heap[b]?
mutual
theorem a6H{n:Nat}{Z Z':FP}{η η':Nat→Value}{w w':World}(hZ:∀b,¬Z b→b<w.heap.size→¬Z' b∧w'.heap[b]? =w.heap[b]?)
 (hη:∀i,i<n→η' i=η i):
 ∀(a:AV) (v:Value) (S:FP),Az n a→(∀b,S b→w'.heap[b]? =w.heap[b]?)→Af Z η w a v S→Af Z' η' w' a v S
 | .al id,v,S,hi,hS,h=>by
   simp only[Af] at h ⊢;simp only[Az] at hi;rw[hη id hi];exact h
 | .hole id,v,S,hi,hS,h=>by
   simp only[Af] at h ⊢;simp only[Az] at hi;rw[hη id hi];exact h
 | .po id _ _ _,v,S,hi,hS,h=>by
   simp only[Af] at h ⊢;simp only[Az] at hi;rw[hη id hi];exact h
 | .agg fs,v,S,hi,hS,h=>by
   simp only[Af] at h ⊢;simp only[Az] at hi;obtain⟨cs,e,h⟩:=h;exact⟨cs,e,Dj hZ hη fs cs S hi hS h⟩
 | .tup fs,v,S,hi,hS,h=>by
   simp only[Af] at h ⊢;simp only[Az] at hi;obtain⟨cs,e,h⟩:=h;exact⟨cs,e,Dj hZ hη fs cs S hi hS h⟩
 | .clo _ fs,v,S,hi,hS,h=>by
   simp only[Af] at h ⊢;simp only[Az] at hi;obtain⟨cs,e,h⟩:=h;exact⟨cs,e,Dj hZ hη fs cs S hi hS h⟩
 | .box id c,v,S,hi,hS,h=>by
   simp only[Af] at h ⊢;simp only[Az] at hi
   obtain⟨e0,b,arr,ty,S1,e,hb,h,hj⟩:=h
   exact⟨by rw[hη id hi.1];exact e0,b,arr,ty,S1,e,by rw[hS b ((hj.1 b).2 (.inl rfl))];exact hb,Dj hZ hη c _ S1 hi.2 (fun b hb=>hS b ((hj.1 b).2 (.inr hb))) h,hj⟩
 | .bv _ c,v,S,hi,hS,h=>by
   simp only[Af] at h ⊢;simp only[Az] at hi
   obtain⟨e0,b,arr,ty,S1,e,hb,h,hj⟩:=h
   exact⟨e0,b,arr,ty,S1,e,by rw[hS b ((hj.1 b).2 (.inl rfl))];exact hb,Dj hZ hη c _ S1 hi (fun b hb=>hS b ((hj.1 b).2 (.inr hb))) h,hj⟩
 | .hv _,v,S,_,hS,h=>Hw hZ _ v S hS h
 | .sl own id sz α f xs,v,S,hi,hS,h=>by
   simp only[Af] at h ⊢;simp only[Az] at hi
   exact⟨fun o=>by rw[hη id (hi o)];exact h.1 o,Hw hZ _ v S hS h.2⟩
 | .int _ _,v,S,_,hS,h=>Hw hZ _ v S hS h
 | .bool _,v,S,_,hS,h=>Hw hZ _ v S hS h
 | .str _,v,S,_,hS,h=>Hw hZ _ v S hS h
 | .val _,v,S,_,hS,h=>Hw hZ _ v S hS h
 | .any,v,S,_,hS,h=>Hw hZ _ v S hS h
 | .top,v,S,_,hS,h=>Hw hZ _ v S hS h
 | .nil,v,S,_,hS,h=>Hw hZ _ v S hS h
 | .pf _,v,S,_,hS,h=>Hw hZ _ v S hS h
theorem Dj{n:Nat}{Z Z':FP}{η η':Nat→Value}{w w':World}(hZ:∀b,¬Z b→b<w.heap.size→¬Z' b∧w'.heap[b]? =w.heap[b]?)
 (hη:∀i,i<n→η' i=η i):
 ∀(azs:List AV) (cs:List Value) (S:FP),AN n azs→(∀b,S b→w'.heap[b]? =w.heap[b]?)→Am Z η w azs cs S→Am Z' η' w' azs cs S
 |[],_,_,_,_,h=>h
 |a::azs,cs,S,hi,hS,h=>by
  simp only[Am] at h ⊢;simp only[AN] at hi
  obtain⟨v,cs',A,B,e,hj,h1,h2⟩:=h
  exact⟨v,cs',A,B,e,hj,a6H hZ hη a v A hi.1 (fun b hb=>hS b ((hj.1 b).2 (.inl hb))) h1,
   Dj hZ hη azs cs' B hi.2 (fun b hb=>hS b ((hj.1 b).2 (.inr hb))) h2⟩
end
mutual
def DJ:AV→AV
 | .sl true id _ _ _ _=> .al id
 | .box id _=> .al id
 | .bv x _=> .val x
 | .hv x=> .val x
 | .agg fs=> .agg (Hx fs)
 | .clo fn fs=> .clo fn (Hx fs)
 | .tup fs=> .tup (Hx fs)
 | .hole id=> .al id
 |a=>a
def Hx:List AV→List AV
 |[]=>[]
 |a::azs=>DJ a::Hx azs
end
theorem OE{own id sz α f xs v S}(h:Aj Z w (.sl own id sz α f xs) v S):Dm v:=by
 simp only[Aj] at h;obtain⟨a,n,c,e,_⟩:=h;subst e;trivial
mutual
theorem a6I{Z:FP}{η:Nat→Value}{w:World}:∀(a:AV) (v:Value) (S:FP),Af Z η w a v S→Af Z η w (DJ a) v (fun _=>False)
 | .al id,v,S,h=>by simp only[Af,DJ] at h ⊢;exact⟨h.1,h.2.1,AI⟩
 | .hole id,v,S,h=>by simp only[Af,DJ] at h ⊢;exact⟨h.1,h.2.1,AI⟩
 | .po id _ _ _,v,S,h=>by simp only[Af,DJ] at h ⊢;exact⟨h.1,AI⟩
 | .agg fs,v,S,h=>by
   simp only[Af,DJ] at h ⊢;obtain⟨cs,e,h⟩:=h;exact⟨cs,e,QD fs cs S h⟩
 | .tup fs,v,S,h=>by
   simp only[Af,DJ] at h ⊢;obtain⟨cs,e,h⟩:=h;exact⟨cs,e,QD fs cs S h⟩
 | .clo _ fs,v,S,h=>by
   simp only[Af,DJ] at h ⊢;obtain⟨cs,e,h⟩:=h;exact⟨cs,e,QD fs cs S h⟩
 | .box id c,v,S,h=>by
   simp only[Af,DJ] at h ⊢
   obtain⟨e0,b,arr,ty,S1,e,_⟩:=h
   exact⟨e0,by rw[e];trivial,AI⟩
 | .bv x c,v,S,h=>by
   simp only[Af,DJ,Aj] at h ⊢
   obtain⟨e0,b,arr,ty,S1,e,_⟩:=h
   exact⟨e0,by rw[←e0,e];trivial,AI⟩
 | .hv x,v,S,h=>by simp only[Af,DJ,Aj] at h ⊢;exact⟨h.1,h.2.1,AI⟩
 | .sl true id sz α f xs,v,S,h=>by
   simp only[Af,DJ] at h ⊢
   exact⟨h.1 trivial,OE h.2,AI⟩
 | .sl false id sz α f xs,v,S,h=>by
   simp only[Af,DJ] at h ⊢
   refine⟨fun o=>by simp at o,?_⟩
   have h:=h.2
   have he:emp S:=by
    simp only[Aj] at h
    obtain⟨a,n,c,e,hn,hc,h⟩:=h
    rcases h with⟨ho,_⟩|⟨_,he,_⟩
    ·simp at ho
    ·exact he
   rwa [Fx he] at h
 | .int _ _,v,S,h=>by simp only[Af,DJ,Aj] at h ⊢;exact⟨h.1,AI⟩
 | .bool _,v,S,h=>by simp only[Af,DJ,Aj] at h ⊢;exact⟨h.1,AI⟩
 | .str _,v,S,h=>by simp only[Af,DJ,Aj] at h ⊢;exact⟨h.1,AI⟩
 | .val _,v,S,h=>by simp only[Af,DJ,Aj] at h ⊢;exact⟨h.1,h.2.1,AI⟩
 | .any,v,S,h=>by simp only[Af,DJ,Aj] at h ⊢;exact⟨h.1,AI⟩
 | .top,v,S,h=>by simp only[Af,DJ,Aj] at h ⊢;exact AI
 | .nil,v,S,h=>by simp only[Af,DJ,Aj] at h ⊢;exact⟨h.1,AI⟩
 | .pf _,v,S,h=>by simp only[Af,DJ,Aj] at h ⊢;exact⟨AI,h.2⟩
theorem QD{Z:FP}{η:Nat→Value}{w:World}:∀(azs:List AV) (cs:List Value) (S:FP),Am Z η w azs cs S→Am Z η w (Hx azs) cs (fun _=>False)
 |[],cs,S,h=>by simp only[Am,Hx] at h ⊢;exact⟨h.1,AI⟩
 |a::azs,cs,S,h=>by
  simp only[Am,Hx] at h ⊢
  obtain⟨v,cs',A,B,e,hj,h1,h2⟩:=h
  exact⟨v,cs',_,_,e,Cu _,a6I a v A h1,QD azs cs' B h2⟩
end
mutual
theorem a6J{n:Nat}:∀a:AV,Az n a→Az n (DJ a)
 | .al _,h=>h
 | .hole _,h=>h
 | .po _ _ _ _,h=>h
 | .agg fs,h=>by simp only[Az,DJ] at h ⊢;exact QE fs h
 | .tup fs,h=>by simp only[Az,DJ] at h ⊢;exact QE fs h
 | .clo _ fs,h=>by simp only[Az,DJ] at h ⊢;exact QE fs h
 | .box id c,h=>by simp only[Az,DJ] at h ⊢;exact h.1
 | .bv _ _,h=>trivial
 | .hv _,h=>trivial
 | .sl true id sz α f xs,h=>by simp only[Az,DJ] at h ⊢;exact h trivial
 | .sl false id sz α f xs,h=>h
 | .int _ _,h=>h
 | .bool _,h=>h
 | .str _,h=>h
 | .val _,h=>h
 | .any,h=>h
 | .top,h=>h
 | .nil,h=>h
 | .pf _,h=>h
theorem QE{n:Nat}:∀azs:List AV,AN n azs→AN n (Hx azs)
 |[],h=>h
 |a::azs,h=>by simp only[AN,Hx] at h ⊢;exact⟨a6J a h.1,QE azs h.2⟩
end
theorem Gl{Z:FP}{η:Nat→Value}{w:World}:∀(azs:List AV) (vs:List Value) (S:FP) (i:Nat) (a:AV),Am Z η w azs vs S→azs[i]? =some a→
 ∃v A B,vs[i]? =some v∧Af Z η w a v A∧Bm S A B∧
  ∀a' v' A' S',Af Z η w a' v' A'→Bm S' A' B→Am Z η w (azs.set i a') (vs.set i v') S'
 |[],vs,S,i,a,h,hi=>by simp at hi
 |x::azs,vs,S,0,a,h,hi=>by
  simp only[Am] at h
  obtain⟨v,cs',A,B,e,hj,h1,h2⟩:=h
  simp at hi;subst hi;subst e
  refine⟨v,A,B,rfl,h1,hj,fun a' v' A' S' hr hj'=> ?_⟩
  simp only[List.set,Am]
  exact⟨v',cs',A',B,rfl,hj',hr,h2⟩
 |x::azs,vs,S,i+1,a,h,hi=>by
  simp only[Am] at h
  obtain⟨v,cs',A,B,e,hj,h1,h2⟩:=h
  subst e
  obtain⟨u,C,D,hu,hr,hj2,hk⟩:=Gl azs cs' B i a h2 (by simpa using hi)
  obtain⟨E,hE,hEA⟩:=Nh hj hj2
  obtain⟨E',hE',hE2⟩:=Nh hj (a6F hj2)
  have hcd:Bm (fun b=>A b∨D b) A D:=⟨fun _=>Cg,fun b x y=>hj.2 b x ((hj2.1 b).2 (.inr y))⟩
  refine⟨u,C,fun b=>A b∨D b,by simpa using hu,hr,⟨fun b=> ?_,fun b x y=> ?_⟩,fun a' v' A' S' hr' hj'=> ?_⟩
  ·rw[hj.1 b,hj2.1 b];exact⟨fun h=>h.elim (fun h=> .inr (.inl h)) (fun h=>h.elim .inl (fun h=> .inr (.inr h))),fun h=>h.elim (fun h=> .inr (.inl h)) (fun h=>h.elim .inl (fun h=> .inr (.inr h)))⟩
  ·exact y.elim (fun y=>hj.2 b y ((hj2.1 b).2 (.inl x))) (fun y=>hj2.2 b x y)
  ·simp only[List.set,Am]
   refine⟨v,cs'.set i v',A,fun b=>A' b∨D b,rfl,⟨fun b=> ?_,fun b x y=> ?_⟩,h1,hk a' v' A' _ hr' ⟨fun _=>Cg,fun b x y=>hj'.2 b x (.inr y)⟩⟩
   ·rw[hj'.1 b];exact⟨fun h=>h.elim (fun h=> .inr (.inl h)) (fun h=>h.elim .inl (fun h=> .inr (.inr h))),fun h=>h.elim (fun h=> .inr (.inl h)) (fun h=>h.elim .inl (fun h=> .inr (.inr h)))⟩
   ·exact y.elim (fun y=>hj'.2 b y (.inl x)) (fun y=>hcd.2 b x y)
theorem GF{Z:FP}{η:Nat→Value}{w:World}:∀(azs:List AV) (vs:List Value) (S:FP),Am Z η w azs vs S→vs.length=azs.length
 |[],vs,S,h=>by simp only[Am] at h;simp [h.1]
 |a::azs,vs,S,h=>by
  simp only[Am] at h
  obtain⟨v,cs',A,B,e,hj,h1,h2⟩:=h
  subst e;simp [GF azs cs' B h2]
theorem Tm(h:Am Z η w azs vs S)(i:Nat){a':AV}{v':Value}
 (hr:Af Z η w a' v' (fun _=>False)):∃S',(∀b,S' b→S b)∧Am Z η w (azs.set i a') (vs.set i v') S':=by
 rcases Ju i azs.length with hi|hi
 ·obtain⟨v,A,B,hv,h1,hj,hk⟩:=Gl azs vs S i azs[i] h (by simp)
  exact⟨B,fun b hb=>(hj.1 b).2 (.inr hb),hk a' v' _ B hr (Cu B)⟩
 ·rw[Nc hi,Nc (by rw[GF _ _ _ h];exact hi)]
  exact⟨S,fun _ h=>h,h⟩
theorem Tn(h:Am Z η w azs vs S)(hi:i<azs.length){a':AV}{v':Value}
 {A':FP} (hr:Af Z η w a' v' A') (hd:∀b,A' b→¬S b):∃S',(∀b,S' b→S b∨A' b)∧Am Z η w (azs.set i a') (vs.set i v') S':=by
 obtain⟨v,A,B,hv,h1,hj,hk⟩:=Gl azs vs S i azs[i] h (by simp)
 refine⟨fun b=>A' b∨B b,fun b hb=>hb.elim .inr (fun hb=> .inl ((hj.1 b).2 (.inr hb))),hk a' v' A' _ hr ⟨fun _=>Cg,fun b x y=>hd b x ((hj.1 b).2 (.inr y))⟩⟩
theorem QF{n:Nat}:∀(azs:List AV) (i:Nat) (a:AV),AN n azs→azs[i]? =some a→Az n a
 |[],i,a,_,hi=>by simp at hi
 |x::azs,0,a,h,hi=>by simp at hi;subst hi;exact h.1
 |x::azs,i+1,a,h,hi=>QF azs i a h.2 (by simpa using hi)
theorem Iy{n:Nat}:∀(azs:List AV) (i:Nat) (a:AV),AN n azs→Az n a→AN n (azs.set i a)
 |[],i,a,h,_=>h
 |x::azs,0,a,h,ha=>⟨ha,h.2⟩
 |x::azs,i+1,a,h,ha=>⟨h.1,Iy azs i a h.2 ha⟩
@[simp] theorem run_pure {α:Type} (P:Program) (x:α) (w:World):(Sem.pure x).run P w= .ok x w:=rfl
@[simp] theorem Cy {α:Type} (P:Program) (x:α) (w:World):(pure x:Sem α).run P w= .ok x w:=rfl
theorem Ha{α β:Type}(P:Program)(s:Sem α)(f:α→Sem β)(w:World):(s>>=f).run P w=match s.run P w with
 | .ok x w'=>(f x).run P w'
 | .halt h w'=> .halt h w':=by
 show(Sem.bind s f).run P w=_
 induction s generalizing w with
 |pure a=>rfl
 |load m a k ih=>
  simp only[Sem.bind,Sem.run]
  cases w.cell? a with
  |some v=>exact ih v w
  |none=>simp only[];cases w.farLoad P a (m== .atomic) with
   |ok r=>exact ih _ w
   |error h=>rfl
 |store m a v k ih=>
  simp only[Sem.bind]
  cases v<;>first|rfl|(simp only[Sem.run];cases w.cell? a with
   |some u=>simp only[];cases w.frozen? a with
    |true=>rfl
    |false=>exact ih _
   |none=>simp only[];cases w.farStore P a _ (m== .atomic) with
    |ok r=>exact ih _
    |error h=>rfl)
 |new o k ih=>exact ih _ _
 |shape r k ih=>exact ih _ _
 |freeze a n k ih=>exact ih _
 |frozen a k ih=>exact ih _ _
 |getObj r k ih=>
  simp only[Sem.bind,Sem.run]
  cases w.heap[r]? with
  |none=>rfl
  |some o=>cases o<;>first|rfl|exact ih _ _
 |setObj r o k ih=>
  simp only[Sem.bind,Sem.run]
  cases w.heap[r]? with
  |none=>rfl
  |some o=>cases o<;>first|rfl|exact ih _
 |choose q k ih=>
  simp only[Sem.bind,Sem.run]
  split
  ·exact ih _ _
  ·exact ih _ _
 |sys c k ih=>exact ih _ _
 |program k ih=>exact ih _ _
 |mark m k ih=>exact ih _
 |halt h=>rfl
theorem AC{α β:Type}{s:Sem α}{f:α→Sem β}{x:α}(h:s.run P w= .ok x w'):(s>>=f).run P w=(f x).run P w':=by
 rw[Ha,h]
theorem QG{t:TypeId}{i:TypeInfo}(h:P.info? t=some i)(w:World):(typeInfo t).run P w= .ok i w:=by
 simp only[typeInfo,program,Ha,Sem.run,h]
 rfl
theorem DV{t:TypeId}{d:TypeDesc}(h:P.underlying t=some d)(w:World):(underlying t).run P w= .ok d w:=by
 simp only[underlying,program,Ha,Sem.run,h]
 rfl
theorem Hy{t:TypeId}{i:TypeInfo}(h:P.info? t=some i)(w:World):(sizeOf t).run P w= .ok i.size w:=by
 simp only[sizeOf];rw[AC (QG h w)];rfl
theorem QH{t:TypeId}{i:TypeInfo}{z:Value}(h:P.info? t=some i)(hz:i.zero=some z)(w:World):(zeroValue t).run P w= .ok z w:=by
 simp only[zeroValue];rw[AC (QG h w)];simp only[hz];rfl
def Jw:TypeDesc→Bool
 | .struct _=>true
 | .array _ _=>true
 |_=>false
theorem Kk{t:TypeId}{d:TypeDesc}(h:P.underlying t=some d)(w:World):(isAgg t).run P w= .ok (Jw d) w:=by
 simp only[isAgg];rw[AC (DV h w)]
 cases d<;>rfl
def ad(b off:Nat):Addr:=⟨b,off,none⟩
@[simp] theorem Jx (b off n:Nat):(ad b off).add n=ad b (off+n):=by
  unfold Addr.add ad;split
  ·rename_i h;subst h;rfl
  ·rfl
theorem QI{ty:TypeId}(h:w.heap[b]? =some (.cells arr ty fr)):w.cell? (ad b off)=arr[off]? :=by
 simp [World.cell?,ad,h]
theorem b6a{ty:TypeId}(h:w.heap[b]? =some (.cells arr ty (0,0))):w.frozen? (ad b off)=false:=by
 simp [World.frozen?,ad,h]
theorem To{a:Addr}(h:w.cell? a=some v):(load a).run P w= .ok v w:=by
 simp [load,Sem.run,h]
theorem a6K{P:Program}{w:World}{b off:Nat}:∀(cs:List Value) (i:Nat) (acc:Array Value),
 (∀j,j<cs.length→w.cell? (ad b (off+(i+j)))=cs[j]?)→(loadCellsFrom (ad b off) i cs.length acc).run P w= .ok (acc++cs.toArray) w
 |[],i,acc,h=>by simp [loadCellsFrom]
 |c::cs,i,acc,h=>by
  simp only[AE,loadCellsFrom]
  have h0:=h 0 (by simp)
  simp at h0
  rw[AC (To (v:=c) (by simpa using h0))]
  rw[a6K cs (i+1) (acc.push c) (fun j hj=>by have:=h (j+1) (by simpa using hj);simpa [QA,Nat.add_comm 1 j] using this)]
  simp
theorem a0k{ty:TypeId}(hb:w.heap[b]? =some (.cells arr ty fr))
  (hc:arr.toList.drop off=cs++rest):(loadCells (ad b off) cs.length).run P w= .ok cs.toArray w:=by
 unfold loadCells
 rw[a6K cs 0 #[] (fun j hj=> ?_)]
 ·simp
 ·rw[QI hb]
  have:(arr.toList.drop off)[j]? =(cs++rest)[j]? :=by rw[hc]
  rw[It,Le hj] at this
  simpa [Fi] using this
def over(l:List Value)(off:Nat)(cs:List Value):List Value:=l.take off++cs++l.drop (off+cs.length)
structure Wrote (w w':World) (b:Nat) (arr':Array Value) (ty:TypeId):Prop where
 os:w'.os=w.os
 tape:w'.tape=w.tape
 output:w'.output=w.output
 size:w'.heap.size=w.heap.size
 blk:w'.heap[b]? =some (.cells arr' ty (0,0))
 oth:∀c,c≠b→w'.heap[c]? =w.heap[c]?
theorem b6b(l:List Value)(off:Nat):over l off []=l:=by simp [over]
theorem VQ{l:List Value}(h:off+cs.length≤l.length):(over l off cs).length=l.length:=by
 simp [over];omega
theorem a0l{P:Program}{b off:Nat}{ty:TypeId}:∀(cs:List Value) (i:Nat) (w:World) (arr:Array Value),w.heap[b]? =some (.cells arr ty (0,0))→
 off+i+cs.length≤arr.size→(∀c∈cs,Dm c)→∃w',(storeCells (ad b off) cs i).run P w= .ok () w'∧Wrote w w' b (over arr.toList (off+i) cs).toArray ty
 |[],i,w,arr,hb,hl,hc=>by
  refine⟨w,by simp [storeCells],⟨rfl,rfl,rfl,rfl,?_,fun _ _=>rfl⟩⟩
  rw[b6b];simpa using hb
 |c::cs,i,w,arr,hb,hl,hc=>by
  have hlt:off+i<arr.size:=by simp at hl;omega
  have hst:(store (ad b (off+i)) c).run P w= .ok () (w.setCell (ad b (off+i)) c):=by
   have hcell:Dm c:=hc c (by simp)
   have h1:w.cell? (ad b (off+i))=some arr[off+i]:=by rw[QI hb];simp [hlt]
   have h2:=b6a (off:=off+i) hb
   cases c<;>first|exact hcell.elim|simp [store,Sem.run,h1,h2]
  have hb':(w.setCell (ad b (off+i)) c).heap[b]? =some (.cells (arr.setIfInBounds (off+i) c) ty (0,0)):=by
   simp [World.setCell,ad,Array.getElem?_modify,hb]
  obtain⟨w',hr,hw⟩:=a0l (P:=P) (off:=off) cs (i+1) (w.setCell (ad b (off+i)) c) _ hb' (by simp at hl ⊢;omega) (fun x hx=>hc x (by simp [hx]))
  refine⟨w',?_,?_⟩
  ·simp only[storeCells]
   rw[Jx,AC hst]
   exact hr
  ·refine⟨hw.os.trans rfl,hw.tape.trans rfl,hw.output.trans rfl,by rw[hw.size];simp [World.setCell],?_,fun x hx=> ?_⟩
   ·rw[hw.blk]
    congr 2
    apply congrArg List.toArray
    simp only[over,Array.toList_setIfInBounds]
    have e1:(arr.toList.set (off+i) c).take (off+(i+1))=arr.toList.take (off+i)++[c]:=by
     rw[show off+(i+1)=off+i+1 by omega]
     rw[List.take_succ_eq_append_getElem (by simp;omega)]
     simp [List.take_set_of_le]
    have e2:(arr.toList.set (off+i) c).drop (off+(i+1)+cs.length)=arr.toList.drop (off+i+(c::cs).length):=by
     rw[List.drop_set_of_lt (by omega)];congr 1;simp;omega
    rw[e1,e2];simp
   ·rw[hw.oth x hx]
    simp only[World.setCell,ad,Array.getElem?_modify]
    rw[if_neg (by omega)]
structure St where
 regs:List AV
 nx:Nat
structure GInv where
 p:FP→World→Prop
 mono:∀Z Z' w w',(∀b,¬Z b→b<w.heap.size→¬Z' b∧w'.heap[b]? =w.heap[b]?)→p Z w→p Z' w'
structure Ctx where
 w0:World
 Z0:FP
 S0:FP
 G:GInv
 glob:G.p Z0 w0
 sub:∀b,S0 b→Z0 b
structure OkW (C:Ctx) (Z:FP) (w:World):Prop where
 os:w.os=C.w0.os
 tape:w.tape=C.w0.tape
 output:w.output=C.w0.output
 size:C.w0.heap.size≤w.heap.size
 old:∀b,b<C.w0.heap.size→¬C.S0 b→w.heap[b]? =C.w0.heap[b]? ∧(Z b↔C.Z0 b)
theorem OkW.glob{C:Ctx}(h:OkW C Z w):C.G.p Z w:=
 C.G.mono _ _ _ _ (fun b hb hlt=>have h1:=h.old b hlt (fun x=>hb (C.sub b x));⟨fun x=>hb (h1.2.1 x),h1.1⟩) C.glob
structure Inst (C:Ctx) (s:St) (a:Act) (w:World) (η:Nat→Value) (Z S:FP):Prop where
 defers:a.defers=[]
 rel:Am Z η w s.regs a.tmps.toList S
 ids:AN s.nx s.regs
 own:∀b,S b→Z b∧b<w.heap.size∧(b<C.w0.heap.size→C.S0 b)
 ok:OkW C Z w
def Rel(C:Ctx)(s:St)(a:Act)(w:World):Prop:=∃η Z S,Inst C s a w η Z S
def setR(regs:List AV)(dst:Option Nat)(r:AV):List AV:=match dst with
 |some d=>regs.set d r
 |none=>regs
theorem QJ(a:Act)(d:Nat)(v:Value):(a.put (some d) v).tmps.toList=a.tmps.toList.set d v:=by
 simp [Act.put]
theorem QK(a:Act)(d:Option Nat)(v:Value):(a.put d v).defers=a.defers:=by
 cases d<;>rfl
theorem Inst.put{C:Ctx}{s:St}{a:Act}(h:Inst C s a w η Z S)(dst:Option Nat){r:AV}
 (hr:Af Z η w r v (fun _=>False)) (hi:Az s.nx r):Rel C ⟨setR s.regs dst r,s.nx⟩ (a.put dst v) w:=by
 cases dst with
 |none=>exact⟨η,Z,S,h⟩
 |some d=>
  obtain⟨S',hs,hr'⟩:=Tm h.rel d hr
  refine⟨η,Z,S',⟨by rw[QK];exact h.defers,by rw[QJ];exact hr',Iy _ _ _ h.ids hi,fun b hb=>h.own b (hs b hb),h.ok⟩⟩
def Jy:Value→AV
 | .int k n=> .int k n
 | .bool b=> .bool b
 | .string s=> .str s.data.toList
 | .slice none 0 0=> .nil
 | .agg _=> .top
 | .tuple _=> .top
 |v=> .val v
def QL:Value→AV
 | .agg cs=> .agg (cs.toList.map Jy)
 | .tuple _=> .top
 |v=>Jy v
def Bj(regs:List AV):Operand→AV
 | .tmp t=>DJ (regs.getD t .top)
 | .const v=>QL v
 | .func f=> .clo (.func f) []
 | .global _=> .top
theorem a6L(Z:FP)(η:Nat→Value)(w:World)(v:Value):Af Z η w (Jy v) v (fun _=>False):=by
 cases v with
 |slice a n c=>
  unfold Jy
  split<;>simp_all [Af,Aj,emp,Dm]
 |_=>simp [Jy,Af,Aj,emp,Dm]
theorem Tp(Z:FP)(η:Nat→Value)(w:World):∀l:List Value,Am Z η w (l.map Jy) l (fun _=>False)
 |[]=>by simp [Am,emp]
 |v::l=>by simp only[List.map,Am];exact⟨v,l,_,_,rfl,Cu _,a6L Z η w v,Tp Z η w l⟩
theorem a6M(Z:FP)(η:Nat→Value)(w:World)(v:Value):Af Z η w (QL v) v (fun _=>False):=by
 unfold QL
 split
 ·simp only[Af];exact⟨_,by simp,Tp Z η w _⟩
 ·simp only[Af,Aj];exact AI
 ·exact a6L Z η w v
theorem a6N(n:Nat)(v:Value):Az n (Jy v):=by
 unfold Jy;split<;>trivial
theorem Tq(n:Nat):∀l:List Value,AN n (l.map Jy)
 |[]=>trivial
 |v::l=>⟨a6N n v,Tq n l⟩
theorem a6O(n:Nat)(v:Value):Az n (QL v):=by
 unfold QL;split
 ·simp only[Az];exact Tq n _
 ·trivial
 ·exact a6N n v
theorem FQ{a:Act}(h:Am Z η w regs a.tmps.toList S)(x:Operand):
 Af Z η w (Bj regs x) (a.eval x) (fun _=>False):=by
 cases x with
 |const v=>exact a6M Z η w v
 |func f=>simp only[Bj,Act.eval,Af,Am];exact⟨[],rfl,rfl,AI⟩
 |global g=>simp only[Bj,Af,Aj];exact AI
 |tmp t=>
  simp only[Bj,Act.eval]
  rcases Ju t regs.length with ht|ht
  ·obtain⟨v,A,B,hv,hr,hj,_⟩:=Gl regs a.tmps.toList S t regs[t] h (by simp)
   have e1:regs.getD t .top=regs[t]:=by simp [List.getD,ht]
   have e2:a.tmps.getD t undef=v:=by
    have:a.tmps[t]? =some v:=by simpa [Fi] using hv
    simp [Jr,this]
   rw[e1,e2];exact a6I _ _ _ hr
  ·have e1:regs.getD t .top= .top:=by simp [List.getD,ht]
   rw[e1];simp only[DJ,Af,Aj];exact AI
theorem Iz(h:AN n regs)(x:Operand):Az n (Bj regs x):=by
 cases x with
 |const v=>exact a6O n v
 |func f=>simp only[Bj,Az,AN]
 |global g=>trivial
 |tmp t=>
  simp only[Bj]
  rcases Ju t regs.length with ht|ht
  ·have e1:regs.getD t .top=regs[t]:=by simp [List.getD,ht]
   rw[e1];exact a6J _ (QF regs t _ h (by simp))
  ·have e1:regs.getD t .top= .top:=by simp [List.getD,ht]
   rw[e1];trivial
def Kl:AV→Bool
 | .agg _=>false
 | .tup _=>false
 | .top=>false
 |_=>true
theorem a0m(h:Af Z η w a v S)(hl:Kl a=true):Dm v:=by
 cases a<;>simp only[Kl,Bl] at hl<;>simp only[Af,Aj] at h
 case int=>rw[h.1];trivial
 case bool=>rw[h.1];trivial
 case str=>rw[h.1];trivial
 case val=>rw[h.1];exact h.2.1
 case any=>exact h.1
 case nil=>rw[h.1];trivial
 case hole=>exact h.2.1
 case al=>exact h.2.1
 case po=>rw[h.1];trivial
 case box=>obtain⟨_,b,arr,ty,S1,e,_⟩:=h;rw[e];trivial
 case bv=>obtain⟨_,b,arr,ty,S1,e,_⟩:=h;rw[e];trivial
 case hv=>rw[h.1];exact h.2.1
 case pf=>obtain⟨_,b,off,arr,ty,fr,cs,rest,S1,e,_⟩:=h;rw[e];trivial
 case clo=>obtain⟨cs,e,_⟩:=h;rw[e];exact Tk
 case sl=>obtain⟨_,a,n,c,e,_⟩:=h;rw[e];trivial
theorem QM(h:Dm v):v.cells= #[v]:=by cases v<;>first|rfl|exact h.elim
def Mf:AV→Option (List AV)
 | .agg fs=>if fs.all Kl then some fs else none
 | .tup _=>none
 | .top=>none
 |a=>some [a]
theorem a6P{Z:FP}{η:Nat→Value}{w:World}:∀(fs:List AV) (cs:List Value) (S:FP),Am Z η w fs cs S→fs.all Kl=true→∀c∈cs,Dm c
 |[],cs,S,h,hl=>by simp only[Am] at h;simp [h.1]
 |f::fs,cs,S,h,hl=>by
  simp only[Am] at h
  obtain⟨v,cs',A,B,e,hj,h1,h2⟩:=h
  simp only[LO,AY] at hl
  subst e
  intro c hc
  rcases EX.1 hc with rfl|hc
  ·exact a0m h1 hl.1
  ·exact a6P fs cs' B h2 hl.2 c hc
theorem VR{ls:List AV}(h:Af Z η w a v S)(hl:Mf a=some ls):
 Am Z η w ls v.cells.toList S∧(∀c∈v.cells.toList,Dm c):=by
 have leafcase:∀a:AV,Kl a=true→Af Z η w a v S→Am Z η w [a] v.cells.toList S∧(∀c∈v.cells.toList,Dm c):=by
  intro a hl h
  have hc:=a0m h hl
  rw[QM hc]
  exact⟨⟨v,[],S,fun _=>False,rfl,Me S,h,rfl,AI⟩,by simpa using hc⟩
 cases a<;>simp only[Mf,AS,reduceCtorEq] at hl<;>try(subst hl;exact leafcase _ rfl h)
 case agg fs=>
  split at hl
  ·rename_i hall
   simp only[AS] at hl;subst hl
   simp only[Af] at h
   obtain⟨cs,e,h⟩:=h
   subst e
   simp only[Value.cells]
   exact⟨h,a6P fs cs S h hall⟩
  ·simp at hl
def Li:AV→AV
 | .int k n=> .int k n
 | .bool b=> .bool b
 | .str l=> .str l
 | .val v=> .val v
 | .nil=> .nil
 | .pf c=> .pf c
 | .sl false _ sz α f xs=> .sl false 0 sz α f xs
 | .agg _=> .top
 | .tup _=> .top
 | .top=> .top
 | .hole _=> .top
 | .al _=> .top
 | .po _ _ _ _=> .top
 |_=> .any
theorem b6c(n:Nat)(a:AV):Az n (Li a):=by
 cases a<;>try trivial
 case sl own id sz α f xs=>
  cases own
  ·simp only[Li,Az];intro h;cases h
  ·trivial
theorem VS(n:Nat):∀l:List AV,AN n (l.map Li)
 |[]=>trivial
 |a::l=>⟨b6c n a,VS n l⟩
theorem b6d(h:Aj Z w a v S):Af Z η w (Li a) v (fun _=>False):=by
 cases a<;>simp only[Aj] at h
 case int=>exact⟨h.1,AI⟩
 case bool=>exact⟨h.1,AI⟩
 case str=>exact⟨h.1,AI⟩
 case val=>exact⟨h.1,h.2.1,AI⟩
 case any=>exact⟨h.1,AI⟩
 case top=>exact AI
 case nil=>exact⟨h.1,AI⟩
 case agg=>exact AI
 case tup=>exact AI
 case box=>obtain⟨b,arr,ty,S1,e,_⟩:=h;exact⟨by rw[e];trivial,AI⟩
 case bv=>obtain⟨_,b,arr,ty,S1,e,_⟩:=h;exact⟨by rw[e];trivial,AI⟩
 case hv=>exact⟨by rw[h.1];exact h.2.1,AI⟩
 case pf=>simp only[Li,Af,Aj];exact⟨AI,h.2⟩
 case clo=>obtain⟨cs,e,_⟩:=h;exact⟨by rw[e];exact Tk,AI⟩
 case sl own id sz α f xs=>
  cases own
  ·obtain⟨a,n,c,e,hn,hc,h⟩:=h
   rcases h with⟨ho,_⟩|⟨_,he,h⟩
   ·cases ho
   ·simp only[Li,Af,Aj]
    refine⟨(fun o=>by cases o),a,n,c,e,hn,hc,.inr ⟨trivial,AI,?_⟩⟩
    rw[Fx he] at h
    exact h
  ·obtain⟨a,n,c,e,_⟩:=h
   exact⟨by rw[e];trivial,AI⟩
theorem VT{Z:FP}{η:Nat→Value}{w:World}:∀(azs:List AV) (cs:List Value) (S:FP),AU Z w azs cs S→Am Z η w (azs.map Li) cs (fun _=>False)
 |[],cs,S,h=>by simp only[AU] at h;simp only[List.map,Am];exact⟨h.1,AI⟩
 |a::azs,cs,S,h=>by
  simp only[AU] at h
  obtain⟨v,cs',A,B,e,hj,h1,h2⟩:=h
  simp only[List.map,Am]
  exact⟨v,cs',_,_,e,Cu _,b6d h1,VT azs cs' B h2⟩
theorem Tr{Z:FP}{η:Nat→Value}{w:World}:∀(n:Nat) (azs:List AV) (cs:List Value),Am Z η w azs cs (fun _=>False)→
 Am Z η w (azs.drop n) (cs.drop n) (fun _=>False)
 |0,azs,cs,h=>by simpa using h
 |n+1,[],cs,h=>by simp only[Am] at h;simp [h.1,Am,emp]
 |n+1,a::azs,cs,h=>by
  simp only[Am] at h
  obtain⟨v,cs',A,B,e,hj,h1,h2⟩:=h
  have hB:=(Jv hj AI).2
  rw[Fx hB] at h2
  subst e
  simpa using Tr n azs cs' h2
theorem Ts{Z:FP}{η:Nat→Value}{w:World}:∀(n:Nat) (azs:List AV) (cs:List Value),Am Z η w azs cs (fun _=>False)→
 Am Z η w (azs.take n) (cs.take n) (fun _=>False)
 |0,azs,cs,h=>by simp [Am,emp]
 |n+1,[],cs,h=>by simp only[Am] at h;simp [h.1,Am,emp]
 |n+1,a::azs,cs,h=>by
  simp only[Am] at h
  obtain⟨v,cs',A,B,e,hj,h1,h2⟩:=h
  have hB:=(Jv hj AI).2
  have hA:=(Jv hj AI).1
  rw[Fx hB] at h2
  rw[Fx hA] at h1
  subst e
  simp only[Kh,Am]
  exact⟨v,_,_,_,rfl,Cu _,h1,Ts n azs cs' h2⟩
theorem Ni{n:Nat}:∀(k:Nat) (l:List AV),AN n l→AN n (l.drop k)
 |0,l,h=>by simpa using h
 |k+1,[],h=>by simpa using h
 |k+1,a::l,h=>by simpa using Ni k l h.2
theorem QN{n:Nat}:∀(k:Nat) (l:List AV),AN n l→AN n (l.take k)
 |0,l,h=>by simp [AN]
 |k+1,[],h=>by simp [AN]
 |k+1,a::l,h=>by simpa [AN] using ⟨h.1,QN k l h.2⟩
structure Sees (w w':World):Prop where
 size:w.heap.size≤w'.heap.size
 old:∀b,b<w.heap.size→w'.heap[b]? =w.heap[b]?
theorem Sees.refl(w:World):Sees w w:=⟨Bu _,fun _ _=>rfl⟩
theorem Sees.blk(h:Sees w w'){o:Obj}(hb:w.heap[b]? =some o):w'.heap[b]? =some o:=by
 rcases Ju b w.heap.size with hh|hh
 ·rw[h.old b hh];exact hb
 ·simp [Te hh] at hb
def Nj(P:Program)(t:TypeId)(c:List AV)(K:AV→Prop):Prop:=
 match P.underlying t,P.info? t with
 |some d,some i=>match Jw d with
  |true=>match Nat.beq (c.take i.size).length i.size with
   |true=>K (.agg (c.take i.size))
   |false=>False
  |false=>match c with
   |a::_=>K a
   |[]=>False
 |_,_=>False
theorem a6Q{t:TypeId}(hvc:Nj P t c K)
 {ty:TypeId}  (_hb:w.heap[b]? =some (.cells arr ty fr))  (hd:arr.toList.drop off=cs++rest)
 (hr:Am Z η w c cs (fun _=>False)) (hi:AN n c):
 ∃v r,(∀w':World,w'.heap[b]? =some (.cells arr ty fr)→(loadVar t (ad b off)).run P w'= .ok v w')∧Af Z η w r v (fun _=>False)∧Az n r∧K r:=by
 unfold Nj at hvc
 split at hvc
 ·rename_i d i hu hinfo
  split at hvc
  ·rename_i hagg
   split at hvc
   ·rename_i hl
    have hl':=Cj hl
    refine⟨.agg (cs.take i.size).toArray,_,?_,?_,?_,hvc⟩
    ·intro w' hw'
     simp only[loadVar]
     rw[AC (Kk hu w'),hagg]
     simp only[BN]
     rw[AC (Hy hinfo w')]
     have hlen:(cs.take i.size).length=i.size:=by
      have:=GF _ _ _ (Ts i.size c cs hr);omega
     have:=a0k (P:=P) (off:=off) hw' (cs:=cs.take i.size) (rest:=cs.drop i.size++rest) (by rw[hd,←Bz,Fw])
     rw[hlen] at this
     rw[AC this];rfl
    ·simp only[Af];exact⟨_,rfl,Ts _ _ _ hr⟩
    ·simp only[Az];exact QN _ _ hi
   ·exact hvc.elim
  ·rename_i hagg
   split at hvc
   ·rename_i a _
    simp only[Am] at hr
    obtain⟨v,cs',A,B,e,hj,h1,h2⟩:=hr
    have hA:=(Jv hj AI).1
    rw[Fx hA] at h1
    refine⟨v,a,fun w' hw'=> ?_,h1,hi.1,hvc⟩
    simp only[loadVar]
    rw[AC (Kk hu w'),hagg]
    simp only[Bl,Br]
    refine To ?_
    rw[QI hw']
    have:(arr.toList.drop off)[0]? =some v:=by rw[hd,e];rfl
    rw[It] at this
    simpa [Fi] using this
   ·exact hvc.elim
 ·exact hvc.elim
theorem VU{t:TypeId}(hvc:Nj P t c K)
 {ty:TypeId}  (hb:w.heap[b]? =some (.cells arr ty fr))  (hd:arr.toList.drop off=cs++rest)
 (hr:Am Z η w c cs (fun _=>False)) (hi:AN n c):
 ∃v r,(∀w',Sees w w'→(loadVar t (ad b off)).run P w'= .ok v w')∧Af Z η w r v (fun _=>False)∧Az n r∧K r:=by
 obtain⟨v,r,h1,h2,h3,h4⟩:=a6Q hvc hb hd hr hi
 exact⟨v,r,fun w' hw'=>h1 w' (hw'.blk hb),h2,h3,h4⟩
mutual
def Cz(id:Nat):AV→Option AV
 | .sl true i sz α f xs=>match Nat.beq i id with|true=>some (.sl true i sz α f xs)|false=>none
 | .box i c=>match Nat.beq i id with|true=>some (.box i c)|false=>Fd id c
 | .bv _ c=>Fd id c
 | .agg fs=>Fd id fs
 | .tup fs=>Fd id fs
 | .clo _ fs=>Fd id fs
 |_=>none
def Fd(id:Nat):List AV→Option AV
 |[]=>none
 |a::azs=>match Cz id a with
  |some o=>some o
  |none=>Fd id azs
end
def Nk(id:Nat):AV→Prop
 | .sl true i _ _ _ _=>i=id
 | .box i _=>i=id
 |_=>False
mutual
theorem b6e{Z:FP}{η:Nat→Value}{w:World}{id:Nat}:∀(a:AV) (v:Value) (S:FP) (o:AV),Af Z η w a v S→Cz id a=some o→
 ∃A,(∀b,A b→S b)∧Nk id o∧Af Z η w o (η id) A
 | .sl true i sz α f xs,v,S,o,h,hf=>by
   simp only[Cz] at hf
   split at hf
   ·rename_i hb;simp only[AS] at hf;subst hf
    have:=Cj hb;subst this
    refine⟨S,fun _ x=>x,rfl,?_⟩
    have h':=h
    simp only[Af] at h'
    rw[←h'.1 trivial];exact h
   ·simp at hf
 | .sl false i sz α f xs,v,S,o,h,hf=>by simp [Cz] at hf
 | .box i c,v,S,o,h,hf=>by
   simp only[Cz] at hf
   split at hf
   ·rename_i hb;simp only[AS] at hf;subst hf
    have:=Cj hb;subst this
    refine⟨S,fun _ x=>x,rfl,?_⟩
    have h':=h
    simp only[Af] at h'
    rw[←h'.1];exact h
   ·simp only[Af] at h
    obtain⟨_,b,arr,ty,S1,_,_,h,hj⟩:=h
    obtain⟨A,hA,h1,h2⟩:=Gm c _ S1 o h hf
    exact⟨A,fun b hb=>(hj.1 b).2 (.inr (hA b hb)),h1,h2⟩
 | .bv _ c,v,S,o,h,hf=>by
   simp only[Cz] at hf;simp only[Af] at h
   obtain⟨_,b,arr,ty,S1,_,_,h,hj⟩:=h
   obtain⟨A,hA,h1,h2⟩:=Gm c _ S1 o h hf
   exact⟨A,fun b hb=>(hj.1 b).2 (.inr (hA b hb)),h1,h2⟩
 | .hv _,v,S,o,h,hf=>by simp [Cz] at hf
 | .agg fs,v,S,o,h,hf=>by
   simp only[Cz] at hf;simp only[Af] at h
   obtain⟨cs,_,h⟩:=h
   exact Gm fs cs S o h hf
 | .tup fs,v,S,o,h,hf=>by
   simp only[Cz] at hf;simp only[Af] at h
   obtain⟨cs,_,h⟩:=h
   exact Gm fs cs S o h hf
 | .clo _ fs,v,S,o,h,hf=>by
   simp only[Cz] at hf;simp only[Af] at h
   obtain⟨cs,_,h⟩:=h
   exact Gm fs cs S o h hf
 | .int _ _,v,S,o,h,hf=>by simp [Cz] at hf
 | .bool _,v,S,o,h,hf=>by simp [Cz] at hf
 | .str _,v,S,o,h,hf=>by simp [Cz] at hf
 | .val _,v,S,o,h,hf=>by simp [Cz] at hf
 | .any,v,S,o,h,hf=>by simp [Cz] at hf
 | .top,v,S,o,h,hf=>by simp [Cz] at hf
 | .nil,v,S,o,h,hf=>by simp [Cz] at hf
 | .hole _,v,S,o,h,hf=>by simp [Cz] at hf
 | .al _,v,S,o,h,hf=>by simp [Cz] at hf
 | .po _ _ _ _,v,S,o,h,hf=>by simp [Cz] at hf
 | .pf _,v,S,o,h,hf=>by simp [Cz] at hf
theorem Gm{Z:FP}{η:Nat→Value}{w:World}{id:Nat}:∀(azs:List AV) (cs:List Value) (S:FP) (o:AV),Am Z η w azs cs S→Fd id azs=some o→
 ∃A,(∀b,A b→S b)∧Nk id o∧Af Z η w o (η id) A
 |[],cs,S,o,h,hf=>by simp [Fd] at hf
 |a::azs,cs,S,o,h,hf=>by
  simp only[Am] at h
  obtain⟨v,cs',A,B,e,hj,h1,h2⟩:=h
  simp only[Fd] at hf
  split at hf
  ·rename_i o' ho
   simp only[AS] at hf;subst hf
   obtain⟨A',hA,x,y⟩:=b6e a v A _ h1 ho
   exact⟨A',fun b hb=>(hj.1 b).2 (.inl (hA b hb)),x,y⟩
  ·obtain⟨A',hA,x,y⟩:=Gm azs cs' B o h2 hf
   exact⟨A',fun b hb=>(hj.1 b).2 (.inr (hA b hb)),x,y⟩
end
mutual
theorem b6f{n id:Nat}:∀(a:AV) (o:AV),Az n a→Cz id a=some o→Az n o
 | .sl true i sz α f xs,o,h,hf=>by
   simp only[Cz] at hf
   split at hf
   ·simp only[AS] at hf;subst hf;exact h
   ·simp at hf
 | .sl false i sz α f xs,o,h,hf=>by simp [Cz] at hf
 | .box i c,o,h,hf=>by
   simp only[Cz] at hf
   split at hf
   ·simp only[AS] at hf;subst hf;exact h
   ·exact Nl c o h.2 hf
 | .bv _ c,o,h,hf=>by simp only[Cz] at hf;simp only[Az] at h;exact Nl c o h hf
 | .hv _,o,h,hf=>by simp [Cz] at hf
 | .agg fs,o,h,hf=>by simp only[Cz] at hf;simp only[Az] at h;exact Nl fs o h hf
 | .tup fs,o,h,hf=>by simp only[Cz] at hf;simp only[Az] at h;exact Nl fs o h hf
 | .clo _ fs,o,h,hf=>by simp only[Cz] at hf;simp only[Az] at h;exact Nl fs o h hf
 | .int _ _,o,h,hf=>by simp [Cz] at hf
 | .bool _,o,h,hf=>by simp [Cz] at hf
 | .str _,o,h,hf=>by simp [Cz] at hf
 | .val _,o,h,hf=>by simp [Cz] at hf
 | .any,o,h,hf=>by simp [Cz] at hf
 | .top,o,h,hf=>by simp [Cz] at hf
 | .nil,o,h,hf=>by simp [Cz] at hf
 | .hole _,o,h,hf=>by simp [Cz] at hf
 | .al _,o,h,hf=>by simp [Cz] at hf
 | .po _ _ _ _,o,h,hf=>by simp [Cz] at hf
 | .pf _,o,h,hf=>by simp [Cz] at hf
theorem Nl{n id:Nat}:∀(azs:List AV) (o:AV),AN n azs→Fd id azs=some o→Az n o
 |[],o,h,hf=>by simp [Fd] at hf
 |a::azs,o,h,hf=>by
  simp only[Fd] at hf
  split at hf
  ·rename_i o' ho
   simp only[AS] at hf;subst hf
   exact b6f a _ h.1 ho
  ·exact Nl azs o h.2 hf
end
theorem a0n{α:Type}{sz:Nat}{R:α→List Value→FP→Prop}:∀(xs:List α) (cs:List Value) (S:FP) (k:Nat) (x:α),Rows sz R xs cs S→xs[k]? =some x→
 ∃A,(∀b,A b→S b)∧((cs.drop (k*sz)).take sz).length=sz∧R x ((cs.drop (k*sz)).take sz) A
 |[],cs,S,k,x,h,hk=>by simp at hk
 |y::xs,cs,S,0,x,h,hk=>by
  simp at hk;subst hk
  obtain⟨A,B,hj,hl,h1,h2⟩:=h
  refine⟨A,fun b hb=>(hj.1 b).2 (.inl hb),?_,?_⟩
  ·simpa using hl
  ·simpa using h1
 |y::xs,cs,S,k+1,x,h,hk=>by
  obtain⟨A,B,hj,hl,h1,h2⟩:=h
  obtain⟨A',hA,hl',hr⟩:=a0n xs (cs.drop sz) B k x h2 (by simpa using hk)
  rw[Dv] at hl' hr
  have e:(k+1)*sz=sz+k*sz:=by rw[Hs];omega
  rw[e]
  exact⟨A',fun b hb=>(hj.1 b).2 (.inr (hA b hb)),hl',hr⟩
def POk(P:Program)(Z:FP)(η:Nat→Value)(w:World)(n:Nat)(s:Sem Value)(K:AV→Prop):Prop:=
 ∃v r,(∀w',Sees w w'→s.run P w'= .ok v w')∧Af Z η w r v (fun _=>False)∧Az n r∧K r
theorem POk.pre{g:Sem Unit}{s:Sem Value}(hg:∀w',g.run P w'= .ok () w')(h:POk P Z η w n s K):
 POk P Z η w n (do g;s) K:=by
 obtain⟨v,r,h1,h2⟩:=h
 exact⟨v,r,fun w' hw'=>by rw[AC (hg w')];exact h1 w' hw',h2⟩
theorem Hz{s:Sem Value}(h:s.run P w= .ok v w'):(do pure (Next.value (←s)):Sem Next).run P w= .ok (.value v) w':=by
 rw[AC h];rfl
def inR(k:IntKind)(n:Int):Prop:=k.min≤n∧n≤k.max
theorem VV{n:Int}(h:inR k n):k.wrap n=n:=by
 unfold inR at h
 obtain⟨h1,h2⟩:=h
 cases k<;>simp [IntKind.wrap,IntKind.min,IntKind.max,IntKind.bits,IntKind.signed] at* <;>omega
def OF(ov:Bool)(k:IntKind)(n:Int)(K:AV→Prop):Prop:=
 match ov with
 |true=>K (.int k (k.wrap n))
 |false=>inR k n∧K (.int k n)
theorem QO{n:Int}(h:OF ov k n K):K (.int k (k.wrap n)):=by
 cases ov
 ·rw[VV h.1];exact h.2
 ·exact h
def OG:IntKind→IntKind→Bool
 | .i8,.i8=>true
 | .i16,.i16=>true
 | .i32,.i32=>true
 | .i64,.i64=>true
 | .u8,.u8=>true
 | .u16,.u16=>true
 | .u32,.u32=>true
 | .u64,.u64=>true
 |_,_=>false
theorem Tt{a b:IntKind}(h:OG a b=true):a=b:=by cases a<;>cases b<;>first|rfl|cases h
def Fj(op:BinOp)(k:IntKind)(x y:Int):Int:=match op with
 | .and=>k.wrap (BitVec.ofInt k.bits x&&& BitVec.ofInt k.bits y).toNat
 | .or=>k.wrap (BitVec.ofInt k.bits x|||BitVec.ofInt k.bits y).toNat
 | .xor=>k.wrap (BitVec.ofInt k.bits x^^^BitVec.ofInt k.bits y).toNat
 |_=>0
def shI(left:Bool)(k:IntKind)(x y:Int):Int:=match left with
 |true=>k.wrap (x*2^(min y.toNat k.bits))
 |false=>x.fdiv (2^(min y.toNat k.bits))
def a6R:BinOp→Option Bool
 | .shl=>some true
 | .shr=>some false
 |_=>none
def a6S(ov:Bool)(op:BinOp)(k:IntKind)(x y:Int)(K:AV→Prop):Prop:=
 match op with
 | .add=>OF ov k (x+y) K
 | .sub=>OF ov k (x-y) K
 | .mul=>OF ov k (x*y) K
 | .quo=>y≠0∧OF ov k (x.tdiv y) K
 | .rem=>y≠0∧K (.int k (x.tmod y))
 | .eql=>K (.bool (x==y))
 | .neq=>K (.bool (x != y))
 | .lss=>K (.bool (decide (x<y)))
 | .leq=>K (.bool (decide (x≤y)))
 | .gtr=>K (.bool (decide (x>y)))
 | .geq=>K (.bool (decide (x≥y)))
 | .and=>K (.int k (Fj .and k x y))
 | .or=>K (.int k (Fj .or k x y))
 | .xor=>K (.int k (Fj .xor k x y))
 |_=>False
def VW(P:Program)(xs ys:List AV):List Field→Bool→(Bool→Prop)→Prop
 |[],acc,K=>K acc
 |f::fs,acc,K=>match decide (f.name= "_") with
  |true=>VW P xs ys fs acc K
  |false=>match P.underlying f.type with
   |some (.int _)=>match xs[f.offset]?,ys[f.offset]? with
    |some (.int k a),some (.int k' b)=>match OG k k' with
     |true=>VW P xs ys fs (acc&&(a==b)) K
     |false=>False
    |_,_=>False
   |some .bool=>match xs[f.offset]?,ys[f.offset]? with
    |some (.bool a),some (.bool b)=>VW P xs ys fs (acc&&(a==b)) K
    |_,_=>False
   |some .string=>match xs[f.offset]?,ys[f.offset]? with
    |some (.str a),some (.str b)=>VW P xs ys fs (acc&&(a==b)) K
    |_,_=>False
   |_=>False
theorem Jz(h:Am Z η w azs vs S)(hi:azs[i]? =some a):∃v A,vs[i]? =some v∧Af Z η w a v A:=by
 obtain⟨v,A,B,h1,h2,_⟩:=Gl azs vs S i a h hi
 exact⟨v,A,h1,h2⟩
theorem a6T{t:TypeId}{d:TypeDesc}(h:P.underlying t=some d)(hd:Jw d=false)(hv:cs[off]? =some v)(w:World):(part t cs.toArray off).run P w= .ok v w:=by
 unfold part
 rw[AC (Kk h w),hd]
 simp only[Bl,Br,List.getElem?_toArray,hv]
 rfl
def Nm(P:Program)(xs ys:List AV)(o sz:Nat):List Field→Bool→(Bool→Prop)→Prop
 |[],acc,K=>K acc
 |f::fs,acc,K=>match decide (f.name= "_") with
  |true=>Nm P xs ys o sz fs acc K
  |false=>match Nat.blt f.offset sz with
   |true=>match P.underlying f.type with
    |some (.int _)=>match xs[o+f.offset]?,ys[o+f.offset]? with
     |some (.int k a),some (.int k' b)=>match OG k k' with
      |true=>Nm P xs ys o sz fs (acc&&(a==b)) K
      |false=>False
     |_,_=>False
    |some .bool=>match xs[o+f.offset]?,ys[o+f.offset]? with
     |some (.bool a),some (.bool b)=>Nm P xs ys o sz fs (acc&&(a==b)) K
     |_,_=>False
    |some .string=>match xs[o+f.offset]?,ys[o+f.offset]? with
     |some (.str a),some (.str b)=>Nm P xs ys o sz fs (acc&&(a==b)) K
     |_,_=>False
    |_=>False
   |false=>False
def Km(P:Program)(xs ys:List AV):List Field→Bool→(Bool→Prop)→Prop
 |[],acc,K=>K acc
 |f::fs,acc,K=>match decide (f.name= "_") with
  |true=>Km P xs ys fs acc K
  |false=>match P.underlying f.type with
   |some (.int _)=>match xs[f.offset]?,ys[f.offset]? with
    |some (.int k a),some (.int k' b)=>match OG k k' with
     |true=>Km P xs ys fs (acc&&(a==b)) K
     |false=>False
    |_,_=>False
   |some .bool=>match xs[f.offset]?,ys[f.offset]? with
    |some (.bool a),some (.bool b)=>Km P xs ys fs (acc&&(a==b)) K
    |_,_=>False
   |some .string=>match xs[f.offset]?,ys[f.offset]? with
    |some (.str a),some (.str b)=>Km P xs ys fs (acc&&(a==b)) K
    |_,_=>False
   |some (.struct gs)=>match P.stoodInHeld f.type,P.info? f.type with
    |false,some inf=>Nm P xs ys f.offset inf.size gs.toList true fun b=>Km P xs ys fs (acc&&b) K
    |_,_=>False
   |_=>False
theorem a6U{t:TypeId}{d:TypeDesc}{cs:Array Value}(h:P.underlying t=some d)(hd:Jw d=false)(hv:cs[off]? =some v)(w:World):(part t cs off).run P w= .ok v w:=by
 unfold part
 rw[AC (Kk h w),hd]
 simp only[Bl,Br,hv]
 rfl
theorem a6V{t:TypeId}{d:TypeDesc}{inf:TypeInfo}{cs:Array Value}(h:P.underlying t=some d)(hd:Jw d=true)(hi:P.info? t=some inf)(w:World):(part t cs off).run P w= .ok (.agg (cs.extract off (off+inf.size))) w:=by
 unfold part
 rw[AC (Kk h w),hd]
 simp only[BN]
 rw[AC (Hy hi w)]
 rfl
theorem a6W{o sz:Nat}(hi:i<sz)(h:cs[o+i]? =some v):(cs.toArray.extract o (o+sz))[i]? =some v:=by
 have hl:o+i<cs.length:=(DT.1 h).1
 rw[Array.getElem?_extract,if_pos (by simp;omega)]
 simpa using h
theorem a0o{P:Program}{xs ys:List AV}{Z:FP}{η:Nat→Value}{w:World}{cs ds:List Value}{S T:FP}(hx:Am Z η w xs cs S)(hy:Am Z η w ys ds T)(d o sz:Nat):∀(fs:List Field) (acc:Bool) (K:Bool→Prop),Nm P xs ys o sz fs acc K→
 ∃b,(∀w',(Op.eqFields (d+1) (cs.toArray.extract o (o+sz)) (ds.toArray.extract o (o+sz)) fs).run P w'= .ok b w')∧K (acc&&b)
 |[],acc,K,h=>⟨true,fun w'=>rfl,by rw[Qu];exact h⟩
 |f::fs,acc,K,h=>by
  have step:∀ {dd:TypeDesc} {u v:Value} {r:Bool},P.underlying f.type=some dd→Jw dd=false→f.offset<sz→cs[o+f.offset]? =some u→ds[o+f.offset]? =some v→f.name≠ "_" →
   (∀w',(Op.equalIn (d+1) f.type u v).run P w'= .ok r w')→Nm P xs ys o sz fs (acc&&r) K→
   ∃b,(∀w',(Op.eqFields (d+1) (cs.toArray.extract o (o+sz)) (ds.toArray.extract o (o+sz)) (f::fs)).run P w'= .ok b w')∧K (acc&&b):=by
   intro dd u v r hu hd hlt hcu hdv hn he hk
   obtain⟨b,h1,h2⟩:=a0o hx hy d o sz fs _ K hk
   refine⟨r&&b,fun w'=> ?_,by rw[←Bool.and_assoc];exact h2⟩
   rw[Op.eqFields,if_pos hn,AC (a6U hu hd (a6W hlt hcu) w'),AC (a6U hu hd (a6W hlt hdv) w'),AC (he w')]
   cases r
   ·rfl
   ·simpa using h1 w'
  unfold Nm at h
  split at h
  ·rename_i hn
   have hn:=of_decide_eq_true hn
   obtain⟨b,h1,h2⟩:=a0o hx hy d o sz fs acc K h
   exact⟨b,fun w'=>by rw[Op.eqFields,if_neg (by simp [hn])];exact h1 w',h2⟩
  ·rename_i hn
   have hn:=of_decide_eq_false hn
   split at h
   ·rename_i hlt
    have hlt:f.offset<sz:=by rw[Nat.blt_eq] at hlt;exact hlt
    split at h
    ·rename_i hu
     split at h
     ·rename_i k a k' b hxa hyb
      split at h
      ·rename_i hk
       have hk:=Tt hk
       subst hk
       obtain⟨u,_,hcu,hru⟩:=Jz hx hxa
       obtain⟨v,_,hdv,hrv⟩:=Jz hy hyb
       simp only[Af,Aj] at hru hrv
       rw[hru.1] at hcu;rw[hrv.1] at hdv
       exact step hu rfl hlt hcu hdv hn (fun w'=>run_equalIn_int w' d _ _ _ _ _ hu) h
      ·exact h.elim
     ·exact h.elim
    ·rename_i hu
     split at h
     ·rename_i a b hxa hyb
      obtain⟨u,_,hcu,hru⟩:=Jz hx hxa
      obtain⟨v,_,hdv,hrv⟩:=Jz hy hyb
      simp only[Af,Aj] at hru hrv
      rw[hru.1] at hcu;rw[hrv.1] at hdv
      exact step hu rfl hlt hcu hdv hn (fun w'=>run_equalIn_bool' w' d _ _ _ hu) h
     ·exact h.elim
    ·rename_i hu
     split at h
     ·rename_i a b hxa hyb
      obtain⟨u,_,hcu,hru⟩:=Jz hx hxa
      obtain⟨v,_,hdv,hrv⟩:=Jz hy hyb
      simp only[Af,Aj] at hru hrv
      rw[hru.1] at hcu;rw[hrv.1] at hdv
      refine step hu rfl hlt hcu hdv hn (fun w'=> ?_) h
      rw[run_equalIn_string w' d _ _ _ hu];simp only[ByteArray.toList_mk]
     ·exact h.elim
    ·exact h.elim
   ·exact h.elim
theorem VX{P:Program}{xs ys:List AV}{Z:FP}{η:Nat→Value}{w:World}{cs ds:List Value}{S T:FP}(hx:Am Z η w xs cs S)(hy:Am Z η w ys ds T)(d:Nat):∀(fs:List Field) (acc:Bool) (K:Bool→Prop),Km P xs ys fs acc K→
 ∃b,(∀w',(Op.eqFields (d+2) cs.toArray ds.toArray fs).run P w'= .ok b w')∧K (acc&&b)
 |[],acc,K,h=>⟨true,fun w'=>rfl,by rw[Qu];exact h⟩
 |f::fs,acc,K,h=>by
  have step:∀ {dd:TypeDesc} {u v:Value} {r:Bool},P.underlying f.type=some dd→Jw dd=false→cs[f.offset]? =some u→ds[f.offset]? =some v→f.name≠ "_" →
   (∀w',(Op.equalIn (d+2) f.type u v).run P w'= .ok r w')→Km P xs ys fs (acc&&r) K→
   ∃b,(∀w',(Op.eqFields (d+2) cs.toArray ds.toArray (f::fs)).run P w'= .ok b w')∧K (acc&&b):=by
   intro dd u v r hu hd hcu hdv hn he hk
   obtain⟨b,h1,h2⟩:=VX hx hy d fs _ K hk
   refine⟨r&&b,fun w'=> ?_,by rw[←Bool.and_assoc];exact h2⟩
   rw[Op.eqFields,if_pos hn,AC (a6T hu hd hcu w'),AC (a6T hu hd hdv w'),AC (he w')]
   cases r
   ·rfl
   ·simpa using h1 w'
  unfold Km at h
  split at h
  ·rename_i hn
   have hn:=of_decide_eq_true hn
   obtain⟨b,h1,h2⟩:=VX hx hy d fs acc K h
   exact⟨b,fun w'=>by rw[Op.eqFields,if_neg (by simp [hn])];exact h1 w',h2⟩
  ·rename_i hn
   have hn:=of_decide_eq_false hn
   split at h
   ·rename_i hu
    split at h
    ·rename_i k a k' b hxa hyb
     split at h
     ·rename_i hk
      have hk:=Tt hk
      subst hk
      obtain⟨u,_,hcu,hru⟩:=Jz hx hxa
      obtain⟨v,_,hdv,hrv⟩:=Jz hy hyb
      simp only[Af,Aj] at hru hrv
      rw[hru.1] at hcu;rw[hrv.1] at hdv
      exact step hu rfl hcu hdv hn (fun w'=>run_equalIn_int w' (d+1) _ _ _ _ _ hu) h
     ·exact h.elim
    ·exact h.elim
   ·rename_i hu
    split at h
    ·rename_i a b hxa hyb
     obtain⟨u,_,hcu,hru⟩:=Jz hx hxa
     obtain⟨v,_,hdv,hrv⟩:=Jz hy hyb
     simp only[Af,Aj] at hru hrv
     rw[hru.1] at hcu;rw[hrv.1] at hdv
     exact step hu rfl hcu hdv hn (fun w'=>run_equalIn_bool' w' (d+1) _ _ _ hu) h
    ·exact h.elim
   ·rename_i hu
    split at h
    ·rename_i a b hxa hyb
     obtain⟨u,_,hcu,hru⟩:=Jz hx hxa
     obtain⟨v,_,hdv,hrv⟩:=Jz hy hyb
     simp only[Af,Aj] at hru hrv
     rw[hru.1] at hcu;rw[hrv.1] at hdv
     refine step hu rfl hcu hdv hn (fun w'=> ?_) h
     rw[run_equalIn_string w' (d+1) _ _ _ hu];simp only[ByteArray.toList_mk]
    ·exact h.elim
   ·rename_i gs hu
    split at h
    ·rename_i inf hst hinf
     obtain⟨r,g1,g2⟩:=a0o hx hy d f.offset inf.size gs.toList true _ h
     rw[Kf] at g2
     obtain⟨b,h1,h2⟩:=VX hx hy d fs _ K g2
     have hf:P.fieldsOf f.type=gs:=by unfold Program.fieldsOf;rw[hu]
     refine⟨r&&b,fun w'=> ?_,by rw[←Bool.and_assoc];exact h2⟩
     have he:(Op.equalIn (d+2) f.type (.agg (cs.toArray.extract f.offset (f.offset+inf.size))) (.agg (ds.toArray.extract f.offset (f.offset+inf.size)))).run P w'= .ok r w':=by
      rw[run_equalIn_struct w' (d+1) f.type _ _ (by rw[hf];exact hu) hst,hf];exact g1 w'
     rw[Op.eqFields,if_pos hn,AC (a6V hu rfl hinf w'),AC (a6V hu rfl hinf w'),AC he]
     cases r
     ·rfl
     ·simpa using h1 w'
    ·exact h.elim
   ·exact h.elim
def a0p(P:Program)(ov:Bool)(op:BinOp)(t:TypeId)(a b:AV)(K:AV→Prop):Prop:=
 match a,b with
 | .int k x,.int k' y=>match a6R op with
   |some left=>0≤y∧K (.int k (shI left k x y))
   |none=>match OG k k' with
    |true=>a6S ov op k x y K
    |false=>False
 | .str x,.str y=>match op with
   | .add=>((x.length+y.length:Nat):Int)≤IntKind.i64.max∧K (.str (x++y))
   | .eql=>K (.bool (x==y))
   | .neq=>K (.bool !(x==y))
   | .lss=>K (.bool (Op.bytesLess x y))
   | .leq=>K (.bool (Op.bytesLess x y||x==y))
   | .gtr=>K (.bool !(Op.bytesLess x y||x==y))
   | .geq=>K (.bool !(Op.bytesLess x y))
   |_=>False
 | .bool x,.bool y=>match P.underlying t with
   |some .bool=>match op with
    | .eql=>K (.bool (x==y))
    | .neq=>K (.bool !(x==y))
    |_=>False
   |_=>False
 | .sl false _ _ _ _ xs,.nil=>match P.underlying t with
   |some (.slice _)=>match op with
    | .eql=>∀b:Bool,(b=true→xs=[])→K (.bool b)
    | .neq=>∀b:Bool,(b=false→xs=[])→K (.bool b)
    |_=>False
   |_=>False
 | .agg xs,.agg ys=>match P.underlying t with
   |some (.struct fs)=>match P.stoodInHeld t,P.eqGuardType P.depth t with
    |false,false=>match op with
     | .eql=>Km P xs ys fs.toList true fun b=>K (.bool b)
     | .neq=>Km P xs ys fs.toList true fun b=>K (.bool !b)
     |_=>False
    |_,_=>False
   |_=>False
 |_,_=>False
theorem b6g{t:TypeId}{x:Operand}{a a':Option Addr}{c n' c':Nat}:(eqGuard op t x y (.slice a n c) (.slice a' n' c')).run P w= .ok () w:=by
 unfold eqGuard;cases op<;>rfl
theorem b6h{t:TypeId}{x:Operand}{k':IntKind}{a b:Int}:(eqGuard op t x y (.int k a) (.int k' b)).run P w= .ok () w:=by
 unfold eqGuard;cases op<;>rfl
theorem b6i{t:TypeId}{x:Operand}{a b:ByteArray}:(eqGuard op t x y (.string a) (.string b)).run P w= .ok () w:=by
 unfold eqGuard;cases op<;>rfl
theorem b6j{t:TypeId}{x:Operand}{a b:Bool}:(eqGuard op t x y (.bool a) (.bool b)).run P w= .ok () w:=by
 unfold eqGuard;cases op<;>rfl
theorem a6X{t:TypeId}{b:AV}(h:a0p P ov op t a b K)
 {xo yo:Operand} {y:Value} (hx:Af Z η w a x (fun _=>False)) (hy:Af Z η w b y (fun _=>False)):
 POk P Z η w n (do eqGuard op t xo yo x y;binOp op t x y) K:=by
 unfold a0p at h
 split at h
 ·rename_i k p k' q
  simp only[Af,Aj] at hx hy
  rw[hx.1,hy.1]
  refine POk.pre (fun w'=>b6h) ?_
  split at h
  ·rename_i left hl
   have hn:¬q<0:=by omega
   cases op<;>simp only[a6R,reduceCtorEq] at hl
   case shl=>
    simp only[AS] at hl;subst hl
    exact⟨_,.int k (shI true k p q),fun _ _=>by simp only[binOp,Op.shift,if_neg hn,shI];rfl,⟨rfl,AI⟩,trivial,h.2⟩
   case shr=>
    simp only[AS] at hl;subst hl
    exact⟨_,.int k (shI false k p q),fun _ _=>by simp only[binOp,Op.shift,if_neg hn,shI];rfl,⟨rfl,AI⟩,trivial,h.2⟩
  split at h
  ·rename_i hk
   have hk:=Tt hk
   subst hk
   cases op<;>simp only[a6S] at h<;>try exact h.elim
   case and=>exact⟨_,.int k (Fj .and k p q),fun _ _=>by simp only[binOp,Op.intBits,ne_eq,not_true_eq_false,Br,Fj];rfl,⟨rfl,AI⟩,trivial,h⟩
   case or=>exact⟨_,.int k (Fj .or k p q),fun _ _=>by simp only[binOp,Op.intBits,ne_eq,not_true_eq_false,Br,Fj];rfl,⟨rfl,AI⟩,trivial,h⟩
   case xor=>exact⟨_,.int k (Fj .xor k p q),fun _ _=>by simp only[binOp,Op.intBits,ne_eq,not_true_eq_false,Br,Fj];rfl,⟨rfl,AI⟩,trivial,h⟩
   case add=>exact⟨.int k (k.wrap (p+q)),.int k (k.wrap (p+q)),fun _ _=>by simp [binOp,Op.intArith],⟨rfl,AI⟩,trivial,QO h⟩
   case sub=>exact⟨.int k (k.wrap (p-q)),.int k (k.wrap (p-q)),fun _ _=>by simp [binOp,Op.intArith],⟨rfl,AI⟩,trivial,QO h⟩
   case mul=>exact⟨.int k (k.wrap (p*q)),.int k (k.wrap (p*q)),fun _ _=>by simp [binOp,Op.intArith],⟨rfl,AI⟩,trivial,QO h⟩
   case quo=>exact⟨.int k (k.wrap (p.tdiv q)),.int k (k.wrap (p.tdiv q)),fun _ _=>by simp [binOp,Op.intDiv,h.1],⟨rfl,AI⟩,trivial,QO h.2⟩
   case rem=>exact⟨.int k (p.tmod q),.int k (p.tmod q),fun _ _=>by simp [binOp,Op.intDiv,h.1],⟨rfl,AI⟩,trivial,h.2⟩
   all_goals exact⟨.bool _,.bool _,(fun _ _=>by simp [binOp,Op.intCmp]),⟨rfl,AI⟩,trivial,h⟩
  ·exact h.elim
 ·rename_i p q
  simp only[Af,Aj] at hx hy
  rw[hx.1,hy.1]
  refine POk.pre (fun w'=>b6i) ?_
  cases op<;>simp only at h<;>try exact h.elim
  case add=>
   refine⟨.string ⟨(p++q).toArray⟩,.str (p++q),fun _ _=> ?_,⟨rfl,AI⟩,trivial,h.2⟩
   have hh:=h.1
   have e:(ByteArray.mk p.toArray++ByteArray.mk q.toArray)=ByteArray.mk (p++q).toArray:=by
    apply ByteArray.ext;simp
   simp only[binOp,Op.stringOp]
   rw[if_neg (by simp only[ByteArray.size,List.size_toArray];omega),e];rfl
  all_goals exact⟨_,.bool _,(fun _ _=>by simp only[binOp,Op.stringOp,ByteArray.toList_mk];rfl),⟨rfl,AI⟩,trivial,h⟩
 ·rename_i p q
  split at h
  ·rename_i hu
   simp only[Af,Aj] at hx hy
   rw[hx.1,hy.1]
   refine POk.pre (fun w'=>b6j) ?_
   have he:∀w,(Op.equal t (.bool p) (.bool q)).run P w= .ok (p==q) w:=by
    intro w
    have hd:∀d,(Op.equalIn (d+1) t (.bool p) (.bool q)).run P w= .ok (p==q) w:=by
     intro d;unfold Op.equalIn
     rw[AC (DV hu w)];rfl
    exact hd 9999
   cases op<;>simp only at h<;>try exact h.elim
   case eql=>exact⟨.bool (p==q),.bool (p==q),fun _ _=>by simp only[binOp];rw[AC (he _)];rfl,⟨rfl,AI⟩,trivial,h⟩
   case neq=>exact⟨.bool !(p==q),.bool !(p==q),fun _ _=>by simp only[binOp];rw[AC (he _)];rfl,⟨rfl,AI⟩,trivial,h⟩
  ·exact h.elim
 ·rename_i sz α f xs
  split at h
  ·rename_i e hu
   simp only[Af,Aj] at hx hy
   obtain⟨_,a0,n0,c0,rfl,hn,hc,hx⟩:=hx
   rw[hy.1]
   refine POk.pre (fun w'=>b6g) ?_
   have he:∀w,(Op.equal t (.slice a0 n0 c0) (.slice none 0 0)).run P w= .ok a0.isNone w:=by
    intro w
    have hd:∀d,(Op.equalIn (d+1) t (.slice a0 n0 c0) (.slice none 0 0)).run P w= .ok a0.isNone w:=by
     intro d;unfold Op.equalIn
     rw[AC (DV hu w)];cases a0<;>rfl
    exact hd 9999
   have hnil:a0.isNone=true→xs=[]:=by
    intro h0
    rcases hx with⟨ho,_⟩|⟨_,_,h1⟩
    ·cases ho
    ·rcases h1 with h1|⟨b,off,arr,ty,fr,ha,_⟩
     ·exact h1
     ·rw[ha] at h0;cases h0
   cases op<;>simp only at h<;>try exact h.elim
   case eql=>exact⟨.bool a0.isNone,.bool a0.isNone,fun _ _=>by simp only[binOp];rw[AC (he _)];rfl,⟨rfl,AI⟩,trivial,h _ hnil⟩
   case neq=>exact⟨.bool !a0.isNone,.bool !a0.isNone,fun _ _=>by simp only[binOp];rw[AC (he _)];rfl,⟨rfl,AI⟩,trivial,h _ (fun h0=>hnil (by simpa using h0))⟩
  ·exact h.elim
 ·rename_i xs ys
  split at h
  ·rename_i fs hu
   split at h
   ·rename_i hst hg
    simp only[Af] at hx hy
    obtain⟨cs,rfl,hx⟩:=hx
    obtain⟨ds,rfl,hy⟩:=hy
    have hf:P.fieldsOf t=fs:=by unfold Program.fieldsOf;rw[hu]
    have key:∀ {K':Bool→Prop},Km P xs ys fs.toList true K'→∃b,(∀w',(Op.equal t (.agg cs.toArray) (.agg ds.toArray)).run P w'= .ok b w')∧K' b:=by
     intro K' hk
     obtain⟨b,h1,h2⟩:=VX hx hy 9997 fs.toList true K' hk
     refine⟨b,fun w'=> ?_,by simpa using h2⟩
     show(Op.equalIn (9999+1) t (.agg cs.toArray) (.agg ds.toArray)).run P w'=_
     rw[run_equalIn_struct w' 9999 t _ _ (by rw[hf];exact hu) hst,hf]
     exact h1 w'
    refine POk.pre (fun w'=>run_eqGuard_agg w' op t xo yo _ _ hg) ?_
    cases op<;>simp only at h<;>try exact h.elim
    case eql=>
     obtain⟨b,h1,h2⟩:=key h
     exact⟨.bool b,.bool b,fun _ _=>by simp only[binOp];rw[AC (h1 _)];rfl,⟨rfl,AI⟩,trivial,h2⟩
    case neq=>
     obtain⟨b,h1,h2⟩:=key h
     exact⟨.bool !b,.bool !b,fun _ _=>by simp only[binOp];rw[AC (h1 _)];rfl,⟨rfl,AI⟩,trivial,h2⟩
   ·exact h.elim
  ·exact h.elim
 ·exact h.elim
def a0q(op:UnOp)(a:AV)(ov:Bool)(K:AV→Prop):Prop:=
 match op,a with
 | .not,.bool b=>K (.bool !b)
 | .neg,.int k n=>OF ov k (0-n) K
 |_,_=>False
theorem b6k{op:UnOp}(h:a0q op a ov K)
 (hx:Af Z η w a x (fun _=>False)):POk P Z η w n (Op.unary op x) K:=by
 unfold a0q at h
 split at h
 ·simp only[Af,Aj] at hx;rw[hx.1];exact⟨_,.bool _,fun _ _=>rfl,⟨rfl,AI⟩,trivial,h⟩
 ·rename_i k m
  simp only[Af,Aj] at hx;rw[hx.1];exact⟨_,.int k (k.wrap (0-m)),fun _ _=>rfl,⟨rfl,AI⟩,trivial,QO h⟩
 ·exact h.elim
def Tu(P:Program)(regs:List AV)(t:TypeId)(p:AV)(K:AV→Prop):Prop:=
 match p with
 | .pf c=>Nj P t (c.map Li) K
 | .al id=>match Fd id regs with
   |some (.box _ c)=>Nj P t (Hx c) K
   |_=>False
 | .po id k sz off=>match Fd id regs with
   |some (.box _ c)=>match k,sz with
    |0,0=>Nj P t (Hx (c.drop off)) K
    |_,_=>False
   |some (.sl true _ sz' _ f xs)=>match Nat.beq sz sz' with
    |true=>k<xs.length∧∀x,xs[k]? =some x→Nj P t (((f x).map Li).drop off) K
    |false=>False
   |_=>False
 |_=>False
def OH(Z:FP)(w w':World):Prop:=∀b,¬Z b→b<w.heap.size→w'.heap[b]? =w.heap[b]?
theorem b6l{t:TypeId}(h:Nj P t (c.map Li) K)(hx:Af Z η w (.pf c) x (fun _=>False)):
 ∃v r,(∀w',OH Z w w'→(Instr.loadAt t x).run P w'= .ok v w')∧Af Z η w r v (fun _=>False)∧Az n r∧K r:=by
 simp only[Af,Aj] at hx
 obtain⟨_,b,off,arr,ty,fr,cs,rest,S1,e,hz,hb,hd,hr,hS1⟩:=hx
 subst e
 obtain⟨v,r,h1,h2,h3,h4⟩:=a6Q (n:=n) h hb hd (VT _ _ _ hr) (VS n c)
 refine⟨v,r,fun w' hw'=> ?_,h2,h3,h4⟩
 simp only[Instr.loadAt,Instr.sureAddr]
 have hlt:b<w.heap.size:=by
  rcases Ju b w.heap.size with hh|hh
  ·exact hh
  ·simp [Te hh] at hb
 rw[Ha];exact h1 w' ((hw' b hz hlt).trans hb)
theorem a0r:∀(n:Nat) (l:List AV),Hx (l.drop n)=(Hx l).drop n
 |0,l=>by simp
 |n+1,[]=>by simp [Hx]
 |n+1,a::l=>by simpa [Hx] using a0r n l
theorem a6Y{t:TypeId}(h:Tu P regs t p K)
   (hR:Am Z η w regs vs S) (hI:AN n regs) (hx:Af Z η w p x (fun _=>False)):POk P Z η w n (Instr.loadAt t x) K:=by
 unfold Tu at h
 split at h
 ·rename_i c
  simp only[Af,Aj] at hx
  obtain⟨_,b,off,arr,ty,fr,cs,rest,S1,e,hz,hb,hd,hr,hS1⟩:=hx
  subst e
  obtain⟨v,r,h1,h2,h3,h4⟩:=VU (n:=n) h hb hd (VT _ _ _ hr) (VS n c)
  refine⟨v,r,fun w' hw'=> ?_,h2,h3,h4⟩
  simp only[Instr.loadAt,Instr.sureAddr]
  rw[Ha];exact h1 w' hw'
 ·rename_i id
  simp only[Af] at hx
  obtain⟨e,_⟩:=hx
  split at h
  ·rename_i i c ho
   obtain⟨A,hA,hi,hr⟩:=Gm regs vs S _ hR ho
   have hids:=Nl regs _ hI ho
   simp only[Af] at hr
   obtain⟨_,b,arr,ty,S1,e0,hb,hr,hj⟩:=hr
   have hrel:=QD _ _ _ hr
   simp only[Az] at hids
   obtain⟨v,r,h1,h2,h3,h4⟩:=VU (n:=n) (off:=0) h hb (cs:=arr.toList) (rest:=[]) (by simp) hrel (QE _ hids.2)
   refine⟨v,r,fun w' hw'=> ?_,h2,h3,h4⟩
   rw[e,e0]
   simp only[Instr.loadAt,Instr.sureAddr]
   rw[Ha]
   exact h1 w' hw'
  ·exact h.elim
 ·rename_i id k sz off
  simp only[Af] at hx
  obtain⟨e,_⟩:=hx
  split at h
  ·rename_i i c ho
   obtain⟨A,hA,hi,hr⟩:=Gm regs vs S _ hR ho
   have hids:=Nl regs _ hI ho
   split at h
   ·simp only[Af] at hr
    obtain⟨_,b,arr,ty,S1,e0,hb,hr,hj⟩:=hr
    have hrel:=QD _ _ _ hr
    have hrel:=Tr off _ _ hrel
    rw[←a0r] at hrel
    simp only[Az] at hids
    obtain⟨v,r,h1,h2,h3,h4⟩:=VU (n:=n) (off:=off) h hb (cs:=arr.toList.drop off) (rest:=[]) (by simp) hrel (by rw[a0r];exact Ni _ _ (QE _ hids.2))
    refine⟨v,r,fun w' hw'=> ?_,h2,h3,h4⟩
    rw[e,e0]
    simp only[Instr.loadAt,Instr.sureAddr,Gk]
    rw[Ha]
    simpa [ad] using h1 w' hw'
   ·exact h.elim
  ·rename_i i sz' α f xs ho
   obtain⟨A,hA,hi,hr⟩:=Gm regs vs S _ hR ho
   split at h
   ·rename_i hsz
    have hsz:=Cj hsz
    subst hsz
    obtain⟨hlt,h⟩:=h
    have hk:xs[k]? =some xs[k]:=by simp
    have h:=h _ hk
    simp only[Af,Aj] at hr
    obtain⟨_,a,n',c,e0,hn,hc,hr⟩:=hr
    rcases hr with⟨_,hr⟩|⟨ho,_⟩
    ·rcases hr with⟨ha,hc0,_⟩|⟨b,boff,arr,ty,S1,ha,hb,hsz,hrows,hj⟩
     ·omega
     ·obtain⟨A',hA',hl,hr⟩:=a0n xs _ S1 k xs[k] hrows hk
      rw[Dv] at hl hr
      have hp:=VT (η:=η) _ _ _ hr
      have hp:=Tr off _ _ hp
      obtain⟨v,r,h1,h2,h3,h4⟩:=VU (n:=n) (off:=boff+(k*sz+off)) h hb (cs:=((arr.toList.drop (boff+k*sz)).take sz).drop off)
       (rest:=(arr.toList.drop (boff+k*sz)).drop (max sz off)) (by
         rw[←QA,←Dv]
         generalize arr.toList.drop (boff+k*sz)=l
         rw[Ld]
         rcases Nat.le_total off sz with hle|hle
         ·rw[Nat.max_eq_left hle]
          have e:l.drop sz=(l.drop off).drop (sz-off):=by rw[Dv];congr 1;omega
          rw[e,Fw]
         ·rw[Nat.max_eq_right hle,Nat.sub_eq_zero_of_le hle];simp) hp (Ni _ _ (VS n _))
      refine⟨v,r,fun w' hw'=> ?_,h2,h3,h4⟩
      rw[e,e0,ha]
      simp only[Instr.loadAt,Instr.sureAddr,Gk]
      rw[Ha]
      exact h1 w' hw'
    ·cases ho
   ·exact h.elim
  ·exact h.elim
 ·exact h.elim
def QP(P:Program)(s:TypeId)(f:Nat):Option (Nat×Nat):=
 match P.underlying s with
 |some (.struct fs)=>match fs[f]? with
  |some fd=>match P.info? fd.type with
   |some i=>match i.size with
    |0=>none
    |n+1=>some (fd.offset,n+1)
   |none=>none
  |none=>none
 |_=>none
def VY(P:Program)(regs:List AV)(s:TypeId)(f:Nat)(p:AV)(K:AV→Prop):Prop:=
 match QP P s f with
 |some (off,_)=>match p with
  | .pf c=>K (.pf (c.drop off))
  | .al id=>match Fd id regs with
    |some (.box _ _)=>K (.po id 0 0 off)
    |_=>False
  | .po id k sz o=>K (.po id k sz (o+off))
  |_=>False
 |none=>False
theorem a0s{Z:FP}{w:World}:∀(n:Nat) (azs:List AV) (cs:List Value) (S:FP),AU Z w azs cs S→emp S→AU Z w (azs.drop n) (cs.drop n) S
 |0,azs,cs,S,h,_=>by simpa using h
 |n+1,[],cs,S,h,_=>by simp only[AU] at h;simp [h.1,AU,h.2]
 |n+1,a::azs,cs,S,h,hS=>by
  simp only[AU] at h
  obtain⟨v,cs',A,B,e,hj,h1,h2⟩:=h
  have hB:=(Jv hj hS).2
  subst e
  rw[Fx hS]
  rw[Fx hB] at h2
  simpa using a0s n azs cs' _ h2 AI
theorem a0t{s:TypeId}{f:Nat}(h:VY P regs s f p K)
   (hR:Am Z η w regs vs S) (hx:Af Z η w p x (fun _=>False)) (hi:Az n p):
 ∃v r,(∀w',(Instr.fieldAt s x f).run P w'= .ok v w')∧Af Z η w r v (fun _=>False)∧Az n r∧K r:=by
 unfold VY at h
 split at h
 ·rename_i off q hf
  unfold QP at hf
  split at hf
  ·rename_i fs hu
   split at hf
   ·rename_i fd hfd
    split at hf
    ·rename_i i hinfo
     split at hf
     ·cases hf
     ·rename_i m hm
      simp only[AS,BM] at hf
      obtain⟨rfl,rfl⟩:=hf
      have hrun:∀(a:Addr) (w:World),(Instr.fieldAt s (.pointer (some a)) f).run P w= .ok (.pointer (some (a.add fd.offset))) w:=by
       intro a w
       unfold Instr.fieldAt
       rw[AC (DV hu w)]
       simp only[hfd,Instr.sureAddr]
       rw[AC (Cy P _ w)]
       unfold fieldPlace
       rw[AC (x:=a.add fd.offset) (w':=w) ?_]
       ·rfl
       ·rw[AC (Hy hinfo w),hm];rfl
      split at h
      ·rename_i c
       simp only[Af,Aj] at hx
       obtain⟨_,b,off,arr,ty,fr,cs,rest,S1,e,hz,hb,hd,hr,hS1⟩:=hx
       subst e
       refine⟨_,.pf (c.drop fd.offset),fun w'=>hrun _ w',?_,trivial,h⟩
       simp only[Af,Aj]
       refine⟨AI,b,off+fd.offset,arr,ty,fr,cs.drop fd.offset,(cs++rest).drop (max cs.length fd.offset),S1,congrArg (fun a=>Value.pointer (some a)) (Jx b off fd.offset),hz,hb,?_,a0s _ _ _ _ hr hS1,hS1⟩
       rw[←Dv,hd]
       rcases Nat.le_total fd.offset cs.length with hle|hle
       ·rw[Nat.max_eq_left hle,Lc hle];simp
       ·rw[Nat.max_eq_right hle,OA hle];simp
      ·rename_i id
       split at h
       ·rename_i i c ho
        obtain⟨A,hA,hi',hr⟩:=Gm regs vs S _ hR ho
        simp only[Af] at hr hx
        obtain⟨_,b,arr,ty,S1,e0,_⟩:=hr
        rw[hx.1,e0]
        refine⟨_,.po id 0 0 fd.offset,fun w'=>hrun _ w',?_,hi,h⟩
        simp only[Af]
        refine⟨?_,AI⟩
        rw[e0]
        have:=Jx b 0 fd.offset
        unfold ad at this
        rw[this];simp [Gk]
       ·exact h.elim
      ·rename_i id k sz o
       simp only[Af] at hx
       rw[hx.1]
       refine⟨_,.po id k sz (o+fd.offset),fun w'=>hrun _ w',?_,hi,h⟩
       simp only[Af]
       refine⟨?_,AI⟩
       have:=Jx (Gk (η id)).block ((Gk (η id)).off+(k*sz+o)) fd.offset
       unfold ad at this
       rw[this];congr 3;omega
      ·exact h.elim
    ·cases hf
   ·cases hf
  ·cases hf
 ·exact h.elim
theorem b6m{s:TypeId}{f:Nat}(h:VY P regs s f p K)
   (hR:Am Z η w regs vs S) (hx:Af Z η w p x (fun _=>False)) (hi:Az n p):POk P Z η w n (Instr.fieldAt s x f) K:=by
 obtain⟨v,r,h1,h2,h3,h4⟩:=a0t h hR hx hi
 exact⟨v,r,fun w' _=>h1 w',h2,h3,h4⟩
def Nn(P:Program)(t:TypeId):Option (TypeId×Nat):=
 match P.underlying t with
 |some (.slice e)=>match P.info? e with
  |some i=>some (e,i.size)
  |none=>none
 |_=>none
theorem QQ{t e:TypeId}(h:Nn P t=some (e,n)):P.underlying t=some (.slice e)∧∃i,P.info? e=some i∧i.size=n:=by
 unfold Nn at h
 split at h
 ·rename_i e' hu
  split at h
  ·rename_i i hi
   simp only[AS,BM] at h
   obtain⟨rfl,rfl⟩:=h
   exact⟨hu,i,hi,rfl⟩
  ·cases h
 ·cases h
def a0u(P:Program)(t:TypeId):Option (Nat×Nat):=
 match P.underlying t with
 |some (.array len e)=>match P.info? e with
  |some i=>some (len,i.size)
  |none=>none
 |_=>none
theorem b6n{t:TypeId}(h:a0u P t=some (len,n)):∃e i,P.underlying t=some (.array len e)∧P.info? e=some i∧i.size=n:=by
 unfold a0u at h
 split at h
 ·rename_i l e hu
  split at h
  ·rename_i i hi
   simp only[AS,BM] at h
   obtain⟨rfl,rfl⟩:=h
   exact⟨e,i,hu,hi,rfl⟩
  ·cases h
 ·cases h
def VZ(P:Program)(regs:List AV)(t:TypeId)(x i:AV)(K:AV→Prop):Prop:=
 match i with
 | .int _ n=>match Nn P t with
   |some (_,es)=>match x with
    | .sl false _ sz _ f xs=>match Nat.beq sz es with
      |true=>(0≤n∧n<(xs.length:Int))∧∀e,xs[n.toNat]? =some e→K (.pf (f e))
      |false=>False
    | .al id=>match Fd id regs with
      |some (.sl true _ sz _ f xs)=>match Nat.beq sz es with
       |true=>(0≤n∧n<(xs.length:Int))∧K (.po id n.toNat sz 0)
       |false=>False
      |_=>False
    |_=>False
   |none=>match a0u P t with
    |some (len,es)=>match x with
     | .al id=>match Fd id regs with
       |some (.box _ _)=>(0≤n∧n<(len:Int))∧K (.po id 0 0 (n.toNat*es))
       |_=>False
     | .po id kk sz o=>(0≤n∧n<(len:Int))∧K (.po id kk sz (o+n.toNat*es))
     | .pf c=>(0≤n∧n<(len:Int))∧K (.pf (c.drop (n.toNat*es)))
     |_=>False
    |none=>False
 |_=>False
theorem a0v{t e:TypeId}{i:TypeInfo}{n:Int}{a:Addr}(hu:P.underlying t=some (.array len e))(hi:P.info? e=some i)
 (h0:0≤n) (h1:n<(len:Int)):(Instr.indexAt t (.pointer (some a)) (.int k n)).run P w= .ok (.pointer (some (a.add (n.toNat*i.size)))) w:=by
 unfold Instr.indexAt asIntOf
 rw[AC (Cy P _ w)]
 simp only[]
 rw[AC (DV hu w)]
 simp only[Instr.sureAddr]
 rw[AC (Cy P a w)]
 rw[AC (Cy P (some a,len,e) w)]
 rw[AC (DV hu w)]
 simp only[h0,h1,and_self,BN]
 rw[AC (Hy hi w)]
 rfl
theorem a6Z{t e:TypeId}{i:TypeInfo}{n:Int}{a:Addr}{cap:Nat}(hu:P.underlying t=some (.slice e))(hi:P.info? e=some i)
 (h0:0≤n) (h1:n<(len:Int)):(Instr.indexAt t (.slice (some a) len cap) (.int k n)).run P w= .ok (.pointer (some (a.add (n.toNat*i.size)))) w:=by
 unfold Instr.indexAt asIntOf
 rw[AC (Cy P _ w)]
 simp only[]
 rw[AC (DV hu w)]
 simp only[]
 rw[AC (Cy P _ w)]
 simp only[]
 rw[AC (DV hu w)]
 simp only[h0,h1,and_self,BN]
 rw[AC (Hy hi w)]
 rfl
theorem a0w{t:TypeId}{x i:AV}(h:VZ P regs t x i K)
    (hR:Am Z η w regs vs S) (hI:AN n regs) (hx:Af Z η w x xv (fun _=>False)) (hxi:Az n x)
 (hi:Af Z η w i iv (fun _=>False)):
 ∃v r,(∀w',(Instr.indexAt t xv iv).run P w'= .ok v w')∧Af Z η w r v (fun _=>False)∧Az n r∧K r:=by
 unfold VZ at h
 split at h
 ·rename_i k q
  simp only[Af,Aj] at hi
  rw[hi.1]
  split at h
  ·rename_i e es he
   obtain⟨hu,inf,hinf,hsz⟩:=QQ he
   split at h
   ·rename_i i' sz α f xs
    split at h
    ·rename_i hb
     have hb:=Cj hb
     subst hb
     obtain⟨⟨h0,h1⟩,h⟩:=h
     have hlt:q.toNat<xs.length:=by omega
     have hk:xs[q.toNat]? =some xs[q.toNat]:=by simp
     have h:=h _ hk
     simp only[Af,Aj] at hx
     obtain⟨_,a,n',c,ev,hn,hc,hr⟩:=hx
     rcases hr with⟨ho,_⟩|⟨_,_,hr⟩
     ·cases ho
     ·rcases hr with hr|⟨b,off,arr,ty,fr,ha,hz,hbk,hrows⟩
      ·subst hr;simp at hlt
      ·subst ha
       subst ev
       subst hn
       obtain⟨A,hA,hl,hr⟩:=a0n xs _ _ _ _ hrows hk
       rw[Dv] at hl hr
       refine⟨_,.pf (f xs[q.toNat]),fun _=>a6Z hu hinf h0 h1,?_,trivial,h⟩
       simp only[Af,Aj]
       refine⟨AI,b,off+q.toNat*sz,arr,ty,fr,_,(arr.toList.drop (off+q.toNat*sz)).drop sz,A,?_,hz,hbk,(Fw _ _).symm,hr,fun b hb=>hA b hb⟩
       rw[hsz];exact congrArg (fun a=>Value.pointer (some a)) (Jx b off _)
    ·exact h.elim
   ·rename_i id
    split at h
    ·rename_i i' sz α f xs ho
     split at h
     ·rename_i hb
      have hb:=Cj hb
      subst hb
      obtain⟨⟨h0,h1⟩,h⟩:=h
      have hlt:q.toNat<xs.length:=by omega
      obtain⟨A,hA,hio,hr⟩:=Gm regs vs S _ hR ho
      simp only[Af] at hx
      simp only[Af,Aj] at hr
      obtain⟨_,a,n',c,ev,hn,hc,hr⟩:=hr
      rcases hr with⟨_,hr⟩|⟨ho,_⟩
      ·rcases hr with⟨ha,hc0,_⟩|⟨b,boff,arr,ty,S1,ha,hbk,hsz2,hrows,hj⟩
       ·omega
       ·subst ha
        subst hn
        rw[hx.1,ev]
        refine⟨_,.po id q.toNat sz 0,fun _=>a6Z hu hinf h0 h1,?_,hxi,h⟩
        simp only[Af]
        refine⟨?_,AI⟩
        rw[ev,hsz]
        simp only[Gk,Nat.add_zero]
        exact congrArg (fun a=>Value.pointer (some a)) (Jx b boff _)
      ·cases ho
     ·exact h.elim
    ·exact h.elim
   ·exact h.elim
  ·split at h
   ·rename_i len es hae
    obtain⟨e,inf,hu,hinf,hsz⟩:=b6n hae
    split at h
    ·rename_i id
     split at h
     ·rename_i i' c ho
      obtain⟨⟨h0,h1⟩,h⟩:=h
      obtain⟨A,hA,hi',hr⟩:=Gm regs vs S _ hR ho
      simp only[Af] at hr hx
      obtain⟨_,b,arr,ty,S1,e0,_⟩:=hr
      rw[hx.1,e0]
      refine⟨_,.po id 0 0 (q.toNat*es),fun w'=>a0v hu hinf h0 h1,?_,hxi,h⟩
      simp only[Af]
      refine⟨?_,AI⟩
      rw[e0,hsz]
      have:=Jx b 0 (q.toNat*es)
      unfold ad at this
      rw[this];simp [Gk]
     ·exact h.elim
    ·rename_i id kk sz o
     obtain⟨⟨h0,h1⟩,h⟩:=h
     simp only[Af] at hx
     rw[hx.1]
     refine⟨_,.po id kk sz (o+q.toNat*es),fun w'=>a0v hu hinf h0 h1,?_,hxi,h⟩
     simp only[Af]
     refine⟨?_,AI⟩
     have:=Jx (Gk (η id)).block ((Gk (η id)).off+(kk*sz+o)) (q.toNat*es)
     unfold ad at this
     rw[hsz,this];congr 3;omega
    ·rename_i c
     obtain⟨⟨h0,h1⟩,h⟩:=h
     simp only[Af,Aj] at hx
     obtain⟨_,b,off,arr,ty,fr,cs,rest,S1,e2,hz,hb,hd,hr,hS1⟩:=hx
     subst e2
     refine⟨_,.pf (c.drop (q.toNat*es)),fun w'=>a0v hu hinf h0 h1,?_,trivial,h⟩
     simp only[Af,Aj]
     refine⟨AI,b,off+q.toNat*es,arr,ty,fr,cs.drop (q.toNat*es),(cs++rest).drop (max cs.length (q.toNat*es)),S1,?_,hz,hb,?_,a0s _ _ _ _ hr hS1,hS1⟩
     ·rw[hsz];exact congrArg (fun a=>Value.pointer (some a)) (Jx b off (q.toNat*es))
     ·rw[←Dv,hd]
      rcases Nat.le_total (q.toNat*es) cs.length with hle|hle
      ·rw[Nat.max_eq_left hle,Lc hle];simp
      ·rw[Nat.max_eq_right hle,OA hle];simp
    ·exact h.elim
   ·exact h.elim
 ·exact h.elim
theorem b6o{t:TypeId}{x i:AV}(h:VZ P regs t x i K)
    (hR:Am Z η w regs vs S) (hI:AN n regs) (hx:Af Z η w x xv (fun _=>False)) (hxi:Az n x)
 (hi:Af Z η w i iv (fun _=>False)):POk P Z η w n (Instr.indexAt t xv iv) K:=by
 obtain⟨v,r,h1,h2,h3,h4⟩:=a0w h hR hI hx hxi hi
 exact⟨v,r,fun w' _=>h1 w',h2,h3,h4⟩
def Tv:List AV→Option (List Aa)
 |[]=>some []
 |a::azs=>match a with
  | .str l=>match Tv azs with
    |some ls=>some (l::ls)
    |none=>none
  |_=>none
theorem a7a{Z:FP}{η:Nat→Value}{w:World}:∀(azs:List AV) (vs:List Value) (S:FP) (ls:List Aa),Tv azs=some ls→Am Z η w azs vs S→vs=ls.map fun l=>Value.string ⟨l.toArray⟩
 |[],vs,S,ls,h,hr=>by
  simp only[Tv,AS] at h;subst h
  simp only[Am] at hr;exact hr.1
 |a::azs,vs,S,ls,h,hr=>by
  unfold Tv at h
  split at h
  ·rename_i l
   split at h
   ·rename_i ls' hs
    simp only[AS] at h;subst h
    simp only[Am] at hr
    obtain⟨v,cs',A,B,e,hj,h1,h2⟩:=hr
    simp only[Af,Aj] at h1
    rw[e,h1.1,a7a azs cs' B ls' hs h2];rfl
   ·cases h
  ·cases h
def a0x(P:Program)(t:TypeId)(x i:AV)(K:AV→Prop):Prop:=
 match i with
 | .int _ n=>match x with
   | .str l=>match P.underlying t with
     |some .string=>(0≤n∧n<(l.length:Int))∧∀c,l[n.toNat]? =some c→K (.int .u8 c.toNat)
     |_=>False
   | .agg cs=>match P.underlying t with
     |some (.array len e)=>match P.underlying e,P.info? e with
      |some d,some i=>match Jw d,Nat.beq i.size 1,Tv cs with
       |false,true,some ls=>match Nat.beq ls.length len with
        |true=>(0≤n∧n<(len:Int))∧∀l,ls[n.toNat]? =some l→K (.str l)
        |false=>False
       |_,_,_=>False
      |_,_=>False
     |_=>False
   |_=>False
 |_=>False
theorem b6p{t:TypeId}{x i:AV}(h:a0x P t x i K)
 (hx:Af Z η w x xv (fun _=>False)) (hi:Af Z η w i iv (fun _=>False)):POk P Z η w n (Instr.index t xv iv) K:=by
 unfold a0x at h
 split at h
 ·rename_i k q
  simp only[Af,Aj] at hi
  rw[hi.1]
  split at h
  ·rename_i l
   split at h
   ·rename_i hu
    simp only[Af,Aj] at hx
    rw[hx.1]
    obtain⟨⟨h0,h1⟩,h⟩:=h
    have hlt:q.toNat<l.length:=by omega
    have hk:l[q.toNat]? =some l[q.toNat]:=by simp
    refine⟨.int .u8 l[q.toNat].toNat,.int .u8 l[q.toNat].toNat,fun w _=> ?_,⟨rfl,AI⟩,trivial,h _ hk⟩
    unfold Instr.index asIntOf
    rw[AC (Cy P _ w)]
    simp only[]
    rw[AC (DV hu w)]
    simp only[]
    have e:(if 0≤q then(ByteArray.mk l.toArray)[q.toNat]? else none)=some l[q.toNat]:=by
     rw[if_pos h0]
     have:q.toNat<(ByteArray.mk l.toArray).size:=by simpa [ByteArray.size] using hlt
     rw[getElem?_pos (ByteArray.mk l.toArray) q.toNat this]
     rfl
    rw[e];rfl
   ·exact h.elim
  ·rename_i cs
   split at h
   ·rename_i len e hu
    split at h
    ·rename_i d i hud hinf
     split at h
     ·rename_i ls hagg hsz hls
      split at h
      ·rename_i hlen
       have hlen:=Cj hlen
       have hsz:=Cj hsz
       obtain⟨⟨h0,h1⟩,h⟩:=h
       simp only[Af] at hx
       obtain⟨vs,e0,hr⟩:=hx
       subst e0
       have hvs:=a7a cs vs _ ls hls hr
       have hlt:q.toNat<ls.length:=by omega
       have hk:ls[q.toNat]? =some ls[q.toNat]:=by simp
       refine⟨.string ⟨ls[q.toNat].toArray⟩,.str ls[q.toNat],fun w _=> ?_,⟨rfl,AI⟩,trivial,h _ hk⟩
       unfold Instr.index asIntOf
       rw[AC (Cy P _ w)]
       simp only[]
       rw[AC (DV hu w)]
       simp only[h0,h1,and_self,BN]
       rw[AC (Hy hinf w)]
       unfold part
       rw[AC (Kk hud w),hagg]
       simp only[Bl,Br]
       have:vs.toArray[q.toNat*i.size]? =some (.string ⟨ls[q.toNat].toArray⟩):=by rw[hvs,hsz];simp [hlt]
       rw[this];rfl
      ·exact h.elim
     ·exact h.elim
    ·exact h.elim
   ·exact h.elim
  ·exact h.elim
 ·exact h.elim
def JA(d:Int):Option AV→Option Int
 |none=>some d
 |some (.int _ n)=>some n
 |_=>none
def Tw{α:Type}(lo hi:Bool)(p q:Int)(l:List α):List α:=match lo,hi with
 |false,false=>l
 |false,true=>l.take q.toNat
 |true,false=>l.drop p.toNat
 |true,true=>(l.take q.toNat).drop p.toNat
theorem a0y{α:Type}{hi:Option AV}{p q:Int}{l:List α}(hp:JA 0 lo=some p)(hq:JA l.length hi=some q):
 Tw lo.isSome hi.isSome p q l=(l.take q.toNat).drop p.toNat:=by
 have h1:lo=none→p=0:=fun h=>by subst h;simp [JA] at hp;exact hp.symm
 have h2:hi=none→q=l.length:=fun h=>by subst h;simp [JA] at hq;exact hq.symm
 cases lo<;>cases hi<;>simp only[Tw,Option.isSome]
 ·rw[h1 rfl,h2 rfl];simp
 ·rw[h1 rfl];simp
 ·rw[h2 rfl];simp
def a0z(P:Program)(t:TypeId)(x:AV)(lo hi:Option AV)(K:AV→Prop):Prop:=
 match x with
 | .str l=>match P.underlying t with
   |some .string=>match JA 0 lo,JA l.length hi with
    |some p,some q=>(0≤p∧p≤q∧q≤(l.length:Int))∧K (.str (Tw lo.isSome hi.isSome p q l))
    |_,_=>False
   |_=>False
 | .sl false _ sz α f xs=>match Nn P t with
   |some (_,es)=>match Nat.beq sz es with
    |true=>match JA 0 lo,JA xs.length hi with
     |some p,some q=>(0≤p∧p≤q∧q≤(xs.length:Int))∧K (.sl false 0 sz α f (Tw lo.isSome hi.isSome p q xs))
     |_,_=>False
    |false=>False
   |none=>False
 |_=>False
theorem a0A{isS:Bool}{cap:Nat}{lo hi:Option Value}{p q:Int}(hc:len≤cap)(hp:0≤p)(hpq:p≤q)(hq:q≤(len:Int))
 (hlo:lo=none∧p=0∨∃k,lo=some (.int k p)) (hhi:hi=none∧q=len∨∃k,hi=some (.int k q)):
 (Instr.sliceBounds isS len cap lo hi none).run P w= .ok (p.toNat,q.toNat,cap) w:=by
 unfold Instr.sliceBounds
 simp only[]
 rw[AC (Cy P _ w)]
 have h1:∀(y:Nat) (code:BoundsCode) (k:IntKind) (z:Int),0≤z→z≤(y:Int)→(Instr.sliceBound (.int k z) y code).run P w= .ok z.toNat w:=by
  intro y code k z h0 h1
  unfold Instr.sliceBound asIntOf
  rw[AC (Cy P _ w)]
  simp only[h0,h1,and_self,BN];rfl
 rcases hhi with⟨rfl,rfl⟩|⟨k,rfl⟩
 ·simp only[]
  rw[AC (Cy P _ w)]
  rcases hlo with⟨rfl,rfl⟩|⟨k',rfl⟩
  ·simp only[]
   rw[AC (Cy P _ w)];simp [Cy]
  ·simp only[]
   rw[AC (h1 _ _ _ _ hp hpq)];simp [Cy]
 ·simp only[]
  rw[AC (h1 _ _ _ _ (by omega) (by omega))]
  rcases hlo with⟨rfl,rfl⟩|⟨k',rfl⟩
  ·simp only[]
   rw[AC (Cy P _ w)];simp [Cy]
  ·simp only[]
   rw[AC (h1 _ _ _ _ hp (by omega))];simp [Cy]
theorem QR{d:Int}{p:Int}(h:JA d lo=some p){lov:Option Value}
 (hr:∀a,lo=some a→∃v,lov=some v∧Af Z η w a v (fun _=>False)) (hn:lo=none→lov=none):lov=none∧p=d∨∃k,lov=some (.int k p):=by
 unfold JA at h
 split at h
 ·simp only[AS] at h;exact .inl ⟨hn rfl,h.symm⟩
 ·rename_i k n
  simp only[AS] at h;subst h
  obtain⟨v,hv,hr⟩:=hr _ rfl
  simp only[Af,Aj] at hr
  exact .inr ⟨k,by rw[hv,hr.1]⟩
 ·cases h
theorem a0B{α:Type}{sz:Nat}{R:α→List Value→FP→Prop}:∀(k:Nat) (xs:List α) (cs:List Value) (S:FP),Rows sz R xs cs S→∃S',(∀b,S' b→S b)∧Rows sz R (xs.drop k) (cs.drop (k*sz)) S'
 |0,xs,cs,S,h=>⟨S,fun _ h=>h,by simpa using h⟩
 |k+1,[],cs,S,h=>⟨S,fun _ h=>h,by simpa [Rows] using h⟩
 |k+1,x::xs,cs,S,h=>by
  obtain⟨A,B,hj,hl,h1,h2⟩:=h
  obtain⟨S',hs,hr⟩:=a0B k xs (cs.drop sz) B h2
  rw[Dv] at hr
  have e:(k+1)*sz=sz+k*sz:=by rw[Hs];omega
  rw[e]
  exact⟨S',fun b hb=>(hj.1 b).2 (.inr (hs b hb)),by simpa using hr⟩
theorem a0C{α:Type}{sz:Nat}{R:α→List Value→FP→Prop}:∀(k:Nat) (xs:List α) (cs:List Value) (S:FP),Rows sz R xs cs S→∃S',(∀b,S' b→S b)∧Rows sz R (xs.take k) cs S'
 |0,xs,cs,S,h=>⟨fun _=>False,fun _ h=>h.elim,by simp [Rows,emp]⟩
 |k+1,[],cs,S,h=>⟨S,fun _ h=>h,by simpa [Rows] using h⟩
 |k+1,x::xs,cs,S,h=>by
  obtain⟨A,B,hj,hl,h1,h2⟩:=h
  obtain⟨S',hs,hr⟩:=a0C k xs (cs.drop sz) B h2
  exact⟨fun b=>A b∨S' b,fun b hb=>(hj.1 b).2 (hb.imp id (hs b)),A,S',⟨fun _=>Cg,fun b x y=>hj.2 b x (hs b y)⟩,hl,h1,hr⟩
theorem b6q{t:TypeId}{x:AV}{hi:Option AV}(h:a0z P t x lo hi K)
 {lov hiv:Option Value} (hx:Af Z η w x xv (fun _=>False))
 (hlo:∀a,lo=some a→∃v,lov=some v∧Af Z η w a v (fun _=>False)) (hlon:lo=none→lov=none)
 (hhi:∀a,hi=some a→∃v,hiv=some v∧Af Z η w a v (fun _=>False)) (hhin:hi=none→hiv=none):POk P Z η w n (Instr.sliceAt t xv lov hiv none) K:=by
 unfold a0z at h
 split at h
 ·rename_i l
  split at h
  ·rename_i hu
   split at h
   ·rename_i p q hp hq
    obtain⟨⟨h0,h1,h2⟩,h⟩:=h
    rw[a0y hp hq] at h
    simp only[Af,Aj] at hx
    rw[hx.1]
    refine⟨.string ⟨((l.take q.toNat).drop p.toNat).toArray⟩,.str ((l.take q.toNat).drop p.toNat),fun w2 _=> ?_,⟨rfl,AI⟩,trivial,h⟩
    unfold Instr.sliceAt Instr.slice
    rw[AC (DV hu w2)]
    simp only[]
    rw[AC (DV hu w2)]
    simp only[Option.isSome_none,Bl,Br]
    have hs:(ByteArray.mk l.toArray).size=l.length:=by simp [ByteArray.size]
    rw[hs]
    rw[AC (a0A (Bu _) h0 h1 h2 (QR hp hlo hlon) (QR hq hhi hhin))]
    simp only[Cy]
    congr 2
    apply ByteArray.ext
    apply Oy
    simp [Ld]
   ·exact h.elim
  ·exact h.elim
 ·rename_i i' sz α f xs
  split at h
  ·rename_i e es he
   obtain⟨hu,inf,hinf,hsz⟩:=QQ he
   split at h
   ·rename_i hb
    have hb:=Cj hb
    subst hb
    split at h
    ·rename_i p q hp hq
     obtain⟨⟨h0,h1,h2⟩,h⟩:=h
     rw[a0y hp hq] at h
     simp only[Af,Aj] at hx
     obtain⟨_,a,n',c,ev,hn,hc,hr⟩:=hx
     subst ev
     subst hn
     refine⟨.slice (if c=p.toNat then a else a.map (·.add (p.toNat*sz))) (q.toNat-p.toNat) (c-p.toNat),_,fun w2 _=> ?_,?_,?_,h⟩
     ·unfold Instr.sliceAt Instr.slice
      rw[AC (DV hu w2)]
      simp only[]
      rw[AC (DV hu w2)]
      simp only[]
      rw[AC (a0A hc h0 h1 h2 (QR hp hlo hlon) (QR hq hhi hhin))]
      simp only[]
      rw[AC (Hy hinf w2),hsz];rfl
     ·simp only[Af,Aj]
      refine⟨(fun o=>by cases o),_,_,_,rfl,?_,by omega,.inr ⟨trivial,AI,?_⟩⟩
      ·simp;omega
      ·rcases hr with⟨ho,_⟩|⟨_,_,hr⟩
       ·cases ho
       ·rcases hr with hr|⟨b,off,arr,ty,fr,ha,hz,hbk,hrows⟩
        ·subst hr;exact .inl (by simp)
        ·by_cases hcp:c=p.toNat
         ·refine .inl ?_
          apply OA
          simp;omega
         ·rw[if_neg hcp]
          subst ha
          refine .inr ⟨b,off+p.toNat*sz,arr,ty,fr,congrArg some (Jx b off _),hz,hbk,?_⟩
          obtain⟨S1,hs1,hr1⟩:=a0C q.toNat xs _ _ hrows
          obtain⟨S2,hs2,hr2⟩:=a0B p.toNat _ _ _ hr1
          rw[Dv] at hr2
          have:S2=fun _=>False:=Fx (fun b hb=>hs1 b (hs2 b hb))
          rwa [this] at hr2
     ·simp only[Az];intro o;cases o
    ·exact h.elim
   ·exact h.elim
  ·exact h.elim
 ·exact h.elim
def OI:UInt8→List AV:=fun c=>[.int .u8 c.toNat]
theorem a7b{Z:FP}{w:World}:∀(l:Aa) (cs:List Value) (S:FP),Rows 1 (fun x cs A=>AU Z w (OI x) cs A) l cs S→
 ∃rest,cs=(l.map fun c=>Value.int .u8 c.toNat)++rest
 |[],cs,S,h=>⟨cs,rfl⟩
 |c::l,cs,S,h=>by
  obtain⟨A,B,hj,hl,h1,h2⟩:=h
  obtain⟨rest,hr⟩:=a7b l _ B h2
  simp only[OI,AU] at h1
  obtain⟨v,cs',A1,A2,e,hj1,h3,h4,h5⟩:=h1
  simp only[Aj] at h3
  refine⟨rest,?_⟩
  have:cs=cs.take 1++cs.drop 1:=(Fw 1 cs).symm
  rw[this,e,h3.1,h4,hr];rfl
theorem a7c:∀(l:Aa) (r:ByteArray),(l.map fun c=>((c.toNat:Nat):Int)).foldl (fun r n=>r.push (UInt8.ofNat n.toNat)) r=⟨r.data++l.toArray⟩
 |[],r=>by simp
 |c::l,r=>by
  simp only[En,List.foldl_cons]
  rw[a7c l]
  apply ByteArray.ext
  simp [ByteArray.push]
theorem a7d(hw:Sees w w'){own:Bool}{id:Nat}{l:Aa}(h:Aj Z w (.sl own id 1 UInt8 OI l) v S):
 ∃a n c,v= .slice a n c∧(Conv.bytesToString v).run P w'= .ok (.string ⟨l.toArray⟩) w':=by
 simp only[Aj] at h
 obtain⟨a,n,c,hv,hn,hc,h⟩:=h
 refine⟨a,n,c,hv,?_⟩
 subst hv
 have some_case:∀b off arr ty fr S1,a=some ⟨b,off,none⟩→w.heap[b]? =some (.cells arr ty fr)→Rows 1 (fun x cs A=>AU Z w (OI x) cs A) l (arr.toList.drop off) S1→
  (Conv.bytesToString (.slice a n c)).run P w'= .ok (.string ⟨l.toArray⟩) w':=by
  intro b off arr ty fr S1 ha hb hr
  obtain⟨rest,hd⟩:=a7b l _ _ hr
  subst ha
  have hl:=a0k (P:=P) (hw.blk hb) hd
  rw[Fv,←hn] at hl
  have:=run_bytesToString (P:=P) w' ⟨b,off,none⟩ n c (l.map fun c=>((c.toNat:Nat):Int)) (by rw[List.map_map];exact hl)
  rw[this,a7c]
  congr 2
  apply ByteArray.ext
  simp
 have nil_case:l=[]→(Conv.bytesToString (.slice a n c)).run P w'= .ok (.string ⟨l.toArray⟩) w':=by
  intro hl
  subst hl
  simp at hn
  subst hn
  cases a with
  |none=>rfl
  |some ad=>
   have:=run_bytesToString (P:=P) w' ad 0 c [] (by simp [loadCells,loadCellsFrom])
   rw[this];rfl
 rcases h with⟨_,h⟩|⟨_,_,h⟩
 ·rcases h with⟨_,h0,_⟩|⟨b,off,arr,ty,S1,ha,hb,hsz,hr,hj⟩
  ·exact nil_case (Hq.1 (by omega))
  ·exact some_case b off arr ty (0,0) S1 ha hb hr
 ·rcases h with h|⟨b,off,arr,ty,fr,ha,hz,hb,hr⟩
  ·exact nil_case h
  ·exact some_case b off arr ty fr S ha hb hr
end Go.Eng
end
