/- joined -/
import Derived.Test.YtglbamflbnldhaaGreatDoorQA
set_option linter.unusedSimpArgs false
set_option linter.unusedVariables false
section
namespace Go.Eng
def Aa(b:Bool)(p q:Prop):Prop:=match b with
 |true=>p
 |false=>q
def UM(P:Program)(t:TypeId)(x:AV)(f:Nat)(K:AV→Prop):Prop:=
 match x with
 | .agg cs=>match P.underlying t with
   |some (.struct fs)=>match fs[f]? with
    |some fd=>match P.underlying fd.type,P.info? fd.type with
     |some d,some i=>match Jv d with
      |true=>K (.agg ((cs.drop fd.offset).take i.size))
      |false=>match cs[fd.offset]? with
       |some a=>K a
       |none=>False
     |_,_=>False
    |none=>False
   |_=>False
 |_=>False
theorem ZM{Z:FP}{η:Nat→Value}{w:World}{azs:List AV}{cs:List Value}(h:Al Z η w azs cs (fun _=>False)){i:Nat}{a:AV}(ha:azs[i]? =some a):
 ∃v,cs[i]? =some v∧Ad Z η w a v (fun _=>False):=by
 obtain⟨v,A,B,hv,hr,hj,_⟩:=EL azs cs _ i a h ha
 have hA:=(Ih hj AP).1
 rw[Et hA] at hr
 exact⟨v,hv,hr⟩
theorem a8f{P:Program}{t:TypeId}{x:AV}{f:Nat}{K:AV→Prop}(h:UM P t x f K){Z:FP}{η:Nat→Value}{w:World}{n:Nat}{xv:Value}
 (hx:Ad Z η w x xv (fun _=>False)) (hi:Av n x):POk P Z η w n (Instr.field t xv f) K:=by
 unfold UM at h
 split at h
 ·rename_i cs
  simp only[Ad] at hx
  obtain⟨vs,e,hr⟩:=hx
  subst e
  simp only[Av] at hi
  split at h
  ·rename_i fs hu
   split at h
   ·rename_i fd hfd
    split at h
    ·rename_i d i hud hinf
     have hrun:∀v w,(part fd.type vs.toArray fd.offset).run P w= .ok v w→(Instr.field t (.agg vs.toArray) f).run P w= .ok v w:=by
      intro v w hv
      unfold Instr.field
      rw[AR (Dc hu w)]
      simp only[hfd,asAgg]
      rw[AR (Cc P _ w)]
      exact hv
     split at h
     ·rename_i hagg
      refine⟨.agg ((vs.drop fd.offset).take i.size).toArray,_,fun w _=>hrun _ w ?_,?_,?_,h⟩
      ·unfold part
       rw[AR (Jw hud w),hagg]
       simp only[if_true]
       rw[AR (Gt hinf w)]
       simp only[Cc]
       congr 2
       apply Array.ext'
       simp [List.drop_take]
      ·simp only[Ad];exact⟨_,rfl,OX _ _ _ (OW _ _ _ hr)⟩
      ·simp only[Av];exact MV _ _ (Ki _ _ hi)
     ·rename_i hagg
      split at h
      ·rename_i a ha
       obtain⟨v,hv,hrv⟩:=ZM hr ha
       refine⟨v,a,fun w _=>hrun _ w ?_,hrv,MN _ _ _ hi ha,h⟩
       unfold part
       rw[AR (Jw hud w),hagg]
       simp only[Bool.false_eq_true,if_false]
       have:vs.toArray[fd.offset]? =some v:=by simpa using hv
       rw[this];rfl
      ·exact h.elim
    ·exact h.elim
   ·exact h.elim
  ·exact h.elim
 ·exact h.elim
def UN(x:AV)(i:Nat)(K:AV→Prop):Prop:=
 match x with
 | .tup vs=>match vs[i]? with
   |some a=>K a
   |none=>False
 |_=>False
theorem a8g{P:Program}{x:AV}{i:Nat}{K:AV→Prop}(h:UN x i K){Z:FP}{η:Nat→Value}{w:World}{n:Nat}{xv:Value}
 (hx:Ad Z η w x xv (fun _=>False)) (hi:Av n x):POk P Z η w n (Instr.extract xv i) K:=by
 unfold UN at h
 split at h
 ·rename_i vs
  simp only[Ad] at hx
  obtain⟨cs,e,hr⟩:=hx
  subst e
  simp only[Av] at hi
  split at h
  ·rename_i a ha
   obtain⟨v,hv,hrv⟩:=ZM hr ha
   refine⟨v,a,fun _ _=> ?_,hrv,MN _ _ _ hi ha,h⟩
   unfold Instr.extract
   have:cs.toArray[i]? =some v:=by simpa using hv
   simp only[this];rfl
  ·exact h.elim
 ·exact h.elim
def QY(P:Program)(s d:TypeId){α:Type}(sz:Nat)(f:α→List AV)(xs:List α)(K:AV→Prop):Prop:=
 match P.underlying s,P.underlying d with
 |some (.slice e),some .string=>match P.underlying e with
  |some (.int .u8)=>∃l:List UInt8,AV.sl false 0 sz α f xs=AV.sl false 0 1 UInt8 Nb l∧K (.str l)
  |_=>False
 |_,_=>False
def UO(P:Program)(ov:Bool)(regs:List AV)(s d:TypeId)(x:AV)(K:AV→Prop):Prop:=
 match x with
 | .int _ n=>match P.underlying s,P.underlying d with
   |some (.int _),some (.int k)=>Lf ov k n K
   |_,_=>False
 | .str l=>match P.underlying s,P.underlying d with
   |some .string,some .string=>K (.str l)
   |_,_=>False
 | .sl false _ sz α f xs=>QY P s d sz f xs K
 | .al id=>match DQ id regs with
   |some (.sl true _ sz α f xs)=>QY P s d sz f xs K
   |_=>False
 |_=>False
theorem ZN{P:Program}{s d:TypeId}{α:Type}{sz:Nat}{f:α→List AV}{xs:List α}{K:AV→Prop}(h:QY P s d sz f xs K){Z:FP}{η:Nat→Value}{w:World}{n:Nat}{xv:Value}
 {own:Bool} {id:Nat} {S:FP} (hx:Ai Z w (.sl own id sz α f xs) xv S):POk P Z η w n (convert s d xv) K:=by
 unfold QY at h
 split at h
 ·rename_i e hs hd
  split at h
  ·rename_i he
   obtain⟨l,hl,hk⟩:=h
   have hx':Ai Z w (.sl own id 1 UInt8 Nb l) xv S:=by
    injection hl with _ _ h1 h2 h3 h4
    subst h1;subst h2
    have h3:=eq_of_heq h3;have h4:=eq_of_heq h4
    subst h3;subst h4
    exact hx
   obtain⟨a,m,c,rfl,_⟩:=ZL (P:=P) (Sees.refl w) hx'
   refine⟨_,.str l,fun w2 hw2=> ?_,⟨rfl,AP⟩,trivial,hk⟩
   rw[run_convert_bytes_string w2 s d e a m c hs he hd]
   obtain⟨_,_,_,_,hr⟩:=ZL (P:=P) hw2 hx'
   exact hr
  ·exact h.elim
 ·exact h.elim
theorem a8h{P:Program}{ov:Bool}{regs:List AV}{s d:TypeId}{x:AV}{K:AV→Prop}(h:UO P ov regs s d x K){Z:FP}{η:Nat→Value}{w:World}{n:Nat}{xv:Value}
 {vs:List Value} {S:FP} (hR:Al Z η w regs vs S) (hx:Ad Z η w x xv (fun _=>False)):POk P Z η w n (convert s d xv) K:=by
 unfold UO at h
 split at h
 ·rename_i k0 m
  simp only[Ad,Ai] at hx
  rw[hx.1]
  split at h
  ·rename_i k1 k hs hd
   refine⟨_,.int k (k.wrap m),fun w _=> ?_,⟨rfl,AP⟩,trivial,MW h⟩
   unfold convert
   rw[AR (Dc hs w),AR (Dc hd w)];rfl
  ·exact h.elim
 ·rename_i l
  simp only[Ad,Ai] at hx
  rw[hx.1]
  split at h
  ·rename_i hs hd
   refine⟨_,.str l,fun w _=> ?_,⟨rfl,AP⟩,trivial,h⟩
   unfold convert
   rw[AR (Dc hs w),AR (Dc hd w)];rfl
  ·exact h.elim
 ·rename_i i sz α f xs
  simp only[Ad] at hx
  exact ZN h hx.2
 ·rename_i id
  split at h
  ·rename_i j sz α f xs ho
   obtain⟨A,hA,hio,hr⟩:=EM regs vs S _ hR ho
   simp only[Ad] at hx hr
   rw[hx.1]
   exact ZN h hr.2
  ·exact h.elim
 ·exact h.elim
def QZ(P:Program)(regs:List AV)(t:Option TypeId)(x:AV)(K:AV→Prop):Prop:=
 match t with
 |some t=>match P.underlying t with
  |some .string=>match x with
   | .str l=>K (.int .i64 l.length)
   |_=>False
  |some (.slice _)=>match x with
   | .sl _ _ _ _ _ xs=>K (.int .i64 xs.length)
   | .nil=>K (.int .i64 0)
   | .al id=>match DQ id regs with
     |some (.sl true _ _ _ _ xs)=>K (.int .i64 xs.length)
     |_=>False
   |_=>False
  |_=>False
 |none=>False
def Lh:TypeDesc→Value→Option Value
 | .string,.string s=>some (goInt s.size)
 | .slice _,.slice _ m _=>some (goInt m)
 |_,_=>none
theorem Pd{P:Program}{ts:Array TypeId}{ty t:TypeId}{d:TypeDesc}{x v:Value}{w:World}(ht:ts[0]? =some t)(hu:P.underlying t=some d)
 (hv:Lh d x=some v):(Builtin.len_ ts ty #[x]).run P w= .ok v w:=by
 unfold Builtin.len_
 simp only[ht]
 have:(#[x]:Array Value)[0]? =some x:=rfl
 simp only[this]
 rw[AR (Dc hu w)]
 unfold Lh at hv
 split at hv<;>simp_all [Cc]
theorem UP{P:Program}{regs:List AV}{ts:Array TypeId}{ty:TypeId}{x:AV}{K:AV→Prop}(h:QZ P regs ts[0]? x K){Z:FP}{η:Nat→Value}{w:World}{n:Nat}
 {vs:List Value} {S:FP} {xv:Value} (hR:Al Z η w regs vs S) (hx:Ad Z η w x xv (fun _=>False)):
 ∃v r,(∀w',(Builtin.len_ ts ty #[xv]).run P w'= .ok v w')∧Ad Z η w r v (fun _=>False)∧Av n r∧K r:=by
 unfold QZ at h
 split at h
 ·rename_i t ht
  split at h
  ·rename_i hu
   split at h
   ·rename_i l
    simp only[Ad,Ai] at hx
    refine⟨.int .i64 l.length,.int .i64 l.length,fun _=>Pd ht hu ?_,⟨rfl,AP⟩,trivial,h⟩
    rw[hx.1];simp [Lh,goInt,ByteArray.size]
   ·exact h.elim
  ·rename_i e hu
   split at h
   ·rename_i own id sz α f xs
    simp only[Ad,Ai] at hx
    obtain⟨_,a,n',c,ev,hn,_⟩:=hx
    refine⟨.int .i64 xs.length,.int .i64 xs.length,fun _=>Pd ht hu ?_,⟨rfl,AP⟩,trivial,h⟩
    rw[ev,hn];simp [Lh,goInt]
   ·simp only[Ad,Ai] at hx
    refine⟨.int .i64 0,.int .i64 0,fun _=>Pd ht hu ?_,⟨rfl,AP⟩,trivial,h⟩
    rw[hx.1];simp [Lh,goInt]
   ·rename_i id
    split at h
    ·rename_i i' sz α f xs ho
     obtain⟨A,hA,hio,hr⟩:=EM regs vs S _ hR ho
     simp only[Ad] at hx
     simp only[Ad,Ai] at hr
     obtain⟨_,a,n',c,ev,hn,_⟩:=hr
     refine⟨.int .i64 xs.length,.int .i64 xs.length,fun _=>Pd ht hu ?_,⟨rfl,AP⟩,trivial,h⟩
     rw[hx.1,ev,hn];simp [Lh,goInt]
    ·exact h.elim
   ·exact h.elim
  ·exact h.elim
 ·exact h.elim
theorem a8i{P:Program}{regs:List AV}{ts:Array TypeId}{ty:TypeId}{x:AV}{K:AV→Prop}(h:QZ P regs ts[0]? x K){Z:FP}{η:Nat→Value}{w:World}{n:Nat}
 {vs:List Value} {S:FP} {xv:Value} (hR:Al Z η w regs vs S) (hx:Ad Z η w x xv (fun _=>False)):POk P Z η w n (Builtin.len_ ts ty #[xv]) K:=by
 obtain⟨v,r,h1,h2,h3,h4⟩:=UP (n:=n) h hR hx
 exact⟨v,r,fun w' _=>h1 w',h2,h3,h4⟩
def UQ(x y:AV)(K:AV→Prop):Prop:=
 match x,y with
 | .int k a,.int _ b=>K (.int k (min a b))
 |_,_=>False
def UR(x y:AV)(K:AV→Prop):Prop:=
 match x,y with
 | .int k a,.int _ b=>K (.int k (max a b))
 |_,_=>False
theorem a8j{P:Program}{ts:Array TypeId}{ty:TypeId}{x y:AV}{K:AV→Prop}(h:UQ x y K){Z:FP}{η:Nat→Value}{w:World}{n:Nat}{xv yv:Value}
 (hx:Ad Z η w x xv (fun _=>False)) (hy:Ad Z η w y yv (fun _=>False)):POk P Z η w n (Builtin.min_ ts ty #[xv,yv]) K:=by
 unfold UQ at h
 split at h
 ·rename_i k a k' b
  simp only[Ad,Ai] at hx hy
  rw[hx.1,hy.1]
  refine⟨.int k (min a b),.int k (min a b),fun _ _=> ?_,⟨rfl,AP⟩,trivial,h⟩
  have:(if b<a then b else a)=min a b:=by rw[Int.min_def];split<;>split<;>omega
  simp [Builtin.min_,Builtin.min2,this]
 ·exact h.elim
theorem a8k{P:Program}{ts:Array TypeId}{ty:TypeId}{x y:AV}{K:AV→Prop}(h:UR x y K){Z:FP}{η:Nat→Value}{w:World}{n:Nat}{xv yv:Value}
 (hx:Ad Z η w x xv (fun _=>False)) (hy:Ad Z η w y yv (fun _=>False)):POk P Z η w n (Builtin.max_ ts ty #[xv,yv]) K:=by
 unfold UR at h
 split at h
 ·rename_i k a k' b
  simp only[Ad,Ai] at hx hy
  rw[hx.1,hy.1]
  refine⟨.int k (max a b),.int k (max a b),fun _ _=> ?_,⟨rfl,AP⟩,trivial,h⟩
  have:(if b>a then b else a)=max a b:=by rw[Int.max_def];split<;>split<;>omega
  simp [Builtin.max_,Builtin.max2,this]
 ·exact h.elim
def US(regs:List AV)(x:AV)(K:AV→Prop):Prop:=
 match x with
 | .al id=>match DQ id regs with
   |some (.box _ _)=>K (.al id)
   |_=>False
 | .po id k sz o=>K (.po id k sz o)
 | .pf c=>K (.pf c)
 | .clo (.func f) cs=>K (.clo (.func f) cs)
 |_=>False
def DB(P:Program)(ov:Bool)(regs:List AV)(o:Op)(K:AV→Prop):Prop:=
 match o with
 | .move x=>K (Bi regs x)
 | .assign x=>K (Bi regs x)
 | .pick c x y=>match Bi regs c with
   | .bool b=>Aa b (K (Bi regs x)) (K (Bi regs y))
   |_=>False
 | .binOp op t x y _=>Uy P ov op t (Bi regs x) (Bi regs y) K
 | .unOp op _ x=>Uz op (Bi regs x) ov K
 | .load t p=>OZ P regs t (Bi regs p) K
 | .fieldAddr s x f=>QW P regs s f (Bi regs x) K
 | .indexAddr t x i=>QX P regs t (Bi regs x) (Bi regs i) K
 | .index t x i=>UG P t (Bi regs x) (Bi regs i) K
 | .slice t x lo hi none=>UI P t (Bi regs x) (lo.map (Bi regs)) (hi.map (Bi regs)) K
 | .field t x f=>UM P t (Bi regs x) f K
 | .extract x i=>UN (Bi regs x) i K
 | .nilCheck x=>US regs (Bi regs x) K
 | .convert s d x=>UO P ov regs s d (Bi regs x) K
 | .makeFunc (.func fn) first captured=>match first.toList with
   |[]=>K (.clo (.func fn) (captured.toList.map (Bi regs)))
   |[x]=>match captured.toList with
    |[]=>K (.clo (.yield fn) [Bi regs x])
    |_=>False
   |_=>False
 | .call ⟨.builtin .len,args,ts⟩=>match args.toList with
   |[x]=>QZ P regs ts[0]? (Bi regs x) K
   |_=>False
 | .call ⟨.builtin .min,args,ts⟩=>match args.toList with
   |[x,y]=>UQ (Bi regs x) (Bi regs y) K
   |_=>False
 | .call ⟨.builtin .max,args,ts⟩=>match args.toList with
   |[x,y]=>UR (Bi regs x) (Bi regs y) K
   |_=>False
 |_=>False
theorem HD{α:Type}{a:Array α}{l:List α}(h:a.toList=l):a=l.toArray:=by rw[←h]
theorem Pe{Z:FP}{η:Nat→Value}{w:World}{regs:List AV}{a:Act}{S:FP}(hR:Al Z η w regs a.tmps.toList S):∀l:List Operand,
 Al Z η w (l.map (Bi regs)) (l.map a.eval) (fun _=>False)
 |[]=>by simp [Al,emp]
 |x::l=>by
  simp only[List.map,Al]
  exact⟨_,_,_,_,rfl,BK _,Eu hR x,Pe hR l⟩
theorem Pf{n:Nat}{regs:List AV}(h:AX n regs):∀l:List Operand,AX n (l.map (Bi regs))
 |[]=>trivial
 |x::l=>⟨GT h x,Pf h l⟩
theorem UT{P:Program}{ov:Bool}{regs:List AV}{o:Oper}{K:AV→Prop}(h:DB P ov regs o.op K){Z:FP}{η:Nat→Value}{w:World}{n:Nat}{a:Act}{S:FP}
 (hR:Al Z η w regs a.tmps.toList S) (hI:AX n regs):
 ∃v r,(∀w',Sees w w'→(execOp a.eval o).run P w'= .ok (.value v) w')∧Ad Z η w r v (fun _=>False)∧Av n r∧K r:=by
 have lift:∀ {s:Sem Value},POk P Z η w n s K→(execOp a.eval o=do pure (.value (←s)))→
  ∃v r,(∀w',Sees w w'→(execOp a.eval o).run P w'= .ok (.value v) w')∧Ad Z η w r v (fun _=>False)∧Av n r∧K r:=by
  intro s hs he
  obtain⟨v,r,h1,h2,h3,h4⟩:=hs
  exact⟨v,r,fun w' hw'=>by rw[he];exact FW (h1 w' hw'),h2,h3,h4⟩
 have hop:=Eu hR
 have hid:=GT hI
 unfold DB at h
 split at h
 all_goals rename_i heq
 ·exact⟨_,_,fun _ _=>by simp [execOp,heq],hop _,hid _,h⟩
 ·exact⟨_,_,fun _ _=>by simp [execOp,heq],hop _,hid _,h⟩
 ·rename_i c x y
  split at h
  ·rename_i b hb
   have hc:=hop c
   rw[hb] at hc
   simp only[Ad,Ai] at hc
   unfold Aa at h
   cases b
   ·exact⟨a.eval y,_,fun _ _=>by simp [execOp,heq,hc.1,asBool,Fw],hop _,hid _,h⟩
   ·exact⟨a.eval x,_,fun _ _=>by simp [execOp,heq,hc.1,asBool,Fw],hop _,hid _,h⟩
  ·exact h.elim
 ·exact lift (ZF h (hop _) (hop _)) (by simp [execOp,heq];rfl)
 ·exact lift (a7Y h (hop _)) (by simp [execOp,heq])
 ·exact lift (ZG h hR hI (hop _)) (by simp [execOp,heq])
 ·exact lift (a8a h hR (hop _) (hid _)) (by simp [execOp,heq])
 ·exact lift (a8c h hR hI (hop _) (hid _) (hop _)) (by simp [execOp,heq])
 ·exact lift (a8d h (hop _) (hop _)) (by simp [execOp,heq])
 ·rename_i t x lo hi
  refine lift (a8e (lov:=lo.map a.eval) (hiv:=hi.map a.eval) h (hop _) ?_ ?_ ?_ ?_) (by simp [execOp,heq])
  ·intro b hb;cases lo<;>simp at hb;subst hb;exact⟨_,rfl,hop _⟩
  ·intro hb;cases lo<;>simp at hb;rfl
  ·intro b hb;cases hi<;>simp at hb;subst hb;exact⟨_,rfl,hop _⟩
  ·intro hb;cases hi<;>simp at hb;rfl
 ·exact lift (a8f h (hop _) (hid _)) (by simp [execOp,heq])
 ·exact lift (a8g h (hop _) (hid _)) (by simp [execOp,heq])
 ·rename_i x
  have hx:=hop x
  have hxi:=hid x
  unfold US at h
  split at h
  ·rename_i id hq
   split at h
   ·rename_i i c ho
    obtain⟨A,hA,hi',hr⟩:=EM regs _ S _ hR ho
    rw[hq] at hx hxi
    have hx':=hx
    simp only[Ad] at hx' hr
    obtain⟨_,b,arr,ty,S1,e0,_⟩:=hr
    exact⟨a.eval x,_,fun _ _=>by simp [execOp,heq,hx'.1,e0],hx,hxi,h⟩
   ·exact h.elim
  ·rename_i id k sz of' hq
   rw[hq] at hx hxi
   have hx':=hx
   simp only[Ad] at hx'
   exact⟨a.eval x,_,fun _ _=>by simp [execOp,heq,hx'.1],hx,hxi,h⟩
  ·rename_i c hq
   rw[hq] at hx hxi
   have hx':=hx
   simp only[Ad,Ai] at hx'
   obtain⟨_,b,off,arr,ty,fr,cs,rest,S1,e,_⟩:=hx'
   exact⟨a.eval x,_,fun _ _=>by simp [execOp,heq,e,Gq],hx,hxi,h⟩
  ·rename_i f cs hq
   rw[hq] at hx hxi
   have hx':=hx
   simp only[Ad] at hx'
   obtain⟨cs,e,_⟩:=hx'
   exact⟨a.eval x,_,fun _ _=>by simp [execOp,heq,e,Gq],hx,hxi,h⟩
  ·exact h.elim
 ·exact lift (a8h h hR (hop _)) (by simp [execOp,heq])
 ·rename_i fn first captured
  split at h
  ·rename_i hf
   have hf:=HD hf
   refine⟨.func (.func fn) #[] (captured.map a.eval),.clo (.func fn) (captured.toList.map (Bi regs)),fun _ _=> ?_,?_,?_,h⟩
   ·simp [execOp,heq,Instr.makeFunc,hf,Fw]
   ·simp only[Ad]
    exact⟨captured.toList.map a.eval,by simp only[Gq];congr 1;apply Array.ext';simp,Pe hR _⟩
   ·simp only[Av];exact Pf hI _
  ·rename_i x hf
   have hf:=HD hf
   split at h
   ·rename_i hc
    have hc:=HD hc
    refine⟨.func (.func fn) #[a.eval x] #[],.clo (.yield fn) [Bi regs x],fun _ _=> ?_,?_,?_,h⟩
    ·simp [execOp,heq,Instr.makeFunc,hf,hc,Fw]
    ·simp only[Ad]
     exact⟨[a.eval x],rfl,by have:=Pe (a:=a) hR [x];simpa using this⟩
    ·simp only[Av];have:=Pf hI [x];simpa using this
   ·exact h.elim
  ·exact h.elim
 ·rename_i args ts
  split at h
  ·rename_i x hf
   have hf:=HD hf
   refine lift (a8i (ty:=o.type) h hR (hop _)) (by simp [execOp,heq,hf,resolve,invoke,builtin])
  ·exact h.elim
 ·rename_i args ts
  split at h
  ·rename_i x y hf
   have hf:=HD hf
   refine lift (a8j (ts:=ts) (ty:=o.type) h (hop _) (hop _)) (by simp [execOp,heq,hf,resolve,invoke,builtin])
  ·exact h.elim
 ·rename_i args ts
  split at h
  ·rename_i x y hf
   have hf:=HD hf
   refine lift (a8k (ts:=ts) (ty:=o.type) h (hop _) (hop _)) (by simp [execOp,heq,hf,resolve,invoke,builtin])
  ·exact h.elim
 ·exact h.elim
def Nc(regs:List AV):Op→Bool
 | .move _=>true
 | .assign _=>true
 | .fieldAddr _ _ _=>true
 | .indexAddr _ _ _=>true
 | .nilCheck _=>true
 | .load _ p=>match Bi regs p with
   | .pf _=>true
   |_=>false
 | .binOp _ _ x y _=>match Bi regs x,Bi regs y with
   | .int _ _,.int _ _=>true
   | .str _,.str _=>true
   |_,_=>false
 | .call ⟨.builtin .len,_,_⟩=>true
 |_=>false
theorem ZO{regs:List AV}{c:Call}(h:Nc regs (.call c)=true):∃args ts,c=⟨.builtin .len,args,ts⟩:=by
 unfold Nc at h
 split at h<;>first
  |(rename_i heq;cases heq;exact⟨_,_,rfl⟩)
  |(rename_i heq;cases heq;done)
  |(exact absurd h (by simp))
theorem a8l{P:Program}{ov:Bool}{regs:List AV}{o:Oper}{K:AV→Prop}(he:Nc regs o.op=true)(h:DB P ov regs o.op K){Z:FP}{η:Nat→Value}{w:World}{n:Nat}{a:Act}{S:FP}
 (hR:Al Z η w regs a.tmps.toList S) (hI:AX n regs):
 ∃v r,(∀w',Lg Z w w'→(execOp a.eval o).run P w'= .ok (.value v) w')∧Ad Z η w r v (fun _=>False)∧Av n r∧K r:=by
 have hop:=Eu hR
 have hid:=GT hI
 have he0:=he
 cases heq:o.op<;>simp only[heq,Nc,Bool.false_eq_true] at he
 case binOp op t x y rt=>
  rw[heq] at h;simp only[DB] at h
  have key:∀(u v:AV),Bi regs x=u→Bi regs y=v→Av n u→Av n v→(∀w0,Ad Z η w0 u (a.eval x) (fun _=>False))→(∀w0,Ad Z η w0 v (a.eval y) (fun _=>False))→
   ∃v r,(∀w',Lg Z w w'→(execOp a.eval o).run P w'= .ok (.value v) w')∧Ad Z η w r v (fun _=>False)∧Av n r∧K r:=by
   intro u v hu hv _ _ h1 h2
   rw[hu,hv] at h
   obtain⟨q,r,g1,g2,g3,g4⟩:=ZF (w:= {w with heap:= #[]}) (n:=n) (xo:=x) (yo:=y) h (h1 _) (h2 _)
   refine⟨q,r,fun w' _=> ?_,?_,g3,g4⟩
   ·have he:execOp a.eval o=(do eqGuard op t x y (a.eval x) (a.eval y);pure (.value (←binOp op t (a.eval x) (a.eval y)))):=by simp [execOp,heq]
    have g:=g1 w' ⟨Nat.zero_le _,fun b hb=>by simp at hb⟩
    have e2:(do eqGuard op t x y (a.eval x) (a.eval y);pure (Next.value (←binOp op t (a.eval x) (a.eval y))):Sem Next)=(do pure (Next.value (←(do eqGuard op t x y (a.eval x) (a.eval y);binOp op t (a.eval x) (a.eval y)))):Sem Next):=by simp
    rw[he,e2];exact FW g
   ·exact Zs (w:= {w with heap:= #[]}) (n:=n) (fun b _ hb=>by simp at hb) (fun _ _=>rfl) r q _ g3 (fun b hb=>hb.elim) g2
  split at he
  ·rename_i k1 n1 k2 n2 h1 h2
   have a1:=hop x;have a2:=hop y
   rw[h1] at a1;rw[h2] at a2
   exact key _ _ h1 h2 trivial trivial (fun _=>a1) (fun _=>a2)
  ·rename_i k1 k2 h1 h2
   have a1:=hop x;have a2:=hop y
   rw[h1] at a1;rw[h2] at a2
   exact key _ _ h1 h2 trivial trivial (fun _=>a1) (fun _=>a2)
  ·cases he
 case call c=>
  rw[heq] at he0
  obtain⟨args,ts,rfl⟩:=ZO he0
  rw[heq] at h;simp only[DB] at h
  split at h
  ·rename_i x hf
   have hf:=HD hf
   obtain⟨v,r,h1,h2,h3,h4⟩:=UP (ty:=o.type) (w:=w) (n:=n) h hR (hop x)
   refine⟨v,r,fun w' _=> ?_,h2,h3,h4⟩
   have he:execOp a.eval o=(do pure (.value (←Builtin.len_ ts o.type #[a.eval x]))):=by simp [execOp,heq,hf,resolve,invoke,builtin]
   rw[he];exact FW (h1 w')
  ·exact h.elim
 case load t p=>
  rw[heq] at h;simp only[DB] at h
  split at he
  ·rename_i c hc
   unfold OZ at h
   rw[hc] at h
   simp only at h
   have hx:=hop p
   rw[hc] at hx
   obtain⟨v,r,h1,h2,h3,h4⟩:=a7Z (n:=n) h hx
   refine⟨v,r,fun w' hw'=> ?_,h2,h3,h4⟩
   have he:execOp a.eval o=(do pure (.value (←Instr.loadAt t (a.eval p)))):=by simp [execOp,heq]
   rw[he];exact FW (h1 w' hw')
  ·cases he
 case indexAddr t x i=>
  rw[heq] at h;simp only[DB] at h
  obtain⟨v,r,h1,h2,h3,h4⟩:=UF (w:=w) h hR hI (hop _) (hid _) (hop _)
  refine⟨v,r,fun w' _=> ?_,h2,h3,h4⟩
  have he:execOp a.eval o=(do pure (.value (←Instr.indexAt t (a.eval x) (a.eval i)))):=by simp [execOp,heq]
  rw[he];exact FW (h1 w')
 case move x=>
  rw[heq] at h;simp only[DB] at h
  exact⟨_,_,fun _ _=>by simp [execOp,heq],hop _,hid _,h⟩
 case assign x=>
  rw[heq] at h;simp only[DB] at h
  exact⟨_,_,fun _ _=>by simp [execOp,heq],hop _,hid _,h⟩
 case fieldAddr s x f=>
  rw[heq] at h;simp only[DB] at h
  obtain⟨v,r,h1,h2,h3,h4⟩:=UC (w:=w) h hR (hop _) (hid _)
  refine⟨v,r,fun w' _=> ?_,h2,h3,h4⟩
  have he:execOp a.eval o=(do pure (.value (←Instr.fieldAt s (a.eval x) f))):=by simp [execOp,heq]
  rw[he];exact FW (h1 w')
 case nilCheck x=>
  rw[heq] at h;simp only[DB] at h
  have hx:=hop x
  have hxi:=hid x
  unfold US at h
  split at h
  ·rename_i id hq
   split at h
   ·rename_i i c ho
    obtain⟨A,hA,hi',hr⟩:=EM regs _ S _ hR ho
    rw[hq] at hx hxi
    have hx':=hx
    simp only[Ad] at hx' hr
    obtain⟨_,b,arr,ty,S1,e0,_⟩:=hr
    exact⟨a.eval x,_,fun _ _=>by simp [execOp,heq,hx'.1,e0],hx,hxi,h⟩
   ·exact h.elim
  ·rename_i id k sz of' hq
   rw[hq] at hx hxi
   have hx':=hx
   simp only[Ad] at hx'
   exact⟨a.eval x,_,fun _ _=>by simp [execOp,heq,hx'.1],hx,hxi,h⟩
  ·rename_i c hq
   rw[hq] at hx hxi
   have hx':=hx
   simp only[Ad,Ai] at hx'
   obtain⟨_,b,off,arr,ty,fr,cs,rest,S1,e,_⟩:=hx'
   exact⟨a.eval x,_,fun _ _=>by simp [execOp,heq,e,Gq],hx,hxi,h⟩
  ·rename_i f cs hq
   rw[hq] at hx hxi
   have hx':=hx
   simp only[Ad] at hx'
   obtain⟨cs,e,_⟩:=hx'
   exact⟨a.eval x,_,fun _ _=>by simp [execOp,heq,e,Gq],hx,hxi,h⟩
  ·exact h.elim
def Ra:Op→Bool
 | .move _=>true
 | .call ⟨.builtin .len,_,_⟩=>true
 |_=>false
theorem a8m{P:Program}{ov:Bool}{regs:List AV}{o:Oper}{K:AV→Prop}(he:Ra o.op=true)(h:DB P ov regs o.op K){Z:FP}{η:Nat→Value}{w:World}{n:Nat}{a:Act}{S:FP}
 (hR:Al Z η w regs a.tmps.toList S) (hI:AX n regs):
 ∃v r,(∀w',(execOp a.eval o).run P w'= .ok (.value v) w')∧Ad Z η w r v (fun _=>False)∧Av n r∧K r:=by
 have hop:=Eu hR
 have hid:=GT hI
 unfold Ra at he
 split at he
 ·rename_i x heq
  rw[heq] at h;simp only[DB] at h
  exact⟨_,_,fun _=>by simp [execOp,heq],hop _,hid _,h⟩
 ·rename_i args ts heq
  rw[heq] at h;simp only[DB] at h
  split at h
  ·rename_i x hf
   have hf:=HD hf
   obtain⟨v,r,h1,h2,h3,h4⟩:=UP (ty:=o.type) (w:=w) (n:=n) h hR (hop x)
   refine⟨v,r,fun w'=> ?_,h2,h3,h4⟩
   have he:execOp a.eval o=(do pure (.value (←Builtin.len_ ts o.type #[a.eval x]))):=by simp [execOp,heq,hf,resolve,invoke,builtin]
   rw[he];exact FW (h1 w')
  ·exact h.elim
 ·cases he
mutual
def Cj(id:Nat):AV→Option (AV×AV)
 | .sl true i sz α f xs=>match Nat.beq i id with|true=>some (.sl true i sz α f xs,.hole id)|false=>none
 | .box i c=>match Nat.beq i id with
   |true=>some (.box i c,.hole id)
   |false=>match DJ id c with|some (o,c')=>some (o,.box i c')|none=>none
 | .bv x c=>match DJ id c with|some (o,c')=>some (o,.bv x c')|none=>none
 | .agg fs=>match DJ id fs with|some (o,c')=>some (o,.agg c')|none=>none
 | .tup fs=>match DJ id fs with|some (o,c')=>some (o,.tup c')|none=>none
 | .clo fn fs=>match DJ id fs with|some (o,c')=>some (o,.clo fn c')|none=>none
 |_=>none
def DJ(id:Nat):List AV→Option (AV×List AV)
 |[]=>none
 |a::azs=>match Cj id a with
  |some (o,a')=>some (o,a'::azs)
  |none=>match DJ id azs with|some (o,as')=>some (o,a::as')|none=>none
end
mutual
def Cp(id:Nat)(o:AV):AV→Option AV
 | .hole i=>match Nat.beq i id with|true=>some o|false=>none
 | .box i c=>match Ev id o c with|some c'=>some (.box i c')|none=>none
 | .bv x c=>match Ev id o c with|some c'=>some (.bv x c')|none=>none
 | .agg fs=>match Ev id o fs with|some c'=>some (.agg c')|none=>none
 | .tup fs=>match Ev id o fs with|some c'=>some (.tup c')|none=>none
 | .clo fn fs=>match Ev id o fs with|some c'=>some (.clo fn c')|none=>none
 |_=>none
def Ev(id:Nat)(o:AV):List AV→Option (List AV)
 |[]=>none
 |a::azs=>match Cp id o a with
  |some a'=>some (a'::azs)
  |none=>match Ev id o azs with|some as'=>some (a::as')|none=>none
end
theorem ZP{S A B C D:FP}(h:Bl S A B)(h2:Bl A C D):∃E,Bl S C E∧Bl E D B:=OO h h2
theorem Ij{S A B C D:FP}(h:Bl S A B)(h2:Bl B C D):∃E,Bl S C E∧Bl E A D:=by
 obtain⟨E,h3,h4⟩:=Kg h (Zp h2)
 obtain⟨E',h5,h6⟩:=Kg h h2
 refine⟨fun b=>A b∨D b,⟨fun b=> ?_,fun b x y=> ?_⟩,⟨fun _=>Iff.rfl,fun b x y=>h.2 b x ((h2.1 b).2 (.inr y))⟩⟩
 ·rw[h.1 b,h2.1 b];exact⟨fun h=>h.elim (fun h=> .inr (.inl h)) (fun h=>h.elim .inl (fun h=> .inr (.inr h))),fun h=>h.elim (fun h=> .inr (.inl h)) (fun h=>h.elim .inl (fun h=> .inr (.inr h)))⟩
 ·exact y.elim (fun y=>h.2 b y ((h2.1 b).2 (.inl x))) (fun y=>h2.2 b x y)
theorem ZQ{Z:FP}{η:Nat→Value}{w:World}{id:Nat}{o:AV}{v:Value}{S:FP}(h:Ad Z η w o v S)(ho:Kk id o):CI v:=by
 cases o<;>simp only[Kk] at ho
 case box=>simp only[Ad] at h;obtain⟨_,b,arr,ty,S1,e,_⟩:=h;rw[e];trivial
 case sl own i sz α f xs=>simp only[Ad,Ai] at h;obtain⟨_,a,n,c,e,_⟩:=h;rw[e];trivial
mutual
theorem a8n{Z:FP}{η:Nat→Value}{w:World}{id:Nat}:∀(a:AV) (v:Value) (S:FP) (o a':AV),Ad Z η w a v S→Cj id a=some (o,a')→
 ∃A B,Bl S A B∧Kk id o∧Ad Z η w o (η id) A∧Ad Z η w a' v B
 | .sl true i sz α f xs,v,S,o,a',h,hf=>by
   simp only[Cj] at hf
   split at hf
   ·rename_i hb;simp only[Option.some.injEq,Prod.mk.injEq] at hf;obtain⟨rfl,rfl⟩:=hf
    have:=Nat.eq_of_beq_eq_true hb;subst this
    have h':=h
    simp only[Ad] at h'
    have hc:=ZQ h (id:=i) rfl
    refine⟨S,fun _=>False,GR S,rfl,?_,?_⟩
    ·rw[←h'.1 trivial];exact h
    ·simp only[Ad];exact⟨h'.1 trivial,hc,AP⟩
   ·simp at hf
 | .box i c,v,S,o,a',h,hf=>by
   simp only[Cj] at hf
   split at hf
   ·rename_i hb;simp only[Option.some.injEq,Prod.mk.injEq] at hf;obtain⟨rfl,rfl⟩:=hf
    have:=Nat.eq_of_beq_eq_true hb;subst this
    have h':=h
    simp only[Ad] at h'
    have hc:=ZQ h (id:=i) rfl
    refine⟨S,fun _=>False,GR S,rfl,?_,?_⟩
    ·rw[←h'.1];exact h
    ·simp only[Ad];exact⟨h'.1,hc,AP⟩
   ·split at hf
    ·rename_i o' c' ht
     simp only[Option.some.injEq,Prod.mk.injEq] at hf;obtain⟨rfl,rfl⟩:=hf
     simp only[Ad] at h
     obtain⟨e0,b,arr,ty,S1,e,hb,hr,hj⟩:=h
     obtain⟨A,B,hj2,h1,h2,h3⟩:=EN c _ S1 _ _ hr ht
     obtain⟨E,h5,h6⟩:=Ij hj hj2
     refine⟨A,E,h5,h1,h2,?_⟩
     simp only[Ad]
     exact⟨e0,b,arr,ty,B,e,hb,h3,h6⟩
    ·cases hf
 | .bv x c,v,S,o,a',h,hf=>by
   simp only[Cj] at hf
   split at hf
   ·rename_i o' c' ht
    simp only[Option.some.injEq,Prod.mk.injEq] at hf;obtain⟨rfl,rfl⟩:=hf
    simp only[Ad] at h
    obtain⟨e0,b,arr,ty,S1,e,hb,hr,hj⟩:=h
    obtain⟨A,B,hj2,h1,h2,h3⟩:=EN c _ S1 _ _ hr ht
    obtain⟨E,h5,h6⟩:=Ij hj hj2
    refine⟨A,E,h5,h1,h2,?_⟩
    simp only[Ad]
    exact⟨e0,b,arr,ty,B,e,hb,h3,h6⟩
   ·cases hf
 | .hv _,v,S,o,a',h,hf=>by simp [Cj] at hf
 | .agg fs,v,S,o,a',h,hf=>by
   simp only[Cj] at hf
   split at hf
   ·rename_i o' c' ht
    simp only[Option.some.injEq,Prod.mk.injEq] at hf;obtain⟨rfl,rfl⟩:=hf
    simp only[Ad] at h
    obtain⟨cs,e,hr⟩:=h
    obtain⟨A,B,hj2,h1,h2,h3⟩:=EN fs _ S _ _ hr ht
    refine⟨A,B,hj2,h1,h2,?_⟩
    simp only[Ad];exact⟨cs,e,h3⟩
   ·cases hf
 | .tup fs,v,S,o,a',h,hf=>by
   simp only[Cj] at hf
   split at hf
   ·rename_i o' c' ht
    simp only[Option.some.injEq,Prod.mk.injEq] at hf;obtain⟨rfl,rfl⟩:=hf
    simp only[Ad] at h
    obtain⟨cs,e,hr⟩:=h
    obtain⟨A,B,hj2,h1,h2,h3⟩:=EN fs _ S _ _ hr ht
    refine⟨A,B,hj2,h1,h2,?_⟩
    simp only[Ad];exact⟨cs,e,h3⟩
   ·cases hf
 | .clo fn fs,v,S,o,a',h,hf=>by
   simp only[Cj] at hf
   split at hf
   ·rename_i o' c' ht
    simp only[Option.some.injEq,Prod.mk.injEq] at hf;obtain⟨rfl,rfl⟩:=hf
    simp only[Ad] at h
    obtain⟨cs,e,hr⟩:=h
    obtain⟨A,B,hj2,h1,h2,h3⟩:=EN fs _ S _ _ hr ht
    refine⟨A,B,hj2,h1,h2,?_⟩
    simp only[Ad];exact⟨cs,e,h3⟩
   ·cases hf
 | .sl false i sz α f xs,v,S,o,a',h,hf=>by simp [Cj] at hf
 | .int _ _,v,S,o,a',h,hf=>by simp [Cj] at hf
 | .bool _,v,S,o,a',h,hf=>by simp [Cj] at hf
 | .str _,v,S,o,a',h,hf=>by simp [Cj] at hf
 | .val _,v,S,o,a',h,hf=>by simp [Cj] at hf
 | .any,v,S,o,a',h,hf=>by simp [Cj] at hf
 | .top,v,S,o,a',h,hf=>by simp [Cj] at hf
 | .nil,v,S,o,a',h,hf=>by simp [Cj] at hf
 | .hole _,v,S,o,a',h,hf=>by simp [Cj] at hf
 | .al _,v,S,o,a',h,hf=>by simp [Cj] at hf
 | .po _ _ _ _,v,S,o,a',h,hf=>by simp [Cj] at hf
 | .pf _,v,S,o,a',h,hf=>by simp [Cj] at hf
theorem EN{Z:FP}{η:Nat→Value}{w:World}{id:Nat}:∀(azs:List AV) (cs:List Value) (S:FP) (o:AV) (as':List AV),Al Z η w azs cs S→DJ id azs=some (o,as')→
 ∃A B,Bl S A B∧Kk id o∧Ad Z η w o (η id) A∧Al Z η w as' cs B
 |[],cs,S,o,as',h,hf=>by simp [DJ] at hf
 |a::azs,cs,S,o,as',h,hf=>by
  simp only[Al] at h
  obtain⟨v,cs',A,B,e,hj,h1,h2⟩:=h
  simp only[DJ] at hf
  split at hf
  ·rename_i o' a' ht
   simp only[Option.some.injEq,Prod.mk.injEq] at hf;obtain⟨rfl,rfl⟩:=hf
   obtain⟨A1,B1,hj2,x,y,z⟩:=a8n a v A _ _ h1 ht
   obtain⟨E,h5,h6⟩:=ZP hj hj2
   refine⟨A1,E,h5,x,y,?_⟩
   simp only[Al];exact⟨v,cs',B1,B,e,h6,z,h2⟩
  ·split at hf
   ·rename_i o' c' ht
    simp only[Option.some.injEq,Prod.mk.injEq] at hf;obtain⟨rfl,rfl⟩:=hf
    obtain⟨A1,B1,hj2,x,y,z⟩:=EN azs cs' B _ _ h2 ht
    obtain⟨E,h5,h6⟩:=Ij hj hj2
    refine⟨A1,E,h5,x,y,?_⟩
    simp only[Al];exact⟨v,cs',A,B1,e,h6,h1,z⟩
   ·cases hf
end
mutual
theorem a8o{n id:Nat}:∀(a o a':AV),Av n a→Cj id a=some (o,a')→id<n∧Av n o∧Av n a'
 | .sl true i sz α f xs,o,a',h,hf=>by
   simp only[Cj] at hf
   split at hf
   ·rename_i hb;simp only[Option.some.injEq,Prod.mk.injEq] at hf;obtain⟨rfl,rfl⟩:=hf
    have:=Nat.eq_of_beq_eq_true hb;subst this
    have h':=h;simp only[Av] at h'
    exact⟨h' trivial,h,h' trivial⟩
   ·simp at hf
 | .box i c,o,a',h,hf=>by
   simp only[Cj] at hf
   split at hf
   ·rename_i hb;simp only[Option.some.injEq,Prod.mk.injEq] at hf;obtain⟨rfl,rfl⟩:=hf
    have:=Nat.eq_of_beq_eq_true hb;subst this
    have h':=h;simp only[Av] at h'
    exact⟨h'.1,h,h'.1⟩
   ·split at hf
    ·rename_i o' c' ht
     simp only[Option.some.injEq,Prod.mk.injEq] at hf;obtain⟨rfl,rfl⟩:=hf
     simp only[Av] at h ⊢
     obtain⟨x,y,z⟩:=Fx c _ _ h.2 ht
     exact⟨x,y,h.1,z⟩
    ·cases hf
 | .bv _ c,o,a',h,hf=>by
   simp only[Cj] at hf
   split at hf
   ·rename_i o' c' ht
    simp only[Option.some.injEq,Prod.mk.injEq] at hf;obtain⟨rfl,rfl⟩:=hf
    simp only[Av] at h ⊢;exact Fx c _ _ h ht
   ·cases hf
 | .hv _,o,a',h,hf=>by simp [Cj] at hf
 | .agg fs,o,a',h,hf=>by
   simp only[Cj] at hf
   split at hf
   ·rename_i o' c' ht
    simp only[Option.some.injEq,Prod.mk.injEq] at hf;obtain⟨rfl,rfl⟩:=hf
    simp only[Av] at h ⊢;exact Fx fs _ _ h ht
   ·cases hf
 | .tup fs,o,a',h,hf=>by
   simp only[Cj] at hf
   split at hf
   ·rename_i o' c' ht
    simp only[Option.some.injEq,Prod.mk.injEq] at hf;obtain⟨rfl,rfl⟩:=hf
    simp only[Av] at h ⊢;exact Fx fs _ _ h ht
   ·cases hf
 | .clo fn fs,o,a',h,hf=>by
   simp only[Cj] at hf
   split at hf
   ·rename_i o' c' ht
    simp only[Option.some.injEq,Prod.mk.injEq] at hf;obtain⟨rfl,rfl⟩:=hf
    simp only[Av] at h ⊢;exact Fx fs _ _ h ht
   ·cases hf
 | .sl false i sz α f xs,o,a',h,hf=>by simp [Cj] at hf
 | .int _ _,o,a',h,hf=>by simp [Cj] at hf
 | .bool _,o,a',h,hf=>by simp [Cj] at hf
 | .str _,o,a',h,hf=>by simp [Cj] at hf
 | .val _,o,a',h,hf=>by simp [Cj] at hf
 | .any,o,a',h,hf=>by simp [Cj] at hf
 | .top,o,a',h,hf=>by simp [Cj] at hf
 | .nil,o,a',h,hf=>by simp [Cj] at hf
 | .hole _,o,a',h,hf=>by simp [Cj] at hf
 | .al _,o,a',h,hf=>by simp [Cj] at hf
 | .po _ _ _ _,o,a',h,hf=>by simp [Cj] at hf
 | .pf _,o,a',h,hf=>by simp [Cj] at hf
theorem Fx{n id:Nat}:∀(azs:List AV) (o:AV) (as':List AV),AX n azs→DJ id azs=some (o,as')→id<n∧Av n o∧AX n as'
 |[],o,as',h,hf=>by simp [DJ] at hf
 |a::azs,o,as',h,hf=>by
  simp only[DJ] at hf
  split at hf
  ·rename_i o' a' ht
   simp only[Option.some.injEq,Prod.mk.injEq] at hf;obtain⟨rfl,rfl⟩:=hf
   obtain⟨x,y,z⟩:=a8o a _ _ h.1 ht
   exact⟨x,y,z,h.2⟩
  ·split at hf
   ·rename_i o' c' ht
    simp only[Option.some.injEq,Prod.mk.injEq] at hf;obtain⟨rfl,rfl⟩:=hf
    obtain⟨x,y,z⟩:=Fx azs _ _ h.2 ht
    exact⟨x,y,h.1,z⟩
   ·cases hf
end
mutual
theorem a8p{Z:FP}{η:Nat→Value}{w:World}{id:Nat}{o:AV}{A:FP}(ho:Ad Z η w o (η id) A):∀(a:AV) (v:Value) (B S:FP) (a':AV),Ad Z η w a v B→Bl S A B→
 Cp id o a=some a'→Ad Z η w a' v S
 | .hole i,v,B,S,a',h,hj,hf=>by
   simp only[Cp] at hf
   split at hf
   ·rename_i hb
    simp only[Option.some.injEq] at hf;subst hf
    have:=Nat.eq_of_beq_eq_true hb;subst this
    simp only[Ad] at h
    rw[h.1,Es (QO hj h.2.2)];exact ho
   ·cases hf
 | .box i c,v,B,S,a',h,hj,hf=>by
   simp only[Cp] at hf
   split at hf
   ·rename_i c' hc
    simp only[Option.some.injEq] at hf;subst hf
    simp only[Ad] at h ⊢
    obtain⟨e0,b,arr,ty,S1,e,hb,hr,hj2⟩:=h
    obtain⟨E,h5,h6⟩:=Ij hj hj2
    exact⟨e0,b,arr,ty,E,e,hb,Ik ho c _ S1 E _ hr h6 hc,h5⟩
   ·cases hf
 | .bv x c,v,B,S,a',h,hj,hf=>by
   simp only[Cp] at hf
   split at hf
   ·rename_i c' hc
    simp only[Option.some.injEq] at hf;subst hf
    simp only[Ad] at h ⊢
    obtain⟨e0,b,arr,ty,S1,e,hb,hr,hj2⟩:=h
    obtain⟨E,h5,h6⟩:=Ij hj hj2
    exact⟨e0,b,arr,ty,E,e,hb,Ik ho c _ S1 E _ hr h6 hc,h5⟩
   ·cases hf
 | .hv _,v,B,S,a',h,hj,hf=>by simp [Cp] at hf
 | .agg fs,v,B,S,a',h,hj,hf=>by
   simp only[Cp] at hf
   split at hf
   ·rename_i c' hc
    simp only[Option.some.injEq] at hf;subst hf
    simp only[Ad] at h ⊢
    obtain⟨cs,e,hr⟩:=h
    exact⟨cs,e,Ik ho fs _ B S _ hr hj hc⟩
   ·cases hf
 | .tup fs,v,B,S,a',h,hj,hf=>by
   simp only[Cp] at hf
   split at hf
   ·rename_i c' hc
    simp only[Option.some.injEq] at hf;subst hf
    simp only[Ad] at h ⊢
    obtain⟨cs,e,hr⟩:=h
    exact⟨cs,e,Ik ho fs _ B S _ hr hj hc⟩
   ·cases hf
 | .clo fn fs,v,B,S,a',h,hj,hf=>by
   simp only[Cp] at hf
   split at hf
   ·rename_i c' hc
    simp only[Option.some.injEq] at hf;subst hf
    simp only[Ad] at h ⊢
    obtain⟨cs,e,hr⟩:=h
    exact⟨cs,e,Ik ho fs _ B S _ hr hj hc⟩
   ·cases hf
 | .sl own i sz α f xs,v,B,S,a',h,hj,hf=>by simp [Cp] at hf
 | .int _ _,v,B,S,a',h,hj,hf=>by simp [Cp] at hf
 | .bool _,v,B,S,a',h,hj,hf=>by simp [Cp] at hf
 | .str _,v,B,S,a',h,hj,hf=>by simp [Cp] at hf
 | .val _,v,B,S,a',h,hj,hf=>by simp [Cp] at hf
 | .any,v,B,S,a',h,hj,hf=>by simp [Cp] at hf
 | .top,v,B,S,a',h,hj,hf=>by simp [Cp] at hf
 | .nil,v,B,S,a',h,hj,hf=>by simp [Cp] at hf
 | .al _,v,B,S,a',h,hj,hf=>by simp [Cp] at hf
 | .po _ _ _ _,v,B,S,a',h,hj,hf=>by simp [Cp] at hf
 | .pf _,v,B,S,a',h,hj,hf=>by simp [Cp] at hf
theorem Ik{Z:FP}{η:Nat→Value}{w:World}{id:Nat}{o:AV}{A:FP}(ho:Ad Z η w o (η id) A):∀(azs:List AV) (cs:List Value) (B S:FP) (as':List AV),Al Z η w azs cs B→Bl S A B→
 Ev id o azs=some as'→Al Z η w as' cs S
 |[],cs,B,S,as',h,hj,hf=>by simp [Ev] at hf
 |a::azs,cs,B,S,as',h,hj,hf=>by
  simp only[Al] at h
  obtain⟨v,cs',A1,B1,e,hj2,h1,h2⟩:=h
  simp only[Ev] at hf
  split at hf
  ·rename_i a1 ht
   simp only[Option.some.injEq] at hf;subst hf
   obtain⟨E,h5,h6⟩:=Kg hj hj2
   simp only[Al]
   exact⟨v,cs',E,B1,e,h5,a8p ho a v A1 E _ h1 h6 ht,h2⟩
  ·split at hf
   ·rename_i as1 ht
    simp only[Option.some.injEq] at hf;subst hf
    obtain⟨E,h5,h6⟩:=Ij hj hj2
    simp only[Al]
    exact⟨v,cs',A1,E,e,h5,h1,Ik ho azs cs' B1 E _ h2 h6 ht⟩
   ·cases hf
end
mutual
theorem a8q{n id:Nat}{o:AV}(ho:Av n o):∀(a a':AV),Av n a→Cp id o a=some a'→Av n a'
 | .hole i,a',h,hf=>by
   simp only[Cp] at hf
   split at hf
   ·simp only[Option.some.injEq] at hf;subst hf;exact ho
   ·cases hf
 | .box i c,a',h,hf=>by
   simp only[Cp] at hf
   split at hf
   ·rename_i c' hc
    simp only[Option.some.injEq] at hf;subst hf
    simp only[Av] at h ⊢;exact⟨h.1,Il ho c _ h.2 hc⟩
   ·cases hf
 | .bv _ c,a',h,hf=>by
   simp only[Cp] at hf
   split at hf
   ·rename_i c' hc
    simp only[Option.some.injEq] at hf;subst hf
    simp only[Av] at h ⊢;exact Il ho c _ h hc
   ·cases hf
 | .hv _,a',h,hf=>by simp [Cp] at hf
 | .agg fs,a',h,hf=>by
   simp only[Cp] at hf
   split at hf
   ·rename_i c' hc
    simp only[Option.some.injEq] at hf;subst hf
    simp only[Av] at h ⊢;exact Il ho fs _ h hc
   ·cases hf
 | .tup fs,a',h,hf=>by
   simp only[Cp] at hf
   split at hf
   ·rename_i c' hc
    simp only[Option.some.injEq] at hf;subst hf
    simp only[Av] at h ⊢;exact Il ho fs _ h hc
   ·cases hf
 | .clo fn fs,a',h,hf=>by
   simp only[Cp] at hf
   split at hf
   ·rename_i c' hc
    simp only[Option.some.injEq] at hf;subst hf
    simp only[Av] at h ⊢;exact Il ho fs _ h hc
   ·cases hf
 | .sl own i sz α f xs,a',h,hf=>by simp [Cp] at hf
 | .int _ _,a',h,hf=>by simp [Cp] at hf
 | .bool _,a',h,hf=>by simp [Cp] at hf
 | .str _,a',h,hf=>by simp [Cp] at hf
 | .val _,a',h,hf=>by simp [Cp] at hf
 | .any,a',h,hf=>by simp [Cp] at hf
 | .top,a',h,hf=>by simp [Cp] at hf
 | .nil,a',h,hf=>by simp [Cp] at hf
 | .al _,a',h,hf=>by simp [Cp] at hf
 | .po _ _ _ _,a',h,hf=>by simp [Cp] at hf
 | .pf _,a',h,hf=>by simp [Cp] at hf
theorem Il{n id:Nat}{o:AV}(ho:Av n o):∀(azs as':List AV),AX n azs→Ev id o azs=some as'→AX n as'
 |[],as',h,hf=>by simp [Ev] at hf
 |a::azs,as',h,hf=>by
  simp only[Ev] at hf
  split at hf
  ·rename_i a1 ht
   simp only[Option.some.injEq] at hf;subst hf
   exact⟨a8q ho a _ h.1 ht,h.2⟩
  ·split at hf
   ·rename_i as1 ht
    simp only[Option.some.injEq] at hf;subst hf
    exact⟨h.1,Il ho azs _ h.2 ht⟩
   ·cases hf
end
mutual
def Cq:AV→Option (Value×List AV×AV)
 | .bv x c=>some (x,c,.hv x)
 | .box i c=>match HE c with|some (x,d,c')=>some (x,d,.box i c')|none=>none
 | .agg fs=>match HE fs with|some (x,d,c')=>some (x,d,.agg c')|none=>none
 | .tup fs=>match HE fs with|some (x,d,c')=>some (x,d,.tup c')|none=>none
 |_=>none
def HE:List AV→Option (Value×List AV×List AV)
 |[]=>none
 |a::azs=>match Cq a with
  |some (x,d,a')=>some (x,d,a'::azs)
  |none=>match HE azs with|some (x,d,as')=>some (x,d,a::as')|none=>none
end
mutual
def Cr(c:List AV):AV→Option (Value×AV)
 | .hv x=>some (x,.bv x c)
 | .box i d=>match GU c d with|some (x,d')=>some (x,.box i d')|none=>none
 | .agg fs=>match GU c fs with|some (x,d')=>some (x,.agg d')|none=>none
 | .tup fs=>match GU c fs with|some (x,d')=>some (x,.tup d')|none=>none
 |_=>none
def GU(c:List AV):List AV→Option (Value×List AV)
 |[]=>none
 |a::azs=>match Cr c a with
  |some (x,a')=>some (x,a'::azs)
  |none=>match GU c azs with|some (x,as')=>some (x,a::as')|none=>none
end
mutual
theorem a8r{Z:FP}{η:Nat→Value}{w:World}:∀(a:AV) (v:Value) (S:FP) (x:Value) (c:List AV) (a':AV),Ad Z η w a v S→Cq a=some (x,c,a')→
 ∃A B,Bl S A B∧Ad Z η w (.bv x c) x A∧Ad Z η w a' v B
 | .bv y d,v,S,x,c,a',h,hf=>by
   simp only[Cq,Option.some.injEq,Prod.mk.injEq] at hf
   obtain⟨rfl,rfl,rfl⟩:=hf
   have h':=h
   simp only[Ad] at h'
   obtain⟨e0,b,arr,ty,S1,e,_⟩:=h'
   refine⟨S,fun _=>False,GR S,by rw[←e0];rw[←e0] at h;exact h,?_⟩
   simp only[Ad,Ai];exact⟨e0,by rw[←e0,e];trivial,AP⟩
 | .box i d,v,S,x,c,a',h,hf=>by
   simp only[Cq] at hf
   split at hf
   ·rename_i x' d' c' ht
    simp only[Option.some.injEq,Prod.mk.injEq] at hf;obtain⟨rfl,rfl,rfl⟩:=hf
    simp only[Ad] at h
    obtain⟨e0,b,arr,ty,S1,e,hb,hr,hj⟩:=h
    obtain⟨A,B,hj2,h1,h2⟩:=Nf d _ S1 _ _ _ hr ht
    obtain⟨E,h5,h6⟩:=Ij hj hj2
    refine⟨A,E,h5,h1,?_⟩
    simp only[Ad]
    exact⟨e0,b,arr,ty,B,e,hb,h2,h6⟩
   ·cases hf
 | .agg fs,v,S,x,c,a',h,hf=>by
   simp only[Cq] at hf
   split at hf
   ·rename_i x' d' c' ht
    simp only[Option.some.injEq,Prod.mk.injEq] at hf;obtain⟨rfl,rfl,rfl⟩:=hf
    simp only[Ad] at h
    obtain⟨cs,e,hr⟩:=h
    obtain⟨A,B,hj2,h1,h2⟩:=Nf fs _ S _ _ _ hr ht
    exact⟨A,B,hj2,h1,by simp only[Ad];exact⟨cs,e,h2⟩⟩
   ·cases hf
 | .tup fs,v,S,x,c,a',h,hf=>by
   simp only[Cq] at hf
   split at hf
   ·rename_i x' d' c' ht
    simp only[Option.some.injEq,Prod.mk.injEq] at hf;obtain⟨rfl,rfl,rfl⟩:=hf
    simp only[Ad] at h
    obtain⟨cs,e,hr⟩:=h
    obtain⟨A,B,hj2,h1,h2⟩:=Nf fs _ S _ _ _ hr ht
    exact⟨A,B,hj2,h1,by simp only[Ad];exact⟨cs,e,h2⟩⟩
   ·cases hf
 | .clo _ _,v,S,x,c,a',h,hf=>by simp [Cq] at hf
 | .sl _ _ _ _ _ _,v,S,x,c,a',h,hf=>by simp [Cq] at hf
 | .int _ _,v,S,x,c,a',h,hf=>by simp [Cq] at hf
 | .bool _,v,S,x,c,a',h,hf=>by simp [Cq] at hf
 | .str _,v,S,x,c,a',h,hf=>by simp [Cq] at hf
 | .val _,v,S,x,c,a',h,hf=>by simp [Cq] at hf
 | .any,v,S,x,c,a',h,hf=>by simp [Cq] at hf
 | .top,v,S,x,c,a',h,hf=>by simp [Cq] at hf
 | .nil,v,S,x,c,a',h,hf=>by simp [Cq] at hf
 | .hole _,v,S,x,c,a',h,hf=>by simp [Cq] at hf
 | .hv _,v,S,x,c,a',h,hf=>by simp [Cq] at hf
 | .al _,v,S,x,c,a',h,hf=>by simp [Cq] at hf
 | .po _ _ _ _,v,S,x,c,a',h,hf=>by simp [Cq] at hf
 | .pf _,v,S,x,c,a',h,hf=>by simp [Cq] at hf
theorem Nf{Z:FP}{η:Nat→Value}{w:World}:∀(azs:List AV) (cs:List Value) (S:FP) (x:Value) (c:List AV) (as':List AV),Al Z η w azs cs S→HE azs=some (x,c,as')→
 ∃A B,Bl S A B∧Ad Z η w (.bv x c) x A∧Al Z η w as' cs B
 |[],cs,S,x,c,as',h,hf=>by simp [HE] at hf
 |a::azs,cs,S,x,c,as',h,hf=>by
  simp only[Al] at h
  obtain⟨v,cs',A,B,e,hj,h1,h2⟩:=h
  simp only[HE] at hf
  split at hf
  ·rename_i x' d' a' ht
   simp only[Option.some.injEq,Prod.mk.injEq] at hf;obtain⟨rfl,rfl,rfl⟩:=hf
   obtain⟨A1,B1,hj2,y,z⟩:=a8r a v A _ _ _ h1 ht
   obtain⟨E,h5,h6⟩:=ZP hj hj2
   refine⟨A1,E,h5,y,?_⟩
   simp only[Al];exact⟨v,cs',B1,B,e,h6,z,h2⟩
  ·split at hf
   ·rename_i x' d' c' ht
    simp only[Option.some.injEq,Prod.mk.injEq] at hf;obtain⟨rfl,rfl,rfl⟩:=hf
    obtain⟨A1,B1,hj2,y,z⟩:=Nf azs cs' B _ _ _ h2 ht
    obtain⟨E,h5,h6⟩:=Ij hj hj2
    refine⟨A1,E,h5,y,?_⟩
    simp only[Al];exact⟨v,cs',A,B1,e,h6,h1,z⟩
   ·cases hf
end
mutual
theorem a8s{n:Nat}:∀(a:AV) (x:Value) (c:List AV) (a':AV),Av n a→Cq a=some (x,c,a')→AX n c∧Av n a'
 | .bv y d,x,c,a',h,hf=>by
   simp only[Cq,Option.some.injEq,Prod.mk.injEq] at hf
   obtain⟨rfl,rfl,rfl⟩:=hf
   simp only[Av] at h;exact⟨h,trivial⟩
 | .box i d,x,c,a',h,hf=>by
   simp only[Cq] at hf
   split at hf
   ·rename_i x' d' c' ht
    simp only[Option.some.injEq,Prod.mk.injEq] at hf;obtain⟨rfl,rfl,rfl⟩:=hf
    simp only[Av] at h ⊢
    obtain⟨y,z⟩:=Ng d _ _ _ h.2 ht
    exact⟨y,h.1,z⟩
   ·cases hf
 | .agg fs,x,c,a',h,hf=>by
   simp only[Cq] at hf
   split at hf
   ·rename_i x' d' c' ht
    simp only[Option.some.injEq,Prod.mk.injEq] at hf;obtain⟨rfl,rfl,rfl⟩:=hf
    simp only[Av] at h ⊢;exact Ng fs _ _ _ h ht
   ·cases hf
 | .tup fs,x,c,a',h,hf=>by
   simp only[Cq] at hf
   split at hf
   ·rename_i x' d' c' ht
    simp only[Option.some.injEq,Prod.mk.injEq] at hf;obtain⟨rfl,rfl,rfl⟩:=hf
    simp only[Av] at h ⊢;exact Ng fs _ _ _ h ht
   ·cases hf
 | .clo _ _,x,c,a',h,hf=>by simp [Cq] at hf
 | .sl _ _ _ _ _ _,x,c,a',h,hf=>by simp [Cq] at hf
 | .int _ _,x,c,a',h,hf=>by simp [Cq] at hf
 | .bool _,x,c,a',h,hf=>by simp [Cq] at hf
 | .str _,x,c,a',h,hf=>by simp [Cq] at hf
 | .val _,x,c,a',h,hf=>by simp [Cq] at hf
 | .any,x,c,a',h,hf=>by simp [Cq] at hf
 | .top,x,c,a',h,hf=>by simp [Cq] at hf
 | .nil,x,c,a',h,hf=>by simp [Cq] at hf
 | .hole _,x,c,a',h,hf=>by simp [Cq] at hf
 | .hv _,x,c,a',h,hf=>by simp [Cq] at hf
 | .al _,x,c,a',h,hf=>by simp [Cq] at hf
 | .po _ _ _ _,x,c,a',h,hf=>by simp [Cq] at hf
 | .pf _,x,c,a',h,hf=>by simp [Cq] at hf
theorem Ng{n:Nat}:∀(azs:List AV) (x:Value) (c:List AV) (as':List AV),AX n azs→HE azs=some (x,c,as')→AX n c∧AX n as'
 |[],x,c,as',h,hf=>by simp [HE] at hf
 |a::azs,x,c,as',h,hf=>by
  simp only[HE] at hf
  split at hf
  ·rename_i x' d' a' ht
   simp only[Option.some.injEq,Prod.mk.injEq] at hf;obtain⟨rfl,rfl,rfl⟩:=hf
   obtain⟨y,z⟩:=a8s a _ _ _ h.1 ht
   exact⟨y,z,h.2⟩
  ·split at hf
   ·rename_i x' d' c' ht
    simp only[Option.some.injEq,Prod.mk.injEq] at hf;obtain⟨rfl,rfl,rfl⟩:=hf
    obtain⟨y,z⟩:=Ng azs _ _ _ h.2 ht
    exact⟨y,h.1,z⟩
   ·cases hf
end
mutual
theorem a8t{Z:FP}{η:Nat→Value}{w:World}{c:List AV}{A:FP}:∀(a:AV) (v:Value) (B S:FP) (x:Value) (a':AV),Ad Z η w a v B→Bl S A B→
 Cr c a=some (x,a')→Ad Z η w (.bv x c) x A→Ad Z η w a' v S
 | .hv y,v,B,S,x,a',h,hj,hf,ho=>by
   simp only[Cr,Option.some.injEq,Prod.mk.injEq] at hf
   obtain⟨rfl,rfl⟩:=hf
   simp only[Ad,Ai] at h
   rw[h.1,Es (QO hj h.2.2)];exact ho
 | .box i d,v,B,S,x,a',h,hj,hf,ho=>by
   simp only[Cr] at hf
   split at hf
   ·rename_i x' c' hc
    simp only[Option.some.injEq,Prod.mk.injEq] at hf;obtain⟨rfl,rfl⟩:=hf
    simp only[Ad] at h ⊢
    obtain⟨e0,b,arr,ty,S1,e,hb,hr,hj2⟩:=h
    obtain⟨E,h5,h6⟩:=Ij hj hj2
    exact⟨e0,b,arr,ty,E,e,hb,Pg d _ S1 E _ _ hr h6 hc ho,h5⟩
   ·cases hf
 | .agg fs,v,B,S,x,a',h,hj,hf,ho=>by
   simp only[Cr] at hf
   split at hf
   ·rename_i x' c' hc
    simp only[Option.some.injEq,Prod.mk.injEq] at hf;obtain⟨rfl,rfl⟩:=hf
    simp only[Ad] at h ⊢
    obtain⟨cs,e,hr⟩:=h
    exact⟨cs,e,Pg fs _ B S _ _ hr hj hc ho⟩
   ·cases hf
 | .tup fs,v,B,S,x,a',h,hj,hf,ho=>by
   simp only[Cr] at hf
   split at hf
   ·rename_i x' c' hc
    simp only[Option.some.injEq,Prod.mk.injEq] at hf;obtain⟨rfl,rfl⟩:=hf
    simp only[Ad] at h ⊢
    obtain⟨cs,e,hr⟩:=h
    exact⟨cs,e,Pg fs _ B S _ _ hr hj hc ho⟩
   ·cases hf
 | .bv _ _,v,B,S,x,a',h,hj,hf,ho=>by simp [Cr] at hf
 | .clo _ _,v,B,S,x,a',h,hj,hf,ho=>by simp [Cr] at hf
 | .sl _ _ _ _ _ _,v,B,S,x,a',h,hj,hf,ho=>by simp [Cr] at hf
 | .int _ _,v,B,S,x,a',h,hj,hf,ho=>by simp [Cr] at hf
 | .bool _,v,B,S,x,a',h,hj,hf,ho=>by simp [Cr] at hf
 | .str _,v,B,S,x,a',h,hj,hf,ho=>by simp [Cr] at hf
 | .val _,v,B,S,x,a',h,hj,hf,ho=>by simp [Cr] at hf
 | .any,v,B,S,x,a',h,hj,hf,ho=>by simp [Cr] at hf
 | .top,v,B,S,x,a',h,hj,hf,ho=>by simp [Cr] at hf
 | .nil,v,B,S,x,a',h,hj,hf,ho=>by simp [Cr] at hf
 | .hole _,v,B,S,x,a',h,hj,hf,ho=>by simp [Cr] at hf
 | .al _,v,B,S,x,a',h,hj,hf,ho=>by simp [Cr] at hf
 | .po _ _ _ _,v,B,S,x,a',h,hj,hf,ho=>by simp [Cr] at hf
 | .pf _,v,B,S,x,a',h,hj,hf,ho=>by simp [Cr] at hf
theorem Pg{Z:FP}{η:Nat→Value}{w:World}{c:List AV}{A:FP}:∀(azs:List AV) (cs:List Value) (B S:FP) (x:Value) (as':List AV),Al Z η w azs cs B→Bl S A B→
 GU c azs=some (x,as')→Ad Z η w (.bv x c) x A→Al Z η w as' cs S
 |[],cs,B,S,x,as',h,hj,hf,ho=>by simp [GU] at hf
 |a::azs,cs,B,S,x,as',h,hj,hf,ho=>by
  simp only[Al] at h
  obtain⟨v,cs',A1,B1,e,hj2,h1,h2⟩:=h
  simp only[GU] at hf
  split at hf
  ·rename_i x' a1 ht
   simp only[Option.some.injEq,Prod.mk.injEq] at hf;obtain⟨rfl,rfl⟩:=hf
   obtain⟨E,h5,h6⟩:=Kg hj hj2
   simp only[Al]
   exact⟨v,cs',E,B1,e,h5,a8t a v A1 E _ _ h1 h6 ht ho,h2⟩
  ·split at hf
   ·rename_i x' as1 ht
    simp only[Option.some.injEq,Prod.mk.injEq] at hf;obtain⟨rfl,rfl⟩:=hf
    obtain⟨E,h5,h6⟩:=Ij hj hj2
    simp only[Al]
    exact⟨v,cs',A1,E,e,h5,h1,Pg azs cs' B1 E _ _ h2 h6 ht ho⟩
   ·cases hf
end
mutual
theorem a8u{n:Nat}{c:List AV}(hc:AX n c):∀(a:AV) (x:Value) (a':AV),Av n a→Cr c a=some (x,a')→Av n a'
 | .hv y,x,a',h,hf=>by
   simp only[Cr,Option.some.injEq,Prod.mk.injEq] at hf
   obtain⟨rfl,rfl⟩:=hf
   simp only[Av];exact hc
 | .box i d,x,a',h,hf=>by
   simp only[Cr] at hf
   split at hf
   ·rename_i x' c' ht
    simp only[Option.some.injEq,Prod.mk.injEq] at hf;obtain⟨rfl,rfl⟩:=hf
    simp only[Av] at h ⊢;exact⟨h.1,Ph hc d _ _ h.2 ht⟩
   ·cases hf
 | .agg fs,x,a',h,hf=>by
   simp only[Cr] at hf
   split at hf
   ·rename_i x' c' ht
    simp only[Option.some.injEq,Prod.mk.injEq] at hf;obtain⟨rfl,rfl⟩:=hf
    simp only[Av] at h ⊢;exact Ph hc fs _ _ h ht
   ·cases hf
 | .tup fs,x,a',h,hf=>by
   simp only[Cr] at hf
   split at hf
   ·rename_i x' c' ht
    simp only[Option.some.injEq,Prod.mk.injEq] at hf;obtain⟨rfl,rfl⟩:=hf
    simp only[Av] at h ⊢;exact Ph hc fs _ _ h ht
   ·cases hf
 | .bv _ _,x,a',h,hf=>by simp [Cr] at hf
 | .clo _ _,x,a',h,hf=>by simp [Cr] at hf
 | .sl _ _ _ _ _ _,x,a',h,hf=>by simp [Cr] at hf
 | .int _ _,x,a',h,hf=>by simp [Cr] at hf
 | .bool _,x,a',h,hf=>by simp [Cr] at hf
 | .str _,x,a',h,hf=>by simp [Cr] at hf
 | .val _,x,a',h,hf=>by simp [Cr] at hf
 | .any,x,a',h,hf=>by simp [Cr] at hf
 | .top,x,a',h,hf=>by simp [Cr] at hf
 | .nil,x,a',h,hf=>by simp [Cr] at hf
 | .hole _,x,a',h,hf=>by simp [Cr] at hf
 | .al _,x,a',h,hf=>by simp [Cr] at hf
 | .po _ _ _ _,x,a',h,hf=>by simp [Cr] at hf
 | .pf _,x,a',h,hf=>by simp [Cr] at hf
theorem Ph{n:Nat}{c:List AV}(hc:AX n c):∀(azs:List AV) (x:Value) (as':List AV),AX n azs→GU c azs=some (x,as')→AX n as'
 |[],x,as',h,hf=>by simp [GU] at hf
 |a::azs,x,as',h,hf=>by
  simp only[GU] at hf
  split at hf
  ·rename_i x' a1 ht
   simp only[Option.some.injEq,Prod.mk.injEq] at hf;obtain⟨rfl,rfl⟩:=hf
   exact⟨a8u hc a _ _ h.1 ht,h.2⟩
  ·split at hf
   ·rename_i x' as1 ht
    simp only[Option.some.injEq,Prod.mk.injEq] at hf;obtain⟨rfl,rfl⟩:=hf
    exact⟨h.1,Ph hc azs _ _ h.2 ht⟩
   ·cases hf
end
mutual
def fz:AV→AV
 | .sl _ _ sz α f xs=> .sl false 0 sz α (fun x=>fzL (f x)) xs
 | .box _ _=> .any
 | .bv _ _=> .any
 | .hv _=> .any
 | .clo _ _=> .any
 | .agg fs=> .agg (fzL fs)
 | .tup fs=> .tup (fzL fs)
 |a=>a
def fzL:List AV→List AV
 |[]=>[]
 |a::azs=>fz a::fzL azs
end
theorem UU{α:Type}{sz:Nat}{R R':α→List Value→FP→Prop}:∀(xs:List α) (cs:List Value) (S:FP),
 (∀x cs A,(∀b,A b→S b)→R x cs A→R' x cs (fun _=>False))→Rows sz R xs cs S→Rows sz R' xs cs (fun _=>False)
 |[],_,_,_,h=>AP
 |x::xs,cs,S,hr,h=>by
  obtain⟨A,B,hj,hl,h1,h2⟩:=h
  exact⟨_,_,BK _,hl,hr _ _ _ (fun b hb=>(hj.1 b).2 (.inl hb)) h1,UU xs _ B (fun x cs A' hA=>hr x cs A' (fun b hb=>(hj.1 b).2 (.inr (hA b hb)))) h2⟩
mutual
theorem ZR{Z Z':FP}{w:World}(hZ:∀b,¬Z b→¬Z' b):∀(a:AV) (v:Value) (S:FP),(∀b,S b→¬Z' b)→Ai Z w a v S→Ai Z' w (fz a) v (fun _=>False)
 | .int _ _,v,S,hS,h=>by simp only[Ai,fz] at h ⊢;exact⟨h.1,AP⟩
 | .bool _,v,S,hS,h=>by simp only[Ai,fz] at h ⊢;exact⟨h.1,AP⟩
 | .str _,v,S,hS,h=>by simp only[Ai,fz] at h ⊢;exact⟨h.1,AP⟩
 | .val _,v,S,hS,h=>by simp only[Ai,fz] at h ⊢;exact⟨h.1,h.2.1,AP⟩
 | .any,v,S,hS,h=>by simp only[Ai,fz] at h ⊢;exact⟨h.1,AP⟩
 | .top,v,S,hS,h=>by simp only[Ai,fz] at h ⊢;exact AP
 | .nil,v,S,hS,h=>by simp only[Ai,fz] at h ⊢;exact⟨h.1,AP⟩
 | .hole _,v,S,hS,h=>by simp only[Ai] at h
 | .al _,v,S,hS,h=>by simp only[Ai] at h
 | .po _ _ _ _,v,S,hS,h=>by simp only[Ai] at h
 | .agg fs,v,S,hS,h=>by simp only[Ai,fz] at h ⊢;obtain⟨cs,e,h⟩:=h;exact⟨cs,e,Nh hZ fs cs S hS h⟩
 | .tup fs,v,S,hS,h=>by simp only[Ai,fz] at h ⊢;obtain⟨cs,e,h⟩:=h;exact⟨cs,e,Nh hZ fs cs S hS h⟩
 | .clo _ _,v,S,hS,h=>by simp only[Ai,fz] at h ⊢;obtain⟨cs,e,h⟩:=h;exact⟨by rw[e];exact ON,AP⟩
 | .box _ _,v,S,hS,h=>by simp only[Ai,fz] at h ⊢;obtain⟨b,arr,ty,S1,e,_⟩:=h;exact⟨by rw[e];trivial,AP⟩
 | .bv _ _,v,S,hS,h=>by simp only[Ai,fz] at h ⊢;obtain⟨_,b,arr,ty,S1,e,_⟩:=h;exact⟨by rw[e];trivial,AP⟩
 | .hv _,v,S,hS,h=>by simp only[Ai,fz] at h ⊢;exact⟨by rw[h.1];exact h.2.1,AP⟩
 | .pf c,v,S,hS,h=>by
   simp only[Ai,fz] at h ⊢
   obtain⟨he,b,off,arr,ty,fr,cs,rest,S1,e,hz,hb,hd,hr,h1⟩:=h
   exact⟨AP,b,off,arr,ty,fr,cs,rest,S1,e,hZ b hz,hb,hd,Dk (fun b hb _=>⟨hZ b hb,rfl⟩) _ _ _ (fun _ _=>rfl) hr,h1⟩
 | .sl own _ sz α f xs,v,S,hS,h=>by
   simp only[Ai,fz] at h ⊢
   obtain⟨a,n,c,e,hn,hc,h⟩:=h
   refine⟨a,n,c,e,hn,hc,.inr ⟨trivial,AP,?_⟩⟩
   rcases h with⟨ho,h⟩|⟨ho,he,h⟩
   ·rcases h with⟨ha,hc0,_⟩|⟨b,off,arr,ty,S1,ha,hb,hsz,hr,hj⟩
    ·left;cases xs with
     |nil=>rfl
     |cons x xs=>simp at hn;omega
    ·right
     refine⟨b,off,arr,ty,(0,0),ha,hS b ((hj.1 b).2 (.inl rfl)),hb,?_⟩
     exact UU xs _ S1 (fun x cs A hA hx=>Nh hZ (f x) cs A (fun b hb=>hS b ((hj.1 b).2 (.inr (hA b hb)))) hx) hr
   ·rcases h with h|⟨b,off,arr,ty,fr,ha,hz,hb,hr⟩
    ·exact .inl h
    ·refine .inr ⟨b,off,arr,ty,fr,ha,hZ b hz,hb,?_⟩
     exact UU xs _ S (fun x cs A hA hx=>Nh hZ (f x) cs A (fun b hb=>hS b (hA b hb)) hx) hr
theorem Nh{Z Z':FP}{w:World}(hZ:∀b,¬Z b→¬Z' b):∀(azs:List AV) (cs:List Value) (S:FP),(∀b,S b→¬Z' b)→AS Z w azs cs S→AS Z' w (fzL azs) cs (fun _=>False)
 |[],cs,S,hS,h=>by simp only[AS,fzL] at h ⊢;exact⟨h.1,AP⟩
 |a::azs,cs,S,hS,h=>by
  simp only[AS,fzL] at h ⊢
  obtain⟨v,cs',A,B,e,hj,h1,h2⟩:=h
  exact⟨v,cs',_,_,e,BK _,ZR hZ a v A (fun b hb=>hS b ((hj.1 b).2 (.inl hb))) h1,Nh hZ azs cs' B (fun b hb=>hS b ((hj.1 b).2 (.inr hb))) h2⟩
end
mutual
def Fe(id:Nat)(g:AV):AV→AV
 | .hole i=>match Nat.beq i id with|true=>g|false=> .hole i
 | .al i=>match Nat.beq i id with|true=>g|false=> .al i
 | .box i c=> .box i (HF id g c)
 | .bv x c=> .bv x (HF id g c)
 | .agg fs=> .agg (HF id g fs)
 | .tup fs=> .tup (HF id g fs)
 | .clo fn fs=> .clo fn (HF id g fs)
 |a=>a
def HF(id:Nat)(g:AV):List AV→List AV
 |[]=>[]
 |a::azs=>Fe id g a::HF id g azs
end
mutual
theorem a8v{Z:FP}{η:Nat→Value}{w:World}{id:Nat}{g:AV}(hg:Ad Z η w g (η id) (fun _=>False)):∀(a:AV) (v:Value) (S:FP),Ad Z η w a v S→Ad Z η w (Fe id g a) v S
 | .hole i,v,S,h=>by
   simp only[Fe];split
   ·rename_i hb;have:=Nat.eq_of_beq_eq_true hb;subst this
    simp only[Ad] at h;rw[h.1,Et h.2.2];exact hg
   ·exact h
 | .al i,v,S,h=>by
   simp only[Fe];split
   ·rename_i hb;have:=Nat.eq_of_beq_eq_true hb;subst this
    simp only[Ad] at h;rw[h.1,Et h.2.2];exact hg
   ·exact h
 | .box i c,v,S,h=>by
   simp only[Ad,Fe] at h ⊢
   obtain⟨e0,b,arr,ty,S1,e,hb,hr,hj⟩:=h
   exact⟨e0,b,arr,ty,S1,e,hb,Kn hg c _ S1 hr,hj⟩
 | .bv x c,v,S,h=>by
   simp only[Ad,Fe] at h ⊢
   obtain⟨e0,b,arr,ty,S1,e,hb,hr,hj⟩:=h
   exact⟨e0,b,arr,ty,S1,e,hb,Kn hg c _ S1 hr,hj⟩
 | .hv _,v,S,h=>h
 | .agg fs,v,S,h=>by simp only[Ad,Fe] at h ⊢;obtain⟨cs,e,h⟩:=h;exact⟨cs,e,Kn hg fs cs S h⟩
 | .tup fs,v,S,h=>by simp only[Ad,Fe] at h ⊢;obtain⟨cs,e,h⟩:=h;exact⟨cs,e,Kn hg fs cs S h⟩
 | .clo fn fs,v,S,h=>by simp only[Ad,Fe] at h ⊢;obtain⟨cs,e,h⟩:=h;exact⟨cs,e,Kn hg fs cs S h⟩
 | .sl _ _ _ _ _ _,v,S,h=>h
 | .int _ _,v,S,h=>h
 | .bool _,v,S,h=>h
 | .str _,v,S,h=>h
 | .val _,v,S,h=>h
 | .any,v,S,h=>h
 | .top,v,S,h=>h
 | .nil,v,S,h=>h
 | .po _ _ _ _,v,S,h=>h
 | .pf _,v,S,h=>h
theorem Kn{Z:FP}{η:Nat→Value}{w:World}{id:Nat}{g:AV}(hg:Ad Z η w g (η id) (fun _=>False)):∀(azs:List AV) (cs:List Value) (S:FP),Al Z η w azs cs S→Al Z η w (HF id g azs) cs S
 |[],cs,S,h=>h
 |a::azs,cs,S,h=>by
  simp only[Al,HF] at h ⊢
  obtain⟨v,cs',A,B,e,hj,h1,h2⟩:=h
  exact⟨v,cs',A,B,e,hj,a8v hg a v A h1,Kn hg azs cs' B h2⟩
end
mutual
theorem a8w{n id:Nat}{g:AV}(hg:Av n g):∀(a:AV),Av n a→Av n (Fe id g a)
 | .hole i,h=>by simp only[Fe];split<;>first|exact hg|exact h
 | .al i,h=>by simp only[Fe];split<;>first|exact hg|exact h
 | .box i c,h=>by simp only[Av,Fe] at h ⊢;exact⟨h.1,Ko hg c h.2⟩
 | .bv _ c,h=>by simp only[Av,Fe] at h ⊢;exact Ko hg c h
 | .hv _,h=>h
 | .agg fs,h=>by simp only[Av,Fe] at h ⊢;exact Ko hg fs h
 | .tup fs,h=>by simp only[Av,Fe] at h ⊢;exact Ko hg fs h
 | .clo fn fs,h=>by simp only[Av,Fe] at h ⊢;exact Ko hg fs h
 | .sl _ _ _ _ _ _,h=>h
 | .int _ _,h=>h
 | .bool _,h=>h
 | .str _,h=>h
 | .val _,h=>h
 | .any,h=>h
 | .top,h=>h
 | .nil,h=>h
 | .po _ _ _ _,h=>h
 | .pf _,h=>h
theorem Ko{n id:Nat}{g:AV}(hg:Av n g):∀(azs:List AV),AX n azs→AX n (HF id g azs)
 |[],h=>h
 |a::azs,h=>by simp only[AX,HF] at h ⊢;exact⟨a8w hg a h.1,Ko hg azs h.2⟩
end
def UV:AV→Bool
 | .int _ _=>true
 | .bool _=>true
 | .str _=>true
 | .val _=>true
 | .any=>true
 | .nil=>true
 | .pf _=>true
 | .sl _ _ _ _ _ _=>true
 |_=>false
def Ni:List AV→Bool
 |[]=>true
 |a::azs=>match UV a with
  |true=>Ni azs
  |false=>false
theorem a8x{Z:FP}{η:Nat→Value}{w:World}{a:AV}{v:Value}{S:FP}(hp:UV a=true)(h:Ad Z η w a v S):Ai Z w a v S:=by
 cases a<;>simp only[UV,Bool.false_eq_true] at hp<;>simp only[Ad] at h<;>first|exact h|exact h.2
theorem ZT{Z:FP}{η:Nat→Value}{w:World}:∀ {azs:List AV} {cs:List Value} {S:FP},Ni azs=true→Al Z η w azs cs S→AS Z w azs cs S
 |[],cs,S,_,h=>by simp only[Al] at h;simp only[AS];exact h
 |a::azs,cs,S,hp,h=>by
  unfold Ni at hp
  split at hp
  ·rename_i ha
   simp only[Al] at h
   obtain⟨v,cs',A,B,e,hj,h1,h2⟩:=h
   simp only[AS]
   exact⟨v,cs',A,B,e,hj,a8x ha h1,ZT hp h2⟩
  ·cases hp
theorem ZU{Z:FP}{η:Nat→Value}{w:World}{i:Nat}{c:List AV}{v:Value}{A:FP}(hp:Ni c=true)(h:Ad Z η w (.box i c) v A):
 Ai (fun b=>Z b∧¬A b) w (.pf (fzL c)) v (fun _=>False):=by
 simp only[Ad] at h
 obtain⟨e0,b,arr,ty,S1,e,hb,hr,hj⟩:=h
 have hr':=Nh (Z':=fun b=>Z b∧¬A b) (fun b hb x=>hb x.1) c arr.toList S1 (fun x hx y=>y.2 ((hj.1 x).2 (.inr hx))) (ZT hp hr)
 simp only[Ai]
 exact⟨AP,b,0,arr,ty,_,arr.toList,[],_,e,fun x=>x.2 ((hj.1 b).2 (.inl rfl)),hb,by simp,hr',AP⟩
def Pi:Fn→Fn→Bool
 | .func a,.func b=>Nat.beq a b
 | .yield a,.yield b=>Nat.beq a b
 |_,_=>false
theorem UW{a b:Fn}(h:Pi a b=true):a=b:=by
 cases a<;>cases b<;>simp only[Pi,Bool.false_eq_true] at h
 ·rw[Nat.eq_of_beq_eq_true h]
 ·rw[Nat.eq_of_beq_eq_true h]
mutual
def DR(bw:Bool):AV→List AV→AV→(List AV→Prop)→Prop
 | .int k n,regs,a,K=>match a with
   | .int k' m=>match OY k k' with
     |true=>m=n∧K regs
     |false=>False
   |_=>False
 | .bool b,regs,a,K=>match a with
   | .bool c=>c=b∧K regs
   |_=>False
 | .str l,regs,a,K=>match a with
   | .str m=>m=l∧K regs
   |_=>False
 | .val v,regs,a,K=>match a with
   | .val u=>u=v∧K regs
   |_=>False
 | .nil,regs,a,K=>match a with
   | .nil=>K regs
   |_=>False
 | .any,regs,a,K=>match Ii a with
   |true=>K regs
   |false=>False
 | .top,regs,a,K=>K regs
 | .agg es,regs,a,K=>match a with
   | .agg azs=>DS bw es regs azs K
   |_=>False
 | .tup es,regs,a,K=>match a with
   | .tup azs=>DS bw es regs azs K
   |_=>False
 | .clo fn es,regs,a,K=>match a with
   | .clo fn' azs=>match Pi fn' fn with
     |true=>DS bw es regs azs K
     |false=>False
   |_=>False
 | .pf c,regs,a,K=>match a with
   | .pf c'=>AV.pf c'=AV.pf c∧K regs
   | .al id=>match bw with
     |true=>match DQ id regs with
      |some (.box _ c')=>match Ni c' with
       |true=>AV.pf (fzL c')=AV.pf c∧K regs
       |false=>False
      |_=>False
     |false=>match DJ id regs with
      |some (.box _ c',regs')=>match Ni c' with
       |true=>AV.pf (fzL c')=AV.pf c∧K (HF id (.pf (fzL c')) regs')
       |false=>False
      |_=>False
   |_=>False
 | .box _ c,regs,a,K=>match a with
   | .box _ c'=>DS bw c regs c' K
   | .al id=>match bw with
     |true=>False
     |false=>match DJ id regs with
      |some (.box _ c',regs')=>DS bw c regs' c' K
      |_=>False
   | .val v=>match bw with
     |true=>False
     |false=>match HE regs with
      |some (x,c',regs')=>x=v∧DS bw c regs' c' K
      |none=>False
   |_=>False
 | .bv y c,regs,a,K=>match a with
   | .bv x c'=>x=y∧DS bw c regs c' K
   | .val v=>match bw with
     |true=>False
     |false=>match HE regs with
      |some (x,c',regs')=>(x=v∧x=y)∧DS bw c regs' c' K
      |none=>False
   |_=>False
 | .sl true _ sz α f xs,regs,a,K=>match a with
   | .nil=>xs=[]∧K regs
   | .sl true _ sz' α' f' xs'=>AV.sl true 0 sz' α' f' xs'=AV.sl true 0 sz α f xs∧K regs
   | .al id=>match bw with
     |true=>False
     |false=>match DJ id regs with
      |some (.sl true _ sz' α' f' xs',regs')=>AV.sl true 0 sz' α' f' xs'=AV.sl true 0 sz α f xs∧K regs'
      |_=>False
   |_=>False
 | .sl false _ sz α f xs,regs,a,K=>match a with
   | .nil=>xs=[]∧K regs
   | .sl false _ sz' α' f' xs'=>AV.sl false 0 sz' α' f' xs'=AV.sl false 0 sz α f xs∧K regs
   | .sl true _ sz' α' f' xs'=>AV.sl false 0 sz' α' (fun x=>fzL (f' x)) xs'=AV.sl false 0 sz α f xs∧K regs
   | .al id=>match bw with
     |true=>match DQ id regs with
      |some (.sl true _ sz' α' f' xs')=>AV.sl false 0 sz' α' (fun x=>fzL (f' x)) xs'=AV.sl false 0 sz α f xs∧K regs
      |_=>False
     |false=>match DJ id regs with
      |some (.sl true _ sz' α' f' xs',regs')=>AV.sl false 0 sz' α' (fun x=>fzL (f' x)) xs'=AV.sl false 0 sz α f xs∧
        K (HF id (.sl false 0 sz' α' (fun x=>fzL (f' x)) xs') regs')
      |_=>False
   |_=>False
 | .hole _,_,_,_=>False
 | .hv _,_,_,_=>False
 | .al _,_,_,_=>False
 | .po _ _ _ _,_,_,_=>False
def DS(bw:Bool):List AV→List AV→List AV→(List AV→Prop)→Prop
 |[],regs,azs,K=>match azs with
  |[]=>K regs
  |_::_=>False
 |e::es,regs,azs,K=>match azs with
  |[]=>False
  |a::azs=>DR bw e regs a (fun regs'=>DS bw es regs' azs K)
end
theorem Jy{Z:FP}{w:World}{i j sz sz':Nat}{α α':Type}{f:α→List AV}{f':α'→List AV}{xs:List α}{xs':List α'}{v:Value}{S:FP}{own:Bool}
 (he:AV.sl own 0 sz' α' f' xs'=AV.sl own 0 sz α f xs) (h:Ai Z w (.sl own i sz' α' f' xs') v S):Ai Z w (.sl own j sz α f xs) v S:=by
 injection he with _ _ h1 h2 h3 h4
 subst h1;subst h2
 have h3:=eq_of_heq h3;have h4:=eq_of_heq h4
 subst h3;subst h4
 simpa only[Ai] using h
structure Handed (Z Z':FP) (S A B:FP):Prop where
 zz:∀b,Z' b→Z b
 gone:∀b,Z b→¬Z' b→S b
 part:∀b,A b∨B b→S b
 dis:∀b,A b→B b→False
 ownA:∀b,A b→Z b→Z' b
structure HOut (bw:Bool) (Z:FP) (η:Nat→Value) (w:World) (n:Nat) (vs:List Value) (S A:FP) (R:FP→FP→Prop) (K:List AV→Prop) (regs0:List AV)
 (Z' A' B':FP) (regs':List AV):Prop where
 rel:Al Z' η w regs' vs B'
 ids:AX n regs'
 got:R Z' A'
 zz:∀b,Z' b→Z b
 gone:∀b,Z b→¬Z' b→S b
 part:∀b,A' b∨B' b→S b
 dis:∀b,A' b→B' b→False
 ownA:∀b,A' b→Z b→Z' b
 ownB:bw=false→∀b,B' b→Z b→Z' b
 stay:bw=true→∀b,A' b→A b
 fix:bw=true→regs'=regs0
 k:K regs'
theorem HG{Z Z':FP}{w:World}(h:∀b,Z' b→Z b):∀b,¬Z b→b<w.heap.size→¬Z' b∧w.heap[b]? =w.heap[b]? :=fun b hb _=>⟨fun x=>hb (h b x),rfl⟩
theorem HOut.same{bw:Bool}{Z:FP}{η:Nat→Value}{w:World}{n:Nat}{vs:List Value}{S A B:FP}{R:FP→FP→Prop}{K:List AV→Prop}{regs:List AV}
 (hj:Bl S A B) (hR:Al Z η w regs vs B) (hI:AX n regs) {A':FP} (hA:∀b,A' b→A b) (hr:R Z A') (k:K regs):HOut bw Z η w n vs S A R K regs Z A' B regs:=
 ⟨hR,hI,hr,fun _ h=>h,fun _ h h'=>(h' h).elim,fun b h=>(hj.1 b).2 (h.imp (hA b) id),fun b x y=>hj.2 b (hA b x) y,fun _ _ h=>h,fun _ _ _ h=>h,fun _=>hA,fun _=>rfl,k⟩
theorem UX{Z:FP}{η:Nat→Value}{w:World}{own:Bool}{id sz:Nat}{α:Type}{f:α→List AV}{xs:List α}{v:Value}{A:FP}{i:Nat}{own':Bool}
 (h:Ad Z η w (.sl own i sz α f xs) v A):
 Ai (fun b=>Z b∧¬A b) w (.sl false 0 sz α (fun x=>fzL (f x)) xs) v (fun _=>False):=by
 simp only[Ad] at h
 have:=ZR (Z:=Z) (Z':=fun b=>Z b∧¬A b) (fun b hb x=>hb x.1) _ _ _ (fun b hb x=>x.2 hb) h.2
 simpa only[fz] using this
mutual
theorem ZV{bw:Bool}{η:Nat→Value}{w:World}{n:Nat}:∀(e:AV) (regs:List AV) (a:AV) (K:List AV→Prop),DR bw e regs a K→
 ∀(Z:FP) (vs:List Value) (v:Value) (B A S:FP),Al Z η w regs vs B→AX n regs→Ad Z η w a v A→Av n a→Bl S A B→
 ∃Z' A' B' regs',HOut bw Z η w n vs S A (fun Z' A'=>Ai Z' w e v A') K regs Z' A' B' regs'
 | .int k m,regs,a,K,h,Z,vs,v,B,A,S,hR,hI,ha,hai,hj=>by
   unfold DR at h;split at h
   ·rename_i k' m'
    split at h
    ·rename_i hk;have hk:=QV hk;subst hk
     obtain⟨rfl,h⟩:=h
     exact⟨_,_,_,_,HOut.same hj hR hI (fun _ h=>h) (by simpa only[Ad] using ha) h⟩
    ·exact h.elim
   ·exact h.elim
 | .bool b,regs,a,K,h,Z,vs,v,B,A,S,hR,hI,ha,hai,hj=>by
   unfold DR at h;split at h
   ·obtain⟨rfl,h⟩:=h
    exact⟨_,_,_,_,HOut.same hj hR hI (fun _ h=>h) (by simpa only[Ad] using ha) h⟩
   ·exact h.elim
 | .str l,regs,a,K,h,Z,vs,v,B,A,S,hR,hI,ha,hai,hj=>by
   unfold DR at h;split at h
   ·obtain⟨rfl,h⟩:=h
    exact⟨_,_,_,_,HOut.same hj hR hI (fun _ h=>h) (by simpa only[Ad] using ha) h⟩
   ·exact h.elim
 | .val x,regs,a,K,h,Z,vs,v,B,A,S,hR,hI,ha,hai,hj=>by
   unfold DR at h;split at h
   ·obtain⟨rfl,h⟩:=h
    exact⟨_,_,_,_,HOut.same hj hR hI (fun _ h=>h) (by simpa only[Ad] using ha) h⟩
   ·exact h.elim
 | .nil,regs,a,K,h,Z,vs,v,B,A,S,hR,hI,ha,hai,hj=>by
   unfold DR at h;split at h
   ·exact⟨_,_,_,_,HOut.same hj hR hI (fun _ h=>h) (by simpa only[Ad] using ha) h⟩
   ·exact h.elim
 | .any,regs,a,K,h,Z,vs,v,B,A,S,hR,hI,ha,hai,hj=>by
   unfold DR at h;split at h
   ·rename_i hl
    refine⟨_,_,_,_,HOut.same hj hR hI (A':=fun _=>False) (fun _ h=>h.elim) ?_ h⟩
    simp only[Ai];exact⟨Uv ha hl,AP⟩
   ·exact h.elim
 | .top,regs,a,K,h,Z,vs,v,B,A,S,hR,hI,ha,hai,hj=>by
   unfold DR at h
   refine⟨_,_,_,_,HOut.same hj hR hI (A':=fun _=>False) (fun _ h=>h.elim) ?_ h⟩
   simp only[Ai];exact AP
 | .agg es,regs,a,K,h,Z,vs,v,B,A,S,hR,hI,ha,hai,hj=>by
   unfold DR at h;split at h
   ·rename_i azs
    simp only[Ad] at ha
    simp only[Av] at hai
    obtain⟨cs,e,ha⟩:=ha
    obtain⟨Z',A',B',regs',ho⟩:=Gu es regs azs K h Z vs cs B A S hR hI ha hai hj
    exact⟨Z',A',B',regs',⟨ho.rel,ho.ids,by simp only[Ai];exact⟨cs,e,ho.got⟩,ho.zz,ho.gone,ho.part,ho.dis,ho.ownA,ho.ownB,ho.stay,ho.fix,ho.k⟩⟩
   ·exact h.elim
 | .tup es,regs,a,K,h,Z,vs,v,B,A,S,hR,hI,ha,hai,hj=>by
   unfold DR at h;split at h
   ·rename_i azs
    simp only[Ad] at ha
    simp only[Av] at hai
    obtain⟨cs,e,ha⟩:=ha
    obtain⟨Z',A',B',regs',ho⟩:=Gu es regs azs K h Z vs cs B A S hR hI ha hai hj
    exact⟨Z',A',B',regs',⟨ho.rel,ho.ids,by simp only[Ai];exact⟨cs,e,ho.got⟩,ho.zz,ho.gone,ho.part,ho.dis,ho.ownA,ho.ownB,ho.stay,ho.fix,ho.k⟩⟩
   ·exact h.elim
 | .clo fn es,regs,a,K,h,Z,vs,v,B,A,S,hR,hI,ha,hai,hj=>by
   unfold DR at h;split at h
   ·rename_i fn' azs
    split at h
    rotate_left
    ·exact h.elim
    rename_i hfe
    obtain rfl:=UW hfe
    simp only[Ad] at ha
    simp only[Av] at hai
    obtain⟨cs,e,ha⟩:=ha
    obtain⟨Z',A',B',regs',ho⟩:=Gu es regs azs K h Z vs cs B A S hR hI ha hai hj
    exact⟨Z',A',B',regs',⟨ho.rel,ho.ids,by simp only[Ai];exact⟨cs,e,ho.got⟩,ho.zz,ho.gone,ho.part,ho.dis,ho.ownA,ho.ownB,ho.stay,ho.fix,ho.k⟩⟩
   ·exact h.elim
 | .pf c,regs,a,K,h,Z,vs,v,B,A,S,hR,hI,ha,hai,hj=>by
   unfold DR at h;split at h
   ·obtain⟨he,h⟩:=h
    rw[he] at ha
    exact⟨_,_,_,_,HOut.same hj hR hI (fun _ h=>h) (by simpa only[Ad] using ha) h⟩
   ·rename_i id
    split at h
    ·split at h
     ·rename_i i c' ho
      split at h
      ·rename_i hp
       obtain⟨he,h⟩:=h
       obtain⟨A1,hA1,hio,hro⟩:=EM regs vs B _ hR ho
       simp only[Ad] at ha
       have hS:S=B:=Es (GQ hj ha.2.2)
       subst hS
       have hfr:=ZU hp hro
       have hzz:∀b,(Z b∧¬A1 b)→Z b:=fun b h=>h.1
       refine⟨fun b=>Z b∧¬A1 b,fun _=>False,S,regs,⟨CJ (HG hzz) (fun _ _=>rfl) _ _ _ hI (fun _ _=>rfl) hR,hI,?_,hzz,?_,?_,fun _ h=>h.elim,fun _ h=>h.elim,(fun hh=>by simp at hh),(fun _ _ h=>h.elim),(fun _=>rfl),h⟩⟩
       ·rw[ha.1,←he];exact hfr
       ·intro b h1 h2
        exact Classical.byContradiction fun hn=>h2 ⟨h1,fun x=>hn (hA1 b x)⟩
       ·intro b hb;exact hb.resolve_left (fun x=>x)
      ·exact h.elim
     ·exact h.elim
    ·split at h
     ·rename_i i c' regs' ht
      split at h
      ·rename_i hp
       obtain⟨he,h⟩:=h
       obtain⟨A1,B1,hj1,hio,hro,hrr⟩:=EN regs vs B _ _ hR ht
       obtain⟨h1,h2,h3⟩:=Fx regs _ _ hI ht
       simp only[Ad] at ha
       have hS:S=B:=Es (GQ hj ha.2.2)
       subst hS
       have hfr:=ZU hp hro
       have hzz:∀b,(Z b∧¬A1 b)→Z b:=fun b h=>h.1
       have hrr':=CJ (HG (w:=w) hzz) (fun _ _=>rfl) _ _ _ h3 (fun _ _=>rfl) hrr
       refine⟨fun b=>Z b∧¬A1 b,fun _=>False,B1,_,⟨Kn ?_ _ _ _ hrr',Ko ?_ _ h3,?_,hzz,?_,?_,fun _ h=>h.elim,fun _ h=>h.elim,?_,(fun _ _ h=>h.elim),(fun hbw=>by cases hbw),h⟩⟩
       ·simp only[Ad];exact hfr
       ·trivial
       ·rw[ha.1,←he];exact hfr
       ·intro b h1 h2
        refine(hj1.1 b).2 (.inl ?_)
        exact Classical.byContradiction fun hn=>h2 ⟨h1,hn⟩
       ·intro b hb;exact(hj1.1 b).2 (.inr (hb.resolve_left (fun x=>x)))
       ·intro _ b hb hz;exact⟨hz,fun x=>hj1.2 b x hb⟩
      ·exact h.elim
     ·exact h.elim
   ·exact h.elim
 | .box j c,regs,a,K,h,Z,vs,v,B,A,S,hR,hI,ha,hai,hj=>by
   have core:∀(regs:List AV) (c':List AV) (i:Nat) (v:Value) (B A S:FP),DS bw c regs c' K→Al Z η w regs vs B→AX n regs→Ad Z η w (.box i c') v A→Av n (.box i c')→Bl S A B→
    ∃Z' A' B' regs',HOut bw Z η w n vs S A (fun Z' A'=>Ai Z' w (.box j c) v A') K regs Z' A' B' regs':=by
    intro regs c' i v B A S h hR hI ha hai hj
    simp only[Ad] at ha
    simp only[Av] at hai
    obtain⟨e0,b,arr,ty,S1,e,hb,hr,hj2⟩:=ha
    obtain⟨Z',A',B',regs',ho⟩:=Gu c regs c' K h Z vs arr.toList B S1 (fun x=>S1 x∨B x) hR hI hr hai.2 ⟨fun _=>Iff.rfl,fun x p q=>hj.2 x ((hj2.1 x).2 (.inr p)) q⟩
    have hbA:A b:=(hj2.1 b).2 (.inl rfl)
    have hnot:¬(S1 b∨B b):=fun x=>x.elim (fun x=>hj2.2 b rfl x) (fun x=>hj.2 b hbA x)
    refine⟨Z',fun x=>x=b∨A' x,B',regs',⟨ho.rel,ho.ids,?_,ho.zz,?_,?_,?_,?_,ho.ownB,?_,ho.fix,ho.k⟩⟩
    ·simp only[Ai]
     exact⟨b,arr,ty,A',e,hb,ho.got,⟨fun x=>Iff.rfl,fun x p q=>hnot (by have:=ho.part x (.inl q);rw[p] at this;exact this)⟩⟩
    ·intro x hx hx'
     have:=ho.gone x hx hx'
     exact(hj.1 x).2 (this.imp (fun p=>(hj2.1 x).2 (.inr p)) id)
    ·intro x hx
     rcases hx with(hx|hx)|hx
     ·subst hx;exact(hj.1 x).2 (.inl hbA)
     ·exact(hj.1 x).2 ((ho.part x (.inl hx)).imp (fun p=>(hj2.1 x).2 (.inr p)) id)
     ·exact(hj.1 x).2 ((ho.part x (.inr hx)).imp (fun p=>(hj2.1 x).2 (.inr p)) id)
    ·intro x hx hy
     rcases hx with hx|hx
     ·subst hx;exact hnot (ho.part x (.inr hy))
     ·exact ho.dis x hx hy
    ·intro x hx hz
     rcases hx with hx|hx
     ·subst hx
      exact Classical.byContradiction fun hn=>hnot (ho.gone x hz hn)
     ·exact ho.ownA x hx hz
    ·intro hbw x hx
     rcases hx with hx|hx
     ·subst hx;exact hbA
     ·exact(hj2.1 x).2 (.inr (ho.stay hbw x hx))
   have coreV:∀(regs:List AV) (c':List AV) (x:Value) (v:Value) (B A S:FP),DS bw c regs c' K→Al Z η w regs vs B→AX n regs→Ad Z η w (.bv x c') v A→AX n c'→Bl S A B→
    ∃Z' A' B' regs',HOut bw Z η w n vs S A (fun Z' A'=>Ai Z' w (.box j c) v A') K regs Z' A' B' regs':=by
    intro regs c' x v B A S h hR hI ha hai hj
    simp only[Ad] at ha
    obtain⟨e0,b,arr,ty,S1,e,hb,hr,hj2⟩:=ha
    obtain⟨Z',A',B',regs',ho⟩:=Gu c regs c' K h Z vs arr.toList B S1 (fun x=>S1 x∨B x) hR hI hr hai ⟨fun _=>Iff.rfl,fun x p q=>hj.2 x ((hj2.1 x).2 (.inr p)) q⟩
    have hbA:A b:=(hj2.1 b).2 (.inl rfl)
    have hnot:¬(S1 b∨B b):=fun x=>x.elim (fun x=>hj2.2 b rfl x) (fun x=>hj.2 b hbA x)
    refine⟨Z',fun x=>x=b∨A' x,B',regs',⟨ho.rel,ho.ids,?_,ho.zz,?_,?_,?_,?_,ho.ownB,?_,ho.fix,ho.k⟩⟩
    ·simp only[Ai]
     exact⟨b,arr,ty,A',e,hb,ho.got,⟨fun x=>Iff.rfl,fun x p q=>hnot (by have:=ho.part x (.inl q);rw[p] at this;exact this)⟩⟩
    ·intro x hx hx'
     have:=ho.gone x hx hx'
     exact(hj.1 x).2 (this.imp (fun p=>(hj2.1 x).2 (.inr p)) id)
    ·intro x hx
     rcases hx with(hx|hx)|hx
     ·subst hx;exact(hj.1 x).2 (.inl hbA)
     ·exact(hj.1 x).2 ((ho.part x (.inl hx)).imp (fun p=>(hj2.1 x).2 (.inr p)) id)
     ·exact(hj.1 x).2 ((ho.part x (.inr hx)).imp (fun p=>(hj2.1 x).2 (.inr p)) id)
    ·intro x hx hy
     rcases hx with hx|hx
     ·subst hx;exact hnot (ho.part x (.inr hy))
     ·exact ho.dis x hx hy
    ·intro x hx hz
     rcases hx with hx|hx
     ·subst hx
      exact Classical.byContradiction fun hn=>hnot (ho.gone x hz hn)
     ·exact ho.ownA x hx hz
    ·intro hbw x hx
     rcases hx with hx|hx
     ·subst hx;exact hbA
     ·exact(hj2.1 x).2 (.inr (ho.stay hbw x hx))
   unfold DR at h;split at h
   ·rename_i i c'
    exact core regs c' i v B A S h hR hI ha hai hj
   ·rename_i id
    split at h
    ·exact h.elim
    ·split at h
     ·rename_i i c' regs' ht
      obtain⟨A1,B1,hj1,hio,hro,hrr⟩:=EN regs vs B _ _ hR ht
      obtain⟨h1,h2,h3⟩:=Fx regs _ _ hI ht
      simp only[Ad] at ha
      have hro':=hro
      simp only[Ad] at hro'
      obtain⟨_,b,arr,ty,S1,e,_⟩:=hro'
      have hv:v=η id:=ha.1
      rw[←hv] at hro
      obtain⟨Z',A',B',regs2,ho⟩:=core regs' c' i v B1 A1 S h hrr h3 hro h2 (by
       rw[show S=B from Es (GQ hj ha.2.2)];exact hj1)
      exact⟨Z',A',B',regs2,ho.rel,ho.ids,ho.got,ho.zz,ho.gone,ho.part,ho.dis,ho.ownA,ho.ownB,(fun hbw=>by cases hbw),(fun hbw=>by cases hbw),ho.k⟩
     ·exact h.elim
   ·rename_i u
    split at h
    ·exact h.elim
    ·split at h
     ·rename_i x c' regs' ht
      obtain⟨hxv,h⟩:=h
      obtain⟨A1,B1,hj1,hro,hrr⟩:=Nf regs vs B _ _ _ hR ht
      obtain⟨h2,h3⟩:=Ng regs _ _ _ hI ht
      simp only[Ad,Ai] at ha
      have hv:v=x:=by rw[ha.1,hxv]
      rw[←hv] at hro
      obtain⟨Z',A',B',regs2,ho⟩:=coreV regs' c' v v B1 A1 S h hrr h3 hro h2 (by
       rw[show S=B from Es (GQ hj ha.2.2)];exact hj1)
      exact⟨Z',A',B',regs2,ho.rel,ho.ids,ho.got,ho.zz,ho.gone,ho.part,ho.dis,ho.ownA,ho.ownB,(fun hbw=>by cases hbw),(fun hbw=>by cases hbw),ho.k⟩
     ·exact h.elim
   ·exact h.elim
 | .bv y c,regs,a,K,h,Z,vs,v,B,A,S,hR,hI,ha,hai,hj=>by
   have core:∀(regs:List AV) (c':List AV) (v:Value) (B A S:FP),DS bw c regs c' K→Al Z η w regs vs B→AX n regs→Ad Z η w (.bv y c') v A→AX n c'→Bl S A B→
    ∃Z' A' B' regs',HOut bw Z η w n vs S A (fun Z' A'=>Ai Z' w (.bv y c) v A') K regs Z' A' B' regs':=by
    intro regs c' v B A S h hR hI ha hai hj
    simp only[Ad] at ha
    obtain⟨e0,b,arr,ty,S1,e,hb,hr,hj2⟩:=ha
    obtain⟨Z',A',B',regs',ho⟩:=Gu c regs c' K h Z vs arr.toList B S1 (fun x=>S1 x∨B x) hR hI hr hai ⟨fun _=>Iff.rfl,fun x p q=>hj.2 x ((hj2.1 x).2 (.inr p)) q⟩
    have hbA:A b:=(hj2.1 b).2 (.inl rfl)
    have hnot:¬(S1 b∨B b):=fun x=>x.elim (fun x=>hj2.2 b rfl x) (fun x=>hj.2 b hbA x)
    refine⟨Z',fun x=>x=b∨A' x,B',regs',⟨ho.rel,ho.ids,?_,ho.zz,?_,?_,?_,?_,ho.ownB,?_,ho.fix,ho.k⟩⟩
    ·simp only[Ai]
     exact⟨e0,b,arr,ty,A',e,hb,ho.got,⟨fun x=>Iff.rfl,fun x p q=>hnot (by have:=ho.part x (.inl q);rw[p] at this;exact this)⟩⟩
    ·intro x hx hx'
     have:=ho.gone x hx hx'
     exact(hj.1 x).2 (this.imp (fun p=>(hj2.1 x).2 (.inr p)) id)
    ·intro x hx
     rcases hx with(hx|hx)|hx
     ·subst hx;exact(hj.1 x).2 (.inl hbA)
     ·exact(hj.1 x).2 ((ho.part x (.inl hx)).imp (fun p=>(hj2.1 x).2 (.inr p)) id)
     ·exact(hj.1 x).2 ((ho.part x (.inr hx)).imp (fun p=>(hj2.1 x).2 (.inr p)) id)
    ·intro x hx hy
     rcases hx with hx|hx
     ·subst hx;exact hnot (ho.part x (.inr hy))
     ·exact ho.dis x hx hy
    ·intro x hx hz
     rcases hx with hx|hx
     ·subst hx
      exact Classical.byContradiction fun hn=>hnot (ho.gone x hz hn)
     ·exact ho.ownA x hx hz
    ·intro hbw x hx
     rcases hx with hx|hx
     ·subst hx;exact hbA
     ·exact(hj2.1 x).2 (.inr (ho.stay hbw x hx))
   unfold DR at h;split at h
   ·rename_i x c'
    obtain⟨rfl,h⟩:=h
    exact core regs c' v B A S h hR hI ha (by simpa only[Av] using hai) hj
   ·rename_i u
    split at h
    ·exact h.elim
    ·split at h
     ·rename_i x c' regs' ht
      obtain⟨⟨hxv,rfl⟩,h⟩:=h
      obtain⟨A1,B1,hj1,hro,hrr⟩:=Nf regs vs B _ _ _ hR ht
      obtain⟨h2,h3⟩:=Ng regs _ _ _ hI ht
      simp only[Ad,Ai] at ha
      have hv:v=x:=by rw[ha.1,hxv]
      have hro':Ad Z η w (.bv x c') v A1:=by rw[hv];exact hro
      obtain⟨Z',A',B',regs2,ho⟩:=core regs' c' v B1 A1 S h hrr h3 hro' h2 (by
       rw[show S=B from Es (GQ hj ha.2.2)];exact hj1)
      exact⟨Z',A',B',regs2,ho.rel,ho.ids,ho.got,ho.zz,ho.gone,ho.part,ho.dis,ho.ownA,ho.ownB,(fun hbw=>by cases hbw),(fun hbw=>by cases hbw),ho.k⟩
     ·exact h.elim
   ·exact h.elim
 | .hv _,regs,a,K,h,Z,vs,v,B,A,S,hR,hI,ha,hai,hj=>by unfold DR at h;exact h.elim
 | .sl true j sz α f xs,regs,a,K,h,Z,vs,v,B,A,S,hR,hI,ha,hai,hj=>by
   unfold DR at h;split at h
   ·obtain⟨rfl,h⟩:=h
    refine⟨_,_,_,_,HOut.same hj hR hI (fun _ h=>h) ?_ h⟩
    simp only[Ad,Ai] at ha ⊢
    refine⟨none,0,0,ha.1,rfl,Nat.le_refl _,.inl ⟨trivial,.inl ⟨rfl,rfl,ha.2⟩⟩⟩
   ·obtain⟨he,h⟩:=h
    refine⟨_,_,_,_,HOut.same hj hR hI (fun _ h=>h) ?_ h⟩
    simp only[Ad] at ha
    exact Jy he ha.2
   ·rename_i id
    split at h
    ·exact h.elim
    ·split at h
     ·rename_i i sz' α' f' xs' regs' ht
      obtain⟨he,h⟩:=h
      obtain⟨A1,B1,hj1,hio,hro,hrr⟩:=EN regs vs B _ _ hR ht
      obtain⟨h1,h2,h3⟩:=Fx regs _ _ hI ht
      simp only[Ad] at ha hro
      have hS:S=B:=Es (GQ hj ha.2.2)
      subst hS
      have hg:Ai Z w (.sl true j sz α f xs) v A1:=by rw[ha.1];exact Jy he hro.2
      have ho:=HOut.same (bw:=false) (R:=fun Z' A'=>Ai Z' w (.sl true j sz α f xs) v A') (K:=K) hj1 hrr h3 (fun _ h=>h) hg h
      exact⟨Z,A1,B1,regs',ho.rel,ho.ids,ho.got,ho.zz,ho.gone,ho.part,ho.dis,ho.ownA,ho.ownB,(fun hbw=>by cases hbw),(fun hbw=>by cases hbw),ho.k⟩
     ·exact h.elim
   ·exact h.elim
 | .sl false j sz α f xs,regs,a,K,h,Z,vs,v,B,A,S,hR,hI,ha,hai,hj=>by
   unfold DR at h;split at h
   ·obtain⟨rfl,h⟩:=h
    refine⟨_,_,_,_,HOut.same hj hR hI (fun _ h=>h) ?_ h⟩
    simp only[Ad,Ai] at ha ⊢
    refine⟨none,0,0,ha.1,rfl,Nat.le_refl _,.inr ⟨trivial,ha.2,.inl trivial⟩⟩
   ·obtain⟨he,h⟩:=h
    refine⟨_,_,_,_,HOut.same hj hR hI (fun _ h=>h) ?_ h⟩
    simp only[Ad] at ha
    exact Jy he ha.2
   ·obtain⟨he,h⟩:=h
    have hfr:=UX (id:=0) (own':=true) ha
    have hzz:∀b,(Z b∧¬A b)→Z b:=fun b h=>h.1
    refine⟨fun b=>Z b∧¬A b,fun _=>False,B,regs,⟨CJ (HG hzz) (fun _ _=>rfl) _ _ _ hI (fun _ _=>rfl) hR,hI,Jy he hfr,hzz,?_,?_,fun _ h=>h.elim,fun _ h=>h.elim,?_,(fun _ _ h=>h.elim),(fun _=>rfl),h⟩⟩
    ·intro b h1 h2
     refine(hj.1 b).2 (.inl ?_)
     exact Classical.byContradiction fun hn=>h2 ⟨h1,hn⟩
    ·intro b hb;exact(hj.1 b).2 (.inr (hb.resolve_left id))
    ·intro _ b hb hz;exact⟨hz,fun x=>hj.2 b x hb⟩
   ·rename_i id
    split at h
    ·split at h
     ·rename_i i sz' α' f' xs' ho
      obtain⟨he,h⟩:=h
      obtain⟨A1,hA1,hio,hro⟩:=EM regs vs B _ hR ho
      simp only[Ad] at ha
      have hS:S=B:=Es (GQ hj ha.2.2)
      subst hS
      have hfr:=UX (id:=0) (own':=true) hro
      have hzz:∀b,(Z b∧¬A1 b)→Z b:=fun b h=>h.1
      refine⟨fun b=>Z b∧¬A1 b,fun _=>False,S,regs,⟨CJ (HG hzz) (fun _ _=>rfl) _ _ _ hI (fun _ _=>rfl) hR,hI,?_,hzz,?_,?_,fun _ h=>h.elim,fun _ h=>h.elim,(fun hh=>by simp at hh),(fun _ _ h=>h.elim),(fun _=>rfl),h⟩⟩
      ·rw[ha.1];exact Jy he hfr
      ·intro b h1 h2
       exact Classical.byContradiction fun hn=>h2 ⟨h1,fun x=>hn (hA1 b x)⟩
      ·intro b hb;exact hb.resolve_left (fun x=>x)
     ·exact h.elim
    ·split at h
     ·rename_i i sz' α' f' xs' regs' ht
      obtain⟨he,h⟩:=h
      obtain⟨A1,B1,hj1,hio,hro,hrr⟩:=EN regs vs B _ _ hR ht
      obtain⟨h1,h2,h3⟩:=Fx regs _ _ hI ht
      simp only[Ad] at ha
      have hS:S=B:=Es (GQ hj ha.2.2)
      subst hS
      have hfr:=UX (id:=0) (own':=true) hro
      have hzz:∀b,(Z b∧¬A1 b)→Z b:=fun b h=>h.1
      have hrr':=CJ (HG (w:=w) hzz) (fun _ _=>rfl) _ _ _ h3 (fun _ _=>rfl) hrr
      refine⟨fun b=>Z b∧¬A1 b,fun _=>False,B1,_,⟨Kn ?_ _ _ _ hrr',Ko ?_ _ h3,?_,hzz,?_,?_,fun _ h=>h.elim,fun _ h=>h.elim,?_,(fun _ _ h=>h.elim),(fun hbw=>by cases hbw),h⟩⟩
      ·simp only[Ad];exact⟨(fun o=>by cases o),hfr⟩
      ·simp only[Av];intro o;cases o
      ·rw[ha.1];exact Jy he hfr
      ·intro b h1 h2
       refine(hj1.1 b).2 (.inl ?_)
       exact Classical.byContradiction fun hn=>h2 ⟨h1,hn⟩
      ·intro b hb;exact(hj1.1 b).2 (.inr (hb.resolve_left (fun x=>x)))
      ·intro _ b hb hz;exact⟨hz,fun x=>hj1.2 b x hb⟩
     ·exact h.elim
   ·exact h.elim
 | .hole _,regs,a,K,h,Z,vs,v,B,A,S,hR,hI,ha,hai,hj=>by unfold DR at h;exact h.elim
 | .al _,regs,a,K,h,Z,vs,v,B,A,S,hR,hI,ha,hai,hj=>by unfold DR at h;exact h.elim
 | .po _ _ _ _,regs,a,K,h,Z,vs,v,B,A,S,hR,hI,ha,hai,hj=>by unfold DR at h;exact h.elim
theorem Gu{bw:Bool}{η:Nat→Value}{w:World}{n:Nat}:∀(es:List AV) (regs:List AV) (azs:List AV) (K:List AV→Prop),DS bw es regs azs K→
 ∀(Z:FP) (vs:List Value) (us:List Value) (B A S:FP),Al Z η w regs vs B→AX n regs→Al Z η w azs us A→AX n azs→Bl S A B→
 ∃Z' A' B' regs',HOut bw Z η w n vs S A (fun Z' A'=>AS Z' w es us A') K regs Z' A' B' regs'
 |[],regs,azs,K,h,Z,vs,us,B,A,S,hR,hI,ha,hai,hj=>by
  unfold DS at h
  split at h
  ·simp only[Al] at ha
   refine⟨_,_,_,_,HOut.same hj hR hI (fun _ h=>h) ?_ h⟩
   simp only[AS];exact ha
  ·exact h.elim
 |e::es,regs,azs,K,h,Z,vs,us,B,A,S,hR,hI,ha,hai,hj=>by
  unfold DS at h
  split at h
  ·exact h.elim
  ·rename_i a azs
   simp only[Al] at ha
   simp only[AX] at hai
   obtain⟨v,us',A1,A2,eu,hj2,ha1,ha2⟩:=ha
   obtain⟨Z1,A1',B1',regs1,h1⟩:=ZV e regs a _ h Z vs v B A1 (fun x=>A1 x∨B x) hR hI ha1 hai.1
    ⟨fun _=>Iff.rfl,fun x p q=>hj.2 x ((hj2.1 x).2 (.inl p)) q⟩
   have ha2':=CJ (HG (w:=w) h1.zz) (fun _ _=>rfl) _ _ _ hai.2 (fun _ _=>rfl) ha2
   have hd:∀x,A2 x→¬(A1 x∨B x):=fun x p q=>q.elim (fun q=>hj2.2 x q p) (fun q=>hj.2 x ((hj2.1 x).2 (.inr p)) q)
   obtain⟨Z2,A2',B2',regs2,h2⟩:=Gu es regs1 azs K h1.k Z1 vs us' B1' A2 (fun x=>A2 x∨B1' x) h1.rel h1.ids ha2' hai.2
    ⟨fun _=>Iff.rfl,fun x p q=>hd x p (h1.part x (.inr q))⟩
   have hsub:∀x,A1 x∨B x→S x:=fun x p=>(hj.1 x).2 (p.imp (fun p=>(hj2.1 x).2 (.inl p)) id)
   have hsub2:∀x,A2 x∨B1' x→S x:=fun x p=>p.elim (fun p=>(hj.1 x).2 (.inl ((hj2.1 x).2 (.inr p)))) (fun p=>hsub x (h1.part x (.inr p)))
   have hx:∀x,A1' x→¬(A2 x∨B1' x):=fun x p q=>q.elim (fun q=>hd x q (h1.part x (.inl p))) (fun q=>h1.dis x p q)
   refine⟨Z2,fun x=>A1' x∨A2' x,B2',regs2,⟨h2.rel,h2.ids,?_,fun b hb=>h1.zz b (h2.zz b hb),?_,?_,?_,?_,?_,?_,(fun hbw=>by rw[h2.fix hbw,h1.fix hbw]),h2.k⟩⟩
   ·simp only[AS]
    refine⟨v,us',A1',A2',eu,⟨fun _=>Iff.rfl,fun x p q=>hx x p (h2.part x (.inl q))⟩,?_,h2.got⟩
    exact Fu (HG h2.zz) _ _ _ (fun _ _=>rfl) h1.got
   ·intro b hz hz2
    by_cases hz1:Z1 b
    ·exact hsub2 b (h2.gone b hz1 hz2)
    ·exact hsub b (h1.gone b hz hz1)
   ·intro b hb
    rcases hb with(hb|hb)|hb
    ·exact hsub b (h1.part b (.inl hb))
    ·exact hsub2 b (h2.part b (.inl hb))
    ·exact hsub2 b (h2.part b (.inr hb))
   ·intro b hb hc
    rcases hb with hb|hb
    ·exact hx b hb (h2.part b (.inr hc))
    ·exact h2.dis b hb hc
   ·intro b hb hz
    rcases hb with hb|hb
    ·have hz1:=h1.ownA b hb hz
     exact Classical.byContradiction fun hn=>hx b hb (h2.gone b hz1 hn)
    ·have hz1:Z1 b:=Classical.byContradiction fun hn=>by
      have:=h1.gone b hz hn
      rcases Bool.eq_false_or_eq_true bw with hbw|hbw
      ·exact hd b (h2.stay hbw b hb) this
      ·rcases h2.part b (.inl hb) with hq|hq
       ·exact hd b hq this
       ·exact hn (h1.ownB hbw b hq hz)
     exact h2.ownA b hb hz1
   ·intro hbw b hb hz
    have hz1:Z1 b:=Classical.byContradiction fun hn=>by
     have:=h1.gone b hz hn
     rcases h2.part b (.inr hb) with hq|hq
     ·exact hd b hq this
     ·exact hn (h1.ownB hbw b hq hz)
    exact h2.ownB hbw b hb hz1
   ·intro hbw b hb
    rcases hb with hb|hb
    ·exact(hj2.1 b).2 (.inl (h1.stay hbw b hb))
    ·exact(hj2.1 b).2 (.inr (h2.stay hbw b hb))
end
mutual
def Ew(n:Nat):AV→AV×Nat
 | .sl true _ sz α f xs=>(.sl true n sz α f xs,n+1)
 | .box _ c=>(.box n (Cu (n+1) c).1,(Cu (n+1) c).2)
 | .bv x c=>(.bv x (Cu n c).1,(Cu n c).2)
 | .agg fs=>(.agg (Cu n fs).1,(Cu n fs).2)
 | .tup fs=>(.tup (Cu n fs).1,(Cu n fs).2)
 | .clo fn fs=>(.clo fn (Cu n fs).1,(Cu n fs).2)
 |a=>(a,n)
def Cu(n:Nat):List AV→List AV×Nat
 |[]=>([],n)
 |a::azs=>((Ew n a).1::(Cu (Ew n a).2 azs).1,(Cu (Ew n a).2 azs).2)
end
mutual
theorem ZW{Z:FP}{w:World}:∀(a:AV) (n:Nat) (v:Value) (S:FP) (η:Nat→Value),Ai Z w a v S→
 n≤(Ew n a).2∧Av (Ew n a).2 (Ew n a).1∧∃η':Nat→Value,(∀i,i<n→η' i=η i)∧(∀η'',(∀i,i<(Ew n a).2→η'' i=η' i)→Ad Z η'' w (Ew n a).1 v S)
 | .sl true j sz α f xs,n,v,S,η,h=>by
   refine⟨Nat.le_succ n,fun _=>Nat.lt_succ_self n,fun i=>if i=n then v else η i,fun i hi=>if_neg (by omega),fun η'' hη=> ?_⟩
   simp only[Ew,Ad]
   refine⟨fun _=> ?_,by simpa only[Ai] using h⟩
   rw[hη n (Nat.lt_succ_self n)];simp
 | .sl false j sz α f xs,n,v,S,η,h=>by
   refine⟨Nat.le_refl n,(fun o=>by cases o),η,fun _ _=>rfl,fun η'' hη=> ?_⟩
   simp only[Ew,Ad]
   exact⟨(fun o=>by cases o),h⟩
 | .box j c,n,v,S,η,h=>by
   simp only[Ai] at h
   obtain⟨b,arr,ty,S1,e,hb,hr,hj⟩:=h
   obtain⟨h1,h2,η',h3,h4⟩:=IX c (n+1) arr.toList S1 (fun i=>if i=n then v else η i) hr
   simp only[Ew,Av]
   refine⟨by omega,⟨by omega,h2⟩,η',fun i hi=>by rw[h3 i (by omega),if_neg (by omega)],fun η'' hη=> ?_⟩
   simp only[Ad]
   refine⟨?_,b,arr,ty,S1,e,hb,h4 η'' hη,hj⟩
   rw[hη n (by omega),h3 n (by omega)];simp
 | .bv x c,n,v,S,η,h=>by
   simp only[Ai] at h
   obtain⟨e0,b,arr,ty,S1,e,hb,hr,hj⟩:=h
   obtain⟨h1,h2,η',h3,h4⟩:=IX c n arr.toList S1 η hr
   simp only[Ew,Av]
   refine⟨h1,h2,η',h3,fun η'' hη=> ?_⟩
   simp only[Ad];exact⟨e0,b,arr,ty,S1,e,hb,h4 η'' hη,hj⟩
 | .hv _,n,v,S,η,h=>⟨Nat.le_refl n,trivial,η,fun _ _=>rfl,fun _ _=>h⟩
 | .agg fs,n,v,S,η,h=>by
   simp only[Ai] at h
   obtain⟨cs,e,hr⟩:=h
   obtain⟨h1,h2,η',h3,h4⟩:=IX fs n cs S η hr
   simp only[Ew,Av]
   refine⟨h1,h2,η',h3,fun η'' hη=> ?_⟩
   simp only[Ad];exact⟨cs,e,h4 η'' hη⟩
 | .tup fs,n,v,S,η,h=>by
   simp only[Ai] at h
   obtain⟨cs,e,hr⟩:=h
   obtain⟨h1,h2,η',h3,h4⟩:=IX fs n cs S η hr
   simp only[Ew,Av]
   refine⟨h1,h2,η',h3,fun η'' hη=> ?_⟩
   simp only[Ad];exact⟨cs,e,h4 η'' hη⟩
 | .clo fn fs,n,v,S,η,h=>by
   simp only[Ai] at h
   obtain⟨cs,e,hr⟩:=h
   obtain⟨h1,h2,η',h3,h4⟩:=IX fs n cs S η hr
   simp only[Ew,Av]
   refine⟨h1,h2,η',h3,fun η'' hη=> ?_⟩
   simp only[Ad];exact⟨cs,e,h4 η'' hη⟩
 | .int _ _,n,v,S,η,h=>⟨Nat.le_refl n,trivial,η,fun _ _=>rfl,fun _ _=>h⟩
 | .bool _,n,v,S,η,h=>⟨Nat.le_refl n,trivial,η,fun _ _=>rfl,fun _ _=>h⟩
 | .str _,n,v,S,η,h=>⟨Nat.le_refl n,trivial,η,fun _ _=>rfl,fun _ _=>h⟩
 | .val _,n,v,S,η,h=>⟨Nat.le_refl n,trivial,η,fun _ _=>rfl,fun _ _=>h⟩
 | .any,n,v,S,η,h=>⟨Nat.le_refl n,trivial,η,fun _ _=>rfl,fun _ _=>h⟩
 | .top,n,v,S,η,h=>⟨Nat.le_refl n,trivial,η,fun _ _=>rfl,fun _ _=>h⟩
 | .nil,n,v,S,η,h=>⟨Nat.le_refl n,trivial,η,fun _ _=>rfl,fun _ _=>h⟩
 | .pf _,n,v,S,η,h=>⟨Nat.le_refl n,trivial,η,fun _ _=>rfl,fun _ _=>h⟩
 | .hole _,n,v,S,η,h=>h.elim
 | .al _,n,v,S,η,h=>h.elim
 | .po _ _ _ _,n,v,S,η,h=>h.elim
theorem IX{Z:FP}{w:World}:∀(azs:List AV) (n:Nat) (cs:List Value) (S:FP) (η:Nat→Value),AS Z w azs cs S→
 n≤(Cu n azs).2∧AX (Cu n azs).2 (Cu n azs).1∧∃η':Nat→Value,(∀i,i<n→η' i=η i)∧(∀η'',(∀i,i<(Cu n azs).2→η'' i=η' i)→Al Z η'' w (Cu n azs).1 cs S)
 |[],n,cs,S,η,h=>⟨Nat.le_refl n,trivial,η,fun _ _=>rfl,fun _ _=>h⟩
 |a::azs,n,cs,S,η,h=>by
  simp only[AS] at h
  obtain⟨v,cs',A,B,e,hj,h1,h2⟩:=h
  obtain⟨a1,a2,η1,a3,a4⟩:=ZW a n v A η h1
  obtain⟨b1,b2,η2,b3,b4⟩:=IX azs (Ew n a).2 cs' B η1 h2
  simp only[Cu,AX]
  refine⟨by omega,⟨Zq b1 _ a2,b2⟩,η2,fun i hi=>by rw[b3 i (by omega),a3 i hi],fun η'' hη=> ?_⟩
  simp only[Al]
  exact⟨v,cs',A,B,e,hj,a4 η'' (fun i hi=>by rw[hη i (by omega),b3 i hi]),b4 η'' hη⟩
end
mutual
def Jz:AV→Prop
 | .sl true _ _ _ f _=>∀x,GV (f x)
 | .sl false _ _ _ _ _=>False
 | .pf _=>False
 | .box _ c=>GV c
 | .bv _ c=>GV c
 | .agg fs=>GV fs
 | .tup fs=>GV fs
 | .clo _ fs=>GV fs
 |_=>True
def GV:List AV→Prop
 |[]=>True
 |a::azs=>Jz a∧GV azs
end
mutual
theorem a8y{Z Z':FP}{w:World}:∀(a:AV) (v:Value) (S:FP),Jz a→Ai Z w a v S→Ai Z' w a v S
 | .sl true j sz α f xs,v,S,hc,h=>by
   simp only[Ai] at h ⊢
   simp only[Jz] at hc
   obtain⟨a,n,c,e,hn,hcc,h⟩:=h
   refine⟨a,n,c,e,hn,hcc,?_⟩
   rcases h with⟨ho,h⟩|⟨ho,_⟩
   ·refine .inl ⟨ho,?_⟩
    rcases h with h|⟨b,off,arr,ty,S1,ha,hb,hsz,hr,hj⟩
    ·exact .inl h
    ·exact .inr ⟨b,off,arr,ty,S1,ha,hb,hsz,IU xs _ S1 (fun x cs A hA hx=>Kp (f x) cs A (hc x) hx) hr,hj⟩
   ·cases ho
 | .sl false j sz α f xs,v,S,hc,h=>hc.elim
 | .pf _,v,S,hc,h=>hc.elim
 | .box j c,v,S,hc,h=>by
   simp only[Ai] at h ⊢
   simp only[Jz] at hc
   obtain⟨b,arr,ty,S1,e,hb,hr,hj⟩:=h
   exact⟨b,arr,ty,S1,e,hb,Kp c _ S1 hc hr,hj⟩
 | .bv _ c,v,S,hc,h=>by
   simp only[Ai] at h ⊢
   simp only[Jz] at hc
   obtain⟨e0,b,arr,ty,S1,e,hb,hr,hj⟩:=h
   exact⟨e0,b,arr,ty,S1,e,hb,Kp c _ S1 hc hr,hj⟩
 | .hv _,v,S,hc,h=>h
 | .agg fs,v,S,hc,h=>by
   simp only[Ai] at h ⊢;simp only[Jz] at hc
   obtain⟨cs,e,hr⟩:=h;exact⟨cs,e,Kp fs cs S hc hr⟩
 | .tup fs,v,S,hc,h=>by
   simp only[Ai] at h ⊢;simp only[Jz] at hc
   obtain⟨cs,e,hr⟩:=h;exact⟨cs,e,Kp fs cs S hc hr⟩
 | .clo fn fs,v,S,hc,h=>by
   simp only[Ai] at h ⊢;simp only[Jz] at hc
   obtain⟨cs,e,hr⟩:=h;exact⟨cs,e,Kp fs cs S hc hr⟩
 | .int _ _,v,S,hc,h=>h
 | .bool _,v,S,hc,h=>h
 | .str _,v,S,hc,h=>h
 | .val _,v,S,hc,h=>h
 | .any,v,S,hc,h=>h
 | .top,v,S,hc,h=>h
 | .nil,v,S,hc,h=>h
 | .hole _,v,S,hc,h=>h
 | .al _,v,S,hc,h=>h
 | .po _ _ _ _,v,S,hc,h=>h
theorem Kp{Z Z':FP}{w:World}:∀(azs:List AV) (cs:List Value) (S:FP),GV azs→AS Z w azs cs S→AS Z' w azs cs S
 |[],cs,S,hc,h=>h
 |a::azs,cs,S,hc,h=>by
  simp only[AS] at h ⊢;simp only[GV] at hc
  obtain⟨v,cs',A,B,e,hj,h1,h2⟩:=h
  exact⟨v,cs',A,B,e,hj,a8y a v A hc.1 h1,Kp azs cs' B hc.2 h2⟩
end
structure Sig:Type 1 where
 X:Type
 args:X→List AV
 pre:X→Prop
 Y:Type
 post:X→Y→Prop
 res:X→Y→AV
 outs:X→Y→List AV
 keep:Bool
 fixed:List Nat:=[]
 caps:List (Nat×Fn×Nat):=[]
def Kq:List (Nat×Fn×Nat)→List Value→Prop
 |[],_=>True
 |(p,fn,j)::l,vs=>(∃v,vs[p]? =some (Gq fn [v])∧vs[j]? =some v)∧Kq l vs
structure After (Z:FP) (w:World) (A:FP) (Z':FP) (w':World) (A':FP):Prop where
 os:w'.os=w.os
 tape:w'.tape=w.tape
 output:w'.output=w.output
 size:w.heap.size≤w'.heap.size
 old:∀b,b<w.heap.size→¬A b→w'.heap[b]? =w.heap[b]? ∧(Z' b↔Z b)
 own:∀b,A' b→Z' b∧b<w'.heap.size∧(b<w.heap.size→A b)
def UZ(keep:Bool)(p:Prop):Prop:=match keep with
 |true=>True
 |false=>p
def a8z(S:Sig):Prop:=∀x y,S.pre x→S.post x y→UZ S.keep (GV (S.res x y::S.outs x y))
def Aj(G:GInv)(P:Program)(f:FuncId)(S:Sig):Prop:=
 ((∃fn,P.funcs[f]? =some fn∧(fn.name== "runtime.NumGoroutine")=false∧fn.body.isNone=false)∧a8z S)∧
 ∀x,S.pre x→∀Z w vals A,G.p Z w→AS Z w (S.args x) vals A→(∀b,A b→Z b∧b<w.heap.size)→Kq S.caps vals→
  Calls P f vals.toArray w fun e w'=>∃y v Z' A',S.post x y∧e= .returned v∧AS Z' w' (S.res x y::S.outs x y) (v::vals) A'∧After Z w A Z' w' A'
def Va:AV→Bool
 | .sl true _ _ _ _ _=>true
 | .box _ _=>true
 | .bv _ _=>true
 |_=>false
def Vb(e:AV):AV:=match Va e with|true=>e|false=> .top
def Vc(e:AV):AV:=match Va e with|true=> .top|false=>e
theorem ZY{Z:FP}{w:World}:∀(es:List AV) (cs:List Value) (A B S:FP),AS Z w (es.map Vb) cs A→AS Z w (es.map Vc) cs B→Bl S A B→AS Z w es cs S
 |[],cs,A,B,S,h1,h2,hs=>by
  simp only[List.map,AS] at h1 h2 ⊢
  exact⟨h1.1,fun b hb=>((hs.1 b).1 hb).elim (h1.2 b) (h2.2 b)⟩
 |e::es,cs,A,B,S,h1,h2,hs=>by
  simp only[List.map,AS] at h1 h2 ⊢
  obtain⟨v,cs',A1,B1,e1,hj,h3,h4⟩:=h1
  obtain⟨v',cs'',A2,B2,e2,hj2,h5,h6⟩:=h2
  rw[e1] at e2
  simp only[List.cons.injEq] at e2
  obtain⟨rfl,rfl⟩:=e2
  have hd:∀b,A1 b∨B1 b→¬(A2 b∨B2 b):=fun b x y=>hs.2 b ((hj.1 b).2 x) ((hj2.1 b).2 y)
  refine⟨v,cs',fun b=>A1 b∨A2 b,fun b=>B1 b∨B2 b,e1,⟨fun b=> ?_,fun b x y=> ?_⟩,?_,ZY es cs' B1 B2 _ h4 h6 ⟨fun _=>Iff.rfl,fun b x y=>hd b (.inr x) (.inr y)⟩⟩
  ·rw[hs.1 b,hj.1 b,hj2.1 b]
   exact⟨fun h=>h.elim (fun h=>h.elim (fun h=> .inl (.inl h)) (fun h=> .inr (.inl h))) (fun h=>h.elim (fun h=> .inl (.inr h)) (fun h=> .inr (.inr h))),
    fun h=>h.elim (fun h=>h.elim (fun h=> .inl (.inl h)) (fun h=> .inr (.inl h))) (fun h=>h.elim (fun h=> .inl (.inr h)) (fun h=> .inr (.inr h)))⟩
  ·rcases x with x|x<;>rcases y with y|y
   ·exact hj.2 b x y
   ·exact hd b (.inl x) (.inr y)
   ·exact hd b (.inr y) (.inl x)
   ·exact hj2.2 b x y
  ·unfold Vb Vc at*
   cases hm:Va e
   ·rw[hm] at h3 h5
    simp only[Ai] at h3
    have:(fun b=>A1 b∨A2 b)=A2:=Es (fun b=>⟨fun h=>h.elim (fun h=>(h3 b h).elim) id,.inr⟩)
    rw[this];exact h5
   ·rw[hm] at h3 h5
    simp only[Ai] at h5
    have:(fun b=>A1 b∨A2 b)=A1:=Es (fun b=>⟨fun h=>h.elim id (fun h=>(h5 b h).elim),.inl⟩)
    rw[this];exact h3
def HH(regs:List AV)(nx:Nat):List AV→List AV→(List AV→Nat→Prop)→Prop
 |[],[],K=>K regs nx
 |a::azs,o::os,K=>match o with
  | .top=>HH regs nx azs os K
  | .box _ c=>match a with
    | .al id=>match Ev id (.box id (Cu nx c).1) regs with
      |some regs'=>HH regs' (Cu nx c).2 azs os K
      |none=>False
    | .val v=>match GU (Cu nx c).1 regs with
      |some (x,regs')=>x=v∧HH regs' (Cu nx c).2 azs os K
      |none=>False
    |_=>False
  | .bv _ c=>match a with
    | .val v=>match GU (Cu nx c).1 regs with
      |some (x,regs')=>x=v∧HH regs' (Cu nx c).2 azs os K
      |none=>False
    |_=>False
  | .sl true _ sz α f xs=>match a with
    | .al id=>match Ev id (.sl true id sz α f xs) regs with
      |some regs'=>HH regs' nx azs os K
      |none=>False
    |_=>False
  |_=>False
 |_,_,_=>False
theorem Pj{Z:FP}{w:World}{K:List AV→Nat→Prop}:∀(azs os:List AV) (regs:List AV) (nx:Nat),HH regs nx azs os K→
 ∀(η:Nat→Value) (vs us:List Value) (B A S:FP),Al Z η w regs vs B→AX nx regs→Al Z η w azs us (fun _=>False)→AX nx azs→
 AS Z w os us A→Bl S A B→
 ∃regs' nx',K regs' nx'∧nx≤nx'∧AX nx' regs'∧∃η':Nat→Value,(∀i,i<nx→η' i=η i)∧Al Z η' w regs' vs S
 |[],[],regs,nx,h,η,vs,us,B,A,S,hR,hI,ha,hai,ho,hj=>by
  simp only[HH] at h
  simp only[AS] at ho
  refine⟨regs,nx,h,Nat.le_refl _,hI,η,fun _ _=>rfl,?_⟩
  rw[show S=B from Es (GQ hj ho.2)];exact hR
 |[],_::_,regs,nx,h,η,vs,us,B,A,S,hR,hI,ha,hai,ho,hj=>by simp [HH] at h
 |_::_,[],regs,nx,h,η,vs,us,B,A,S,hR,hI,ha,hai,ho,hj=>by simp [HH] at h
 |a::azs,o::os,regs,nx,h,η,vs,us,B,A,S,hR,hI,ha,hai,ho,hj=>by
  simp only[AS] at ho
  obtain⟨v,us',A1,A2,eu,hj2,ho1,ho2⟩:=ho
  subst eu
  simp only[AX] at hai
  simp only[Al] at ha
  obtain⟨v0,us0,B1,B2,eu0,hj0,ha1,ha2⟩:=ha
  simp only[List.cons.injEq] at eu0
  obtain⟨rfl,rfl⟩:=eu0
  rw[Et (Ih hj0 AP).1] at ha1
  rw[Et (Ih hj0 AP).2] at ha2
  have hjj:Bl S A2 (fun x=>A1 x∨B x):=by
   refine⟨fun x=> ?_,fun x p q=>q.elim (fun q=>hj2.2 x q p) (fun q=>hj.2 x ((hj2.1 x).2 (.inr p)) q)⟩
   rw[hj.1 x,hj2.1 x]
   exact⟨fun h=>h.elim (fun h=>h.elim (fun h=> .inr (.inl h)) .inl) (fun h=> .inr (.inr h)),fun h=>h.elim (fun h=> .inl (.inr h)) (fun h=>h.elim (fun h=> .inl (.inl h)) .inr)⟩
  have hjB:Bl (fun x=>A1 x∨B x) A1 B:=⟨fun _=>Iff.rfl,fun x p q=>hj.2 x ((hj2.1 x).2 (.inl p)) q⟩
  have vcase:∀(c:List AV) (u x:Value) (regs1:List AV),a= .val u→(∃b arr ty S1,v= .pointer (some ⟨b,0,none⟩)∧w.heap[b]? =some (.cells arr ty (0,0))∧AS Z w c arr.toList S1∧Bl A1 (one b) S1)→
   GU (Cu nx c).1 regs=some (x,regs1)→x=u→HH regs1 (Cu nx c).2 azs os K→
   ∃regs' nx',K regs' nx'∧nx≤nx'∧AX nx' regs'∧∃η':Nat→Value,(∀i,i<nx→η' i=η i)∧Al Z η' w regs' vs S:=by
   intro c u x regs1 hau hbx hpl hxu hk
   subst hau;subst hxu
   obtain⟨b,arr,ty,S1,e,hb,hr,hj3⟩:=hbx
   obtain⟨h1,h2,η1,h3,h4⟩:=IX c nx arr.toList S1 η hr
   have hv:v=x:=by simp only[Ad,Ai] at ha1;exact ha1.1
   have hbox:Ad Z η1 w (.bv x (Cu nx c).1) x A1:=by
    simp only[Ad]
    refine⟨trivial,b,arr,ty,S1,?_,hb,h4 η1 (fun _ _=>rfl),hj3⟩
    rw[←hv];exact e
   have hR1:=CJ (n:=nx) (Z':=Z) (w':=w) (fun b hb _=>⟨hb,rfl⟩) h3 _ _ _ hI (fun _ _=>rfl) hR
   have hpg:=Pg regs vs B (fun x=>A1 x∨B x) x regs1 hR1 hjB hpl hbox
   have hids1:AX (Cu nx c).2 regs1:=Ph h2 _ _ _ (Fv h1 _ hI) hpl
   obtain⟨regs',nx',g0,g1,g2,η2,g3,g4⟩:=Pj azs os regs1 _ hk η1 vs us' _ A2 S hpg hids1 (CJ (n:=nx) (Z':=Z) (w':=w) (fun b hb _=>⟨hb,rfl⟩) h3 _ _ _ hai.2 (fun _ _=>rfl) ha2) (Fv h1 _ hai.2) ho2 hjj
   exact⟨regs',nx',g0,by omega,g2,η2,fun i hi=>by rw[g3 i (by omega),h3 i hi],g4⟩
  unfold HH at h
  split at h
  ·simp only[Ai] at ho1
   exact Pj azs os regs nx h η vs us' B A S hR hI ha2 hai.2 (by rw[show A=A2 from Es (GQ hj2 ho1)];exact ho2) hj
  ·rename_i j c
   split at h
   ·rename_i id
    split at h
    ·rename_i regs1 hpl
     simp only[Ai] at ho1
     obtain⟨b,arr,ty,S1,e,hb,hr,hj3⟩:=ho1
     obtain⟨h1,h2,η1,h3,h4⟩:=IX c nx arr.toList S1 η hr
     have hid:id<nx:=hai.1
     have hv:v=η id:=by simp only[Ad] at ha1;exact ha1.1
     have hbox:Ad Z η1 w (.box id (Cu nx c).1) (η1 id) A1:=by
      simp only[Ad]
      refine⟨trivial,b,arr,ty,S1,?_,hb,h4 η1 (fun _ _=>rfl),hj3⟩
      rw[h3 id hid,←hv];exact e
     have hR1:=CJ (n:=nx) (Z':=Z) (w':=w) (fun b hb _=>⟨hb,rfl⟩) h3 _ _ _ hI (fun _ _=>rfl) hR
     have hpg:=Ik hbox regs vs B (fun x=>A1 x∨B x) regs1 hR1 hjB hpl
     have hids1:AX (Cu nx c).2 regs1:=Il (by simp only[Av];exact⟨by omega,h2⟩) _ _ (Fv h1 _ hI) hpl
     obtain⟨regs',nx',g0,g1,g2,η2,g3,g4⟩:=Pj azs os regs1 _ h η1 vs us' _ A2 S hpg hids1 (CJ (n:=nx) (Z':=Z) (w':=w) (fun b hb _=>⟨hb,rfl⟩) h3 _ _ _ hai.2 (fun _ _=>rfl) ha2) (Fv h1 _ hai.2) ho2 hjj
     exact⟨regs',nx',g0,by omega,g2,η2,fun i hi=>by rw[g3 i (by omega),h3 i hi],g4⟩
    ·exact h.elim
   ·rename_i u
    split at h
    ·rename_i x regs1 hpl
     simp only[Ai] at ho1
     exact vcase c u x regs1 rfl ho1 hpl h.1 h.2
    ·exact h.elim
   ·exact h.elim
  ·rename_i y c
   split at h
   ·rename_i u
    split at h
    ·rename_i x regs1 hpl
     simp only[Ai] at ho1
     exact vcase c u x regs1 rfl ho1.2 hpl h.1 h.2
    ·exact h.elim
   ·exact h.elim
  ·rename_i j sz α f xs
   split at h
   ·rename_i id
    split at h
    ·rename_i regs1 hpl
     have hid:id<nx:=hai.1
     have hv:v=η id:=by simp only[Ad] at ha1;exact ha1.1
     have hown:Ad Z η w (.sl true id sz α f xs) (η id) A1:=by
      simp only[Ad]
      refine⟨fun _=>trivial,?_⟩
      rw[←hv];exact ho1
     have hpg:=Ik hown regs vs B (fun x=>A1 x∨B x) regs1 hR hjB hpl
     have hids1:AX nx regs1:=Il (by simp only[Av];exact fun _=>hid) _ _ hI hpl
     exact Pj azs os regs1 nx h η vs us' _ A2 S hpg hids1 ha2 hai.2 ho2 hjj
    ·exact h.elim
   ·exact h.elim
  ·exact h.elim
theorem Rb{Z:FP}{η:Nat→Value}{w:World}:∀(azs:List AV) (vs:List Value) (A:FP) (p:Nat) (a:AV),Al Z η w azs vs A→azs[p]? =some a→∃v B,vs[p]? =some v∧Ad Z η w a v B
 |[],vs,A,p,a,h,ha=>by simp at ha
 |x::azs,vs,A,p,a,h,ha=>by
  simp only[Al] at h
  obtain⟨v,cs',A1,B1,rfl,hj,h1,h2⟩:=h
  cases p with
  |zero=>simp at ha;subst ha;exact⟨v,A1,by simp,h1⟩
  |succ p=>
   simp only[List.getElem?_cons_succ] at ha ⊢
   exact Rb azs cs' B1 p a h2 ha
def Rc:List (Nat×Fn×Nat)→List AV→Prop
 |[],_=>True
 |(p,fn,j)::l,azs=>(match azs[p]?,azs[j]? with
    |some (.clo fn' [.al id]),some (.al id')=>match Pi fn' fn,Nat.beq id id' with
     |true,true=>True
     |_,_=>False
    |_,_=>False)∧Rc l azs
theorem ZZ{Z:FP}{η:Nat→Value}{w:World}{azs:List AV}{us:List Value}{A:FP}(hr:Al Z η w azs us A):∀l,Rc l azs→Kq l us
 |[],_=>trivial
 |(p,fn,j)::l,h=>by
  obtain⟨h1,h2⟩:=h
  refine⟨?_,ZZ hr l h2⟩
  split at h1
  ·rename_i fn' id id' e1 e2
   split at h1
   ·rename_i q1 q2
    have q1:=UW q1;have q2:=Nat.eq_of_beq_eq_true q2
    subst q1;subst q2
    obtain⟨v,B,g1,g2⟩:=Rb _ _ _ _ _ hr e1
    obtain⟨u,B',g3,g4⟩:=Rb _ _ _ _ _ hr e2
    simp only[Ad,Al] at g2 g4
    obtain⟨cs,rfl,v',cs',A',B'',rfl,_,⟨rfl,_,_⟩,rfl,_⟩:=g2
    obtain⟨rfl,_,_⟩:=g4
    exact⟨_,g1,g3⟩
   ·exact h1.elim
  ·exact h1.elim
def Vd(S:Sig)(s:St)(dst:Option Nat)(args:List AV)(K:St→Prop):Prop:=
 ∃x:S.X,S.pre x∧DS false ((S.args x).map Vb) s.regs args fun r1=>
  DS (!S.keep) ((S.args x).map Vc) r1 args fun r2=>
   ∀y,S.post x y→HH r2 s.nx args (S.outs x y) fun r3 n3=>K ⟨setR r3 dst (Ew n3 (S.res x y)).1,(Ew n3 (S.res x y)).2⟩
def Pk(S:Sig)(s:St)(dst:Option Nat)(args:List AV)(K:St→Prop):Prop:=match S.caps with
 |[]=>Vd S s dst args K
 |c::cs=>Rc (c::cs) args∧Vd S s dst args K
theorem a8A{S:Sig}{s:St}{dst:Option Nat}{args:List AV}{K:St→Prop}(h:Pk S s dst args K):(match S.caps with|[]=>True|c::cs=>Rc (c::cs) args)∧Vd S s dst args K:=by
 unfold Pk at h
 cases hc:S.caps with
 |nil=>rw[hc] at h;exact⟨trivial,h⟩
 |cons c cs=>rw[hc] at h;exact h
theorem a0a{P:Program}{f:FuncId}{S:Sig}{C:Ctx}(hc:Aj C.G P f S){s:St}{dst:Option Nat}{args:List AV}{K:St→Prop}(h:Pk S s dst args K)
 {a:Act} {w:World} {η:Nat→Value} {Z T:FP} (hi:Inst C s a w η Z T) {us:List Value} (ha:Al Z η w args us (fun _=>False)) (hai:AX s.nx args):
 Calls P f us.toArray w fun e w'=>∃v s',e= .returned v∧K s'∧Rel C s' (a.put dst v) w':=by
 obtain⟨hcaps,x,hpre,h⟩:=a8A h
 have hcaps:Kq S.caps us:=by
  refine ZZ ha _ ?_
  cases hcc:S.caps with
  |nil=>trivial
  |cons c cs=>rw[hcc] at hcaps;exact hcaps
 obtain⟨Z1,A1,B1,r1,h1⟩:=Gu _ s.regs args _ h Z a.tmps.toList us T (fun _=>False) T hi.rel hi.ids ha hai (BK T)
 have ha1:=CJ (HG (w:=w) h1.zz) (fun _ _=>rfl) _ _ _ hai (fun _ _=>rfl) ha
 obtain⟨Z2,A2,B2,r2,h2⟩:=Gu _ r1 args _ h1.k Z1 a.tmps.toList us B1 (fun _=>False) B1 h1.rel h1.ids ha1 hai (BK B1)
 have h12:=Dk (HG (w:=w) h2.zz) _ _ _ (fun _ _=>rfl) h1.got
 have hTZ:∀b,T b→Z b:=fun b hb=>(hi.own b hb).1
 have hA1T:∀b,A1 b→T b:=fun b hb=>h1.part b (.inl hb)
 have hB1T:∀b,B1 b→T b:=fun b hb=>h1.part b (.inr hb)
 have hA2B:∀b,A2 b→B1 b:=fun b hb=>h2.part b (.inl hb)
 have hB2B:∀b,B2 b→B1 b:=fun b hb=>h2.part b (.inr hb)
 have hB1Z:∀b,B1 b→Z1 b:=fun b hb=>h1.ownB rfl b hb (hTZ b (hB1T b hb))
 have hA1Z1:∀b,A1 b→Z1 b:=fun b hb=>h1.ownA b hb (hTZ b (hA1T b hb))
 have hA1Z:∀b,A1 b→Z2 b:=fun b hb=>Classical.byContradiction fun hn=>h1.dis b hb (h2.gone b (hA1Z1 b hb) hn)
 have hA2Z:∀b,A2 b→Z2 b:=fun b hb=>h2.ownA b hb (hB1Z b (hA2B b hb))
 have hjA:Bl (fun b=>A1 b∨A2 b) A1 A2:=⟨fun _=>Iff.rfl,fun b x y=>h1.dis b x (hA2B b y)⟩
 have hargs:=ZY _ _ _ _ _ h12 h2.got hjA
 have hAZ:∀b,A1 b∨A2 b→Z2 b∧b<w.heap.size:=fun b hb=>
  ⟨hb.elim (hA1Z b) (hA2Z b),(hi.own b (hb.elim (hA1T b) (fun h=>hB1T b (hA2B b h)))).2.1⟩
 refine(hc.2 x hpre Z2 w us _ (C.G.mono _ _ _ _ (fun b hb _=>⟨fun x=>hb (h1.zz b (h2.zz b x)),rfl⟩) hi.ok.glob) hargs hAZ hcaps).mono ?_
 rintro e w' ⟨y,v,Z',A',hpost,rfl,hres,haft⟩
 have hk:=h2.k y hpost;have hkeep:=hc.1.2 x y hpre hpost
 obtain⟨Zr,B,hrB,hrI,hZr,hBA,hBT,hBB⟩:∃Zr B,Al Zr η w r2 a.tmps.toList B∧AX s.nx r2∧(∀b,¬Zr b→b<w.heap.size→¬(A1 b∨A2 b)∧¬B b∧¬Z2 b)∧
  (∀b,B b→¬(A1 b∨A2 b))∧(∀b,B b→T b)∧(S.keep=true→∀b,B b→Z2 b):=by
  rcases Bool.eq_false_or_eq_true S.keep with hk|hk
  ·refine⟨Z2,B2,h2.rel,h2.ids,fun b hz hb=>⟨fun x=>hz (hAZ b x).1,fun x=> ?_,hz⟩,fun b hb x=> ?_,fun b hb=>hB1T b (hB2B b hb),fun _ b hb=> ?_⟩
   ·exact hz (h2.ownB (by simp [hk]) b x (hB1Z b (hB2B b x)))
   ·exact x.elim (fun x=>h1.dis b x (hB2B b hb)) (fun x=>h2.dis b x hb)
   ·exact h2.ownB (by simp [hk]) b hb (hB1Z b (hB2B b hb))
  ·have hfix:=h2.fix (by simp [hk])
   have hA2e:∀b,¬A2 b:=fun b hb=>h2.stay (by simp [hk]) b hb
   refine⟨Z1,B1,by rw[hfix];exact h1.rel,h2.ids,fun b hz hb=>⟨fun x=>hz (h2.zz b (hAZ b x).1),fun x=>hz (hB1Z b x),fun x=>hz (h2.zz b x)⟩,fun b hb x=> ?_,hB1T,fun hh=> ?_⟩
   ·exact x.elim (fun x=>h1.dis b x hb) (hA2e b)
   ·rw[hk] at hh;cases hh
 let Zc:FP:=fun b=>Z' b∨B b
 have hold:∀b,b<w.heap.size→¬(A1 b∨A2 b)→w'.heap[b]? =w.heap[b]? ∧(Z' b↔Z2 b):=haft.old
 have hr2:Al Zc η w' r2 a.tmps.toList B:=by
  refine CJ (n:=s.nx) (fun b hz hb=> ?_) (fun _ _=>rfl) _ _ _ hrI (fun b hb=> ?_) hrB
  ·obtain⟨g1,g2,g3⟩:=hZr b hz hb
   obtain⟨g4,g5⟩:=hold b hb g1
   exact⟨fun x=>x.elim (fun x=>g3 (g5.1 x)) g2,g4⟩
  ·exact(hold b (hi.own b (hBT b hb)).2.1 (hBA b hb)).1
 have hargs':Al Zc η w' args us (fun _=>False):=by
  refine CJ (n:=s.nx) (fun b hz hb=> ?_) (fun _ _=>rfl) _ _ _ hai (fun b hb=>hb.elim) ha
  have g1:¬(A1 b∨A2 b):=fun x=>hz (h1.zz b (h2.zz b (hAZ b x).1))
  obtain⟨g4,g5⟩:=hold b hb g1
  exact⟨fun x=>x.elim (fun x=>hz (h1.zz b (h2.zz b (g5.1 x)))) (fun x=>hz (hTZ b (hBT b x))),g4⟩
 have hres':AS Zc w' (S.res x y::S.outs x y) (v::us) A':=by
  rcases Bool.eq_false_or_eq_true S.keep with hk|hk
  ·refine Dk (fun b hz hb=>⟨fun x=>x.elim hz (fun x=>hz ?_),rfl⟩) _ _ _ (fun _ _=>rfl) hres
   exact(hold b (hi.own b (hBT b x)).2.1 (hBA b x)).2.2 (hBB hk b x)
  ·rw[hk] at hkeep
   exact Kp _ _ _ hkeep hres
 have hA'own:=haft.own
 simp only[AS] at hres'
 obtain⟨v',us',Ar,Ao,e1,hjr,hr1,hr3⟩:=hres'
 simp only[List.cons.injEq] at e1
 obtain⟨rfl,rfl⟩:=e1
 have hBA':∀b,B b→¬A' b:=fun b hb x=>hBA b hb ((hA'own b x).2.2 (hi.own b (hBT b hb)).2.1)
 ·obtain⟨r3,n3,hk,p1,p2,η1,p3,p4⟩:=Pj args _ r2 s.nx hk η a.tmps.toList us B Ao (fun b=>Ao b∨B b) hr2 hrI hargs' hai hr3
   ⟨fun _=>Iff.rfl,fun b x y=>hBA' b y ((hjr.1 b).2 (.inr x))⟩
  obtain⟨q1,q2,η2,q3,q4⟩:=ZW (S.res x y) n3 v Ar η1 hr1
  have hv:=q4 η2 (fun _ _=>rfl)
  have p5:=CJ (n:=n3) (Z':=Zc) (w':=w') (fun b hb _=>⟨hb,rfl⟩) q3 _ _ _ p2 (fun _ _=>rfl) p4
  refine⟨v,_,rfl,hk,?_⟩
  obtain⟨S',hS',hfin⟩:∃S',(∀b,S' b→A' b∨B b)∧Al Zc η2 w' (setR r3 dst (Ew n3 (S.res x y)).1) (a.put dst v).tmps.toList S':=by
   cases dst with
   |none=>exact⟨_,fun b hb=>hb.elim (fun h=> .inl ((hjr.1 b).2 (.inr h))) .inr,p5⟩
   |some d=>
    rw[MR]
    simp only[setR]
    rcases Nat.lt_or_ge d r3.length with hd|hd
    ·obtain⟨S',hs,hr⟩:=OQ p5 hd hv (fun b x y=>y.elim (fun y=>hjr.2 b x y) (fun y=>hBA' b y ((hjr.1 b).2 (.inl x))))
     exact⟨S',fun b hb=>(hs b hb).elim (fun h=>h.elim (fun h=> .inl ((hjr.1 b).2 (.inr h))) .inr) (fun h=> .inl ((hjr.1 b).2 (.inl h))),hr⟩
    ·rw[List.set_eq_of_length_le hd,List.set_eq_of_length_le (by rw[Fc _ _ _ p5];exact hd)]
     exact⟨_,fun b hb=>hb.elim (fun h=> .inl ((hjr.1 b).2 (.inr h))) .inr,p5⟩
  refine⟨η2,Zc,S',⟨by rw[MS];exact hi.defers,hfin,?_,fun b hb=> ?_,?_⟩⟩
  ·cases dst with
   |none=>exact Fv q1 _ p2
   |some d=>exact GS _ _ _ (Fv q1 _ p2) q2
  ·rcases hS' b hb with hb|hb
   ·obtain⟨g1,g2,g3⟩:=hA'own b hb
    refine⟨.inl g1,g2,fun h0=> ?_⟩
    have hTb:T b:=(g3 (Nat.lt_of_lt_of_le h0 hi.ok.size)).elim (hA1T b) (fun h=>hB1T b (hA2B b h))
    exact(hi.own b hTb).2.2 h0
   ·exact⟨.inr hb,Nat.lt_of_lt_of_le (hi.own b (hBT b hb)).2.1 haft.size,fun h0=>(hi.own b (hBT b hb)).2.2 h0⟩
  ·refine⟨haft.os.trans hi.ok.os,haft.tape.trans hi.ok.tape,haft.output.trans hi.ok.output,Nat.le_trans hi.ok.size haft.size,fun b h0 hs=> ?_⟩
   have hnT:¬T b:=fun x=>hs ((hi.own b x).2.2 h0)
   have hnA:¬(A1 b∨A2 b):=fun x=>hnT (x.elim (hA1T b) (fun h=>hB1T b (hA2B b h)))
   obtain⟨g1,g2⟩:=hold b (Nat.lt_of_lt_of_le h0 hi.ok.size) hnA
   obtain⟨g3,g4⟩:=hi.ok.old b h0 hs
   refine⟨g1.trans g3,⟨fun x=> ?_,fun x=> ?_⟩⟩
   ·rcases x with x|x
    ·exact g4.1 (h1.zz b (h2.zz b (g2.1 x)))
    ·exact(hnT (hBT b x)).elim
   ·refine .inl (g2.2 ?_)
    have z0:=g4.2 x
    have z1:Z1 b:=Classical.byContradiction fun hn=>hnT (h1.gone b z0 hn)
    exact Classical.byContradiction fun hn=>hnT (hB1T b (h2.gone b z1 hn))
end Go.Eng
end
