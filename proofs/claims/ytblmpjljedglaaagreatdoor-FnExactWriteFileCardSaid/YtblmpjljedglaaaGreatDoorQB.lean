/- joined -/
import Derived.Test.YtblmpjljedglaaaGreatDoorQA
set_option linter.unusedSimpArgs false
set_option linter.unusedVariables false
section
namespace Go.Eng
def Ab(b:Bool)(p q:Prop):Prop:=match b with
 |true=>p
 |false=>q
def Ub(P:Program)(t:TypeId)(x:AV)(f:Nat)(K:AV→Prop):Prop:=
 match x with
 | .agg cs=>match P.underlying t with
   |some (.struct fs)=>match fs[f]? with
    |some fd=>match P.underlying fd.type,P.info? fd.type with
     |some d,some i=>match Ib d with
      |true=>K (.agg ((cs.drop fd.offset).take i.size))
      |false=>match cs[fd.offset]? with
       |some a=>K a
       |none=>False
     |_,_=>False
    |none=>False
   |_=>False
 |_=>False
theorem Zv{Z:FP}{η:Nat→Value}{w:World}{azs:List AV}{cs:List Value}(h:An Z η w azs cs (fun _=>False)){i:Nat}{a:AV}(ha:azs[i]? =some a):
 ∃v,cs[i]? =some v∧Ae Z η w a v (fun _=>False):=by
 obtain⟨v,A,B,hv,hr,hj,_⟩:=Eo azs cs _ i a h ha
 have hA:=(Gi hj AO).1
 rw[DM hA] at hr
 exact⟨v,hv,hr⟩
theorem a8K{P:Program}{t:TypeId}{x:AV}{f:Nat}{K:AV→Prop}(h:Ub P t x f K){Z:FP}{η:Nat→Value}{w:World}{n:Nat}{xv:Value}
 (hx:Ae Z η w x xv (fun _=>False)) (hi:AL n x):POk P Z η w n (Instr.field t xv f) K:=by
 unfold Ub at h
 split at h
 ·rename_i cs
  simp only[Ae] at hx
  obtain⟨vs,e,hr⟩:=hx
  subst e
  simp only[AL] at hi
  split at h
  ·rename_i fs hu
   split at h
   ·rename_i fd hfd
    split at h
    ·rename_i d i hud hinf
     have hrun:∀v w,(part fd.type vs.toArray fd.offset).run P w= .ok v w→(Instr.field t (.agg vs.toArray) f).run P w= .ok v w:=by
      intro v w hv
      unfold Instr.field
      rw[AP (CM hu w)]
      simp only[hfd,asAgg]
      rw[AP (BI P _ w)]
      exact hv
     split at h
     ·rename_i hagg
      refine⟨.agg ((vs.drop fd.offset).take i.size).toArray,_,fun w _=>hrun _ w ?_,?_,?_,h⟩
      ·unfold part
       rw[AP (Ic hud w),hagg]
       simp only[if_true]
       rw[AP (Fw hinf w)]
       simp only[BI]
       congr 2
       apply Array.ext'
       simp [List.drop_take]
      ·simp only[Ae];exact⟨_,rfl,Nz _ _ _ (Ny _ _ _ hr)⟩
      ·simp only[AL];exact LG _ _ (IV _ _ hi)
     ·rename_i hagg
      split at h
      ·rename_i a ha
       obtain⟨v,hv,hrv⟩:=Zv hr ha
       refine⟨v,a,fun w _=>hrun _ w ?_,hrv,Lz _ _ _ hi ha,h⟩
       unfold part
       rw[AP (Ic hud w),hagg]
       simp only[Bool.false_eq_true,if_false]
       have:vs.toArray[fd.offset]? =some v:=by simpa using hv
       rw[this];rfl
      ·exact h.elim
    ·exact h.elim
   ·exact h.elim
  ·exact h.elim
 ·exact h.elim
def Uc(x:AV)(i:Nat)(K:AV→Prop):Prop:=
 match x with
 | .tup vs=>match vs[i]? with
   |some a=>K a
   |none=>False
 |_=>False
theorem a8L{P:Program}{x:AV}{i:Nat}{K:AV→Prop}(h:Uc x i K){Z:FP}{η:Nat→Value}{w:World}{n:Nat}{xv:Value}
 (hx:Ae Z η w x xv (fun _=>False)) (hi:AL n x):POk P Z η w n (Instr.extract xv i) K:=by
 unfold Uc at h
 split at h
 ·rename_i vs
  simp only[Ae] at hx
  obtain⟨cs,e,hr⟩:=hx
  subst e
  simp only[AL] at hi
  split at h
  ·rename_i a ha
   obtain⟨v,hv,hrv⟩:=Zv hr ha
   refine⟨v,a,fun _ _=> ?_,hrv,Lz _ _ _ hi ha,h⟩
   unfold Instr.extract
   have:cs.toArray[i]? =some v:=by simpa using hv
   simp only[this];rfl
  ·exact h.elim
 ·exact h.elim
def PM(P:Program)(s d:TypeId){α:Type}(sz:Nat)(f:α→List AV)(xs:List α)(K:AV→Prop):Prop:=
 match P.underlying s,P.underlying d with
 |some (.slice e),some .string=>match P.underlying e with
  |some (.int .u8)=>∃l:List UInt8,AV.sl false 0 sz α f xs=AV.sl false 0 1 UInt8 Ih l∧K (.str l)
  |_=>False
 |_,_=>False
def Ud(P:Program)(ov:Bool)(regs:List AV)(s d:TypeId)(x:AV)(K:AV→Prop):Prop:=
 match x with
 | .int _ n=>match P.underlying s,P.underlying d with
   |some (.int _),some (.int k)=>JY ov k n K
   |_,_=>False
 | .str l=>match P.underlying s,P.underlying d with
   |some .string,some .string=>K (.str l)
   |_,_=>False
 | .sl false _ sz α f xs=>PM P s d sz f xs K
 | .al id=>match Du id regs with
   |some (.sl true _ sz α f xs)=>PM P s d sz f xs K
   |_=>False
 |_=>False
theorem Zw{P:Program}{s d:TypeId}{α:Type}{sz:Nat}{f:α→List AV}{xs:List α}{K:AV→Prop}(h:PM P s d sz f xs K){Z:FP}{η:Nat→Value}{w:World}{n:Nat}{xv:Value}
 {own:Bool} {id:Nat} {S:FP} (hx:Aj Z w (.sl own id sz α f xs) xv S):POk P Z η w n (convert s d xv) K:=by
 unfold PM at h
 split at h
 ·rename_i e hs hd
  split at h
  ·rename_i he
   obtain⟨l,hl,hk⟩:=h
   have hx':Aj Z w (.sl own id 1 UInt8 Ih l) xv S:=by
    injection hl with _ _ h1 h2 h3 h4
    subst h1;subst h2
    have h3:=eq_of_heq h3;have h4:=eq_of_heq h4
    subst h3;subst h4
    exact hx
   obtain⟨a,m,c,rfl,_⟩:=Zu (P:=P) (Sees.refl w) hx'
   refine⟨_,.str l,fun w2 hw2=> ?_,⟨rfl,AO⟩,trivial,hk⟩
   rw[run_convert_bytes_string w2 s d e a m c hs he hd]
   obtain⟨_,_,_,_,hr⟩:=Zu (P:=P) hw2 hx'
   exact hr
  ·exact h.elim
 ·exact h.elim
theorem a8M{P:Program}{ov:Bool}{regs:List AV}{s d:TypeId}{x:AV}{K:AV→Prop}(h:Ud P ov regs s d x K){Z:FP}{η:Nat→Value}{w:World}{n:Nat}{xv:Value}
 {vs:List Value} {S:FP} (hR:An Z η w regs vs S) (hx:Ae Z η w x xv (fun _=>False)):POk P Z η w n (convert s d xv) K:=by
 unfold Ud at h
 split at h
 ·rename_i k0 m
  simp only[Ae,Aj] at hx
  rw[hx.1]
  split at h
  ·rename_i k1 k hs hd
   refine⟨_,.int k (k.wrap m),fun w _=> ?_,⟨rfl,AO⟩,trivial,LH h⟩
   unfold convert
   rw[AP (CM hs w),AP (CM hd w)];rfl
  ·exact h.elim
 ·rename_i l
  simp only[Ae,Aj] at hx
  rw[hx.1]
  split at h
  ·rename_i hs hd
   refine⟨_,.str l,fun w _=> ?_,⟨rfl,AO⟩,trivial,h⟩
   unfold convert
   rw[AP (CM hs w),AP (CM hd w)];rfl
  ·exact h.elim
 ·rename_i i sz α f xs
  simp only[Ae] at hx
  exact Zw h hx.2
 ·rename_i id
  split at h
  ·rename_i j sz α f xs ho
   obtain⟨A,hA,hio,hr⟩:=Ep regs vs S _ hR ho
   simp only[Ae] at hx hr
   rw[hx.1]
   exact Zw h hr.2
  ·exact h.elim
 ·exact h.elim
def PN(P:Program)(regs:List AV)(t:Option TypeId)(x:AV)(K:AV→Prop):Prop:=
 match t with
 |some t=>match P.underlying t with
  |some .string=>match x with
   | .str l=>K (.int .i64 l.length)
   |_=>False
  |some (.slice _)=>match x with
   | .sl _ _ _ _ _ xs=>K (.int .i64 xs.length)
   | .nil=>K (.int .i64 0)
   | .al id=>match Du id regs with
     |some (.sl true _ _ _ _ xs)=>K (.int .i64 xs.length)
     |_=>False
   |_=>False
  |_=>False
 |none=>False
def Ka:TypeDesc→Value→Option Value
 | .string,.string s=>some (goInt s.size)
 | .slice _,.slice _ m _=>some (goInt m)
 |_,_=>none
theorem NE{P:Program}{ts:Array TypeId}{ty t:TypeId}{d:TypeDesc}{x v:Value}{w:World}(ht:ts[0]? =some t)(hu:P.underlying t=some d)
 (hv:Ka d x=some v):(Builtin.len_ ts ty #[x]).run P w= .ok v w:=by
 unfold Builtin.len_
 simp only[ht]
 have:(#[x]:Array Value)[0]? =some x:=rfl
 simp only[this]
 rw[AP (CM hu w)]
 unfold Ka at hv
 split at hv<;>simp_all [BI]
theorem Ue{P:Program}{regs:List AV}{ts:Array TypeId}{ty:TypeId}{x:AV}{K:AV→Prop}(h:PN P regs ts[0]? x K){Z:FP}{η:Nat→Value}{w:World}{n:Nat}
 {vs:List Value} {S:FP} {xv:Value} (hR:An Z η w regs vs S) (hx:Ae Z η w x xv (fun _=>False)):
 ∃v r,(∀w',(Builtin.len_ ts ty #[xv]).run P w'= .ok v w')∧Ae Z η w r v (fun _=>False)∧AL n r∧K r:=by
 unfold PN at h
 split at h
 ·rename_i t ht
  split at h
  ·rename_i hu
   split at h
   ·rename_i l
    simp only[Ae,Aj] at hx
    refine⟨.int .i64 l.length,.int .i64 l.length,fun _=>NE ht hu ?_,⟨rfl,AO⟩,trivial,h⟩
    rw[hx.1];simp [Ka,goInt,ByteArray.size]
   ·exact h.elim
  ·rename_i e hu
   split at h
   ·rename_i own id sz α f xs
    simp only[Ae,Aj] at hx
    obtain⟨_,a,n',c,ev,hn,_⟩:=hx
    refine⟨.int .i64 xs.length,.int .i64 xs.length,fun _=>NE ht hu ?_,⟨rfl,AO⟩,trivial,h⟩
    rw[ev,hn];simp [Ka,goInt]
   ·simp only[Ae,Aj] at hx
    refine⟨.int .i64 0,.int .i64 0,fun _=>NE ht hu ?_,⟨rfl,AO⟩,trivial,h⟩
    rw[hx.1];simp [Ka,goInt]
   ·rename_i id
    split at h
    ·rename_i i' sz α f xs ho
     obtain⟨A,hA,hio,hr⟩:=Ep regs vs S _ hR ho
     simp only[Ae] at hx
     simp only[Ae,Aj] at hr
     obtain⟨_,a,n',c,ev,hn,_⟩:=hr
     refine⟨.int .i64 xs.length,.int .i64 xs.length,fun _=>NE ht hu ?_,⟨rfl,AO⟩,trivial,h⟩
     rw[hx.1,ev,hn];simp [Ka,goInt]
    ·exact h.elim
   ·exact h.elim
  ·exact h.elim
 ·exact h.elim
theorem a8N{P:Program}{regs:List AV}{ts:Array TypeId}{ty:TypeId}{x:AV}{K:AV→Prop}(h:PN P regs ts[0]? x K){Z:FP}{η:Nat→Value}{w:World}{n:Nat}
 {vs:List Value} {S:FP} {xv:Value} (hR:An Z η w regs vs S) (hx:Ae Z η w x xv (fun _=>False)):POk P Z η w n (Builtin.len_ ts ty #[xv]) K:=by
 obtain⟨v,r,h1,h2,h3,h4⟩:=Ue (n:=n) h hR hx
 exact⟨v,r,fun w' _=>h1 w',h2,h3,h4⟩
def Uf(x y:AV)(K:AV→Prop):Prop:=
 match x,y with
 | .int k a,.int _ b=>K (.int k (min a b))
 |_,_=>False
def Ug(x y:AV)(K:AV→Prop):Prop:=
 match x,y with
 | .int k a,.int _ b=>K (.int k (max a b))
 |_,_=>False
theorem a8O{P:Program}{ts:Array TypeId}{ty:TypeId}{x y:AV}{K:AV→Prop}(h:Uf x y K){Z:FP}{η:Nat→Value}{w:World}{n:Nat}{xv yv:Value}
 (hx:Ae Z η w x xv (fun _=>False)) (hy:Ae Z η w y yv (fun _=>False)):POk P Z η w n (Builtin.min_ ts ty #[xv,yv]) K:=by
 unfold Uf at h
 split at h
 ·rename_i k a k' b
  simp only[Ae,Aj] at hx hy
  rw[hx.1,hy.1]
  refine⟨.int k (min a b),.int k (min a b),fun _ _=> ?_,⟨rfl,AO⟩,trivial,h⟩
  have:(if b<a then b else a)=min a b:=by rw[Int.min_def];split<;>split<;>omega
  simp [Builtin.min_,Builtin.min2,this]
 ·exact h.elim
theorem a8P{P:Program}{ts:Array TypeId}{ty:TypeId}{x y:AV}{K:AV→Prop}(h:Ug x y K){Z:FP}{η:Nat→Value}{w:World}{n:Nat}{xv yv:Value}
 (hx:Ae Z η w x xv (fun _=>False)) (hy:Ae Z η w y yv (fun _=>False)):POk P Z η w n (Builtin.max_ ts ty #[xv,yv]) K:=by
 unfold Ug at h
 split at h
 ·rename_i k a k' b
  simp only[Ae,Aj] at hx hy
  rw[hx.1,hy.1]
  refine⟨.int k (max a b),.int k (max a b),fun _ _=> ?_,⟨rfl,AO⟩,trivial,h⟩
  have:(if b>a then b else a)=max a b:=by rw[Int.max_def];split<;>split<;>omega
  simp [Builtin.max_,Builtin.max2,this]
 ·exact h.elim
def Uh(regs:List AV)(x:AV)(K:AV→Prop):Prop:=
 match x with
 | .al id=>match Du id regs with
   |some (.box _ _)=>K (.al id)
   |_=>False
 | .po id k sz o=>K (.po id k sz o)
 | .pf c=>K (.pf c)
 | .clo (.func f) cs=>K (.clo (.func f) cs)
 |_=>False
def Dk(P:Program)(ov:Bool)(regs:List AV)(o:Op)(K:AV→Prop):Prop:=
 match o with
 | .move x=>K (Ba regs x)
 | .assign x=>K (Ba regs x)
 | .pick c x y=>match Ba regs c with
   | .bool b=>Ab b (K (Ba regs x)) (K (Ba regs y))
   |_=>False
 | .binOp op t x y _=>TN P ov op t (Ba regs x) (Ba regs y) K
 | .unOp op _ x=>TO op (Ba regs x) ov K
 | .load t p=>NB P regs t (Ba regs p) K
 | .fieldAddr s x f=>PK P regs s f (Ba regs x) K
 | .indexAddr t x i=>PL P regs t (Ba regs x) (Ba regs i) K
 | .index t x i=>TV P t (Ba regs x) (Ba regs i) K
 | .slice t x lo hi none=>TX P t (Ba regs x) (lo.map (Ba regs)) (hi.map (Ba regs)) K
 | .field t x f=>Ub P t (Ba regs x) f K
 | .extract x i=>Uc (Ba regs x) i K
 | .nilCheck x=>Uh regs (Ba regs x) K
 | .convert s d x=>Ud P ov regs s d (Ba regs x) K
 | .makeFunc (.func fn) first captured=>match first.toList with
   |[]=>K (.clo (.func fn) (captured.toList.map (Ba regs)))
   |[x]=>match captured.toList with
    |[]=>K (.clo (.yield fn) [Ba regs x])
    |_=>False
   |_=>False
 | .call ⟨.builtin .len,args,ts⟩=>match args.toList with
   |[x]=>PN P regs ts[0]? (Ba regs x) K
   |_=>False
 | .call ⟨.builtin .min,args,ts⟩=>match args.toList with
   |[x,y]=>Uf (Ba regs x) (Ba regs y) K
   |_=>False
 | .call ⟨.builtin .max,args,ts⟩=>match args.toList with
   |[x,y]=>Ug (Ba regs x) (Ba regs y) K
   |_=>False
 |_=>False
theorem Gm{α:Type}{a:Array α}{l:List α}(h:a.toList=l):a=l.toArray:=by rw[←h]
theorem NF{Z:FP}{η:Nat→Value}{w:World}{regs:List AV}{a:Act}{S:FP}(hR:An Z η w regs a.tmps.toList S):∀l:List Operand,
 An Z η w (l.map (Ba regs)) (l.map a.eval) (fun _=>False)
 |[]=>by simp [An,emp]
 |x::l=>by
  simp only[List.map,An]
  exact⟨_,_,_,_,rfl,BB _,DX hR x,NF hR l⟩
theorem NG{n:Nat}{regs:List AV}(h:AQ n regs):∀l:List Operand,AQ n (l.map (Ba regs))
 |[]=>trivial
 |x::l=>⟨FI h x,NG h l⟩
theorem Ui{P:Program}{ov:Bool}{regs:List AV}{o:Oper}{K:AV→Prop}(h:Dk P ov regs o.op K){Z:FP}{η:Nat→Value}{w:World}{n:Nat}{a:Act}{S:FP}
 (hR:An Z η w regs a.tmps.toList S) (hI:AQ n regs):
 ∃v r,(∀w',Sees w w'→(execOp a.eval o).run P w'= .ok (.value v) w')∧Ae Z η w r v (fun _=>False)∧AL n r∧K r:=by
 have lift:∀ {s:Sem Value},POk P Z η w n s K→(execOp a.eval o=do pure (.value (←s)))→
  ∃v r,(∀w',Sees w w'→(execOp a.eval o).run P w'= .ok (.value v) w')∧Ae Z η w r v (fun _=>False)∧AL n r∧K r:=by
  intro s hs he
  obtain⟨v,r,h1,h2,h3,h4⟩:=hs
  exact⟨v,r,fun w' hw'=>by rw[he];exact Fc (h1 w' hw'),h2,h3,h4⟩
 have hop:=DX hR
 have hid:=FI hI
 unfold Dk at h
 split at h
 all_goals rename_i heq
 ·exact⟨_,_,fun _ _=>by simp [execOp,heq],hop _,hid _,h⟩
 ·exact⟨_,_,fun _ _=>by simp [execOp,heq],hop _,hid _,h⟩
 ·rename_i c x y
  split at h
  ·rename_i b hb
   have hc:=hop c
   rw[hb] at hc
   simp only[Ae,Aj] at hc
   unfold Ab at h
   cases b
   ·exact⟨a.eval y,_,fun _ _=>by simp [execOp,heq,hc.1,asBool,EM],hop _,hid _,h⟩
   ·exact⟨a.eval x,_,fun _ _=>by simp [execOp,heq,hc.1,asBool,EM],hop _,hid _,h⟩
  ·exact h.elim
 ·exact lift (Zn h (hop _) (hop _)) (by simp [execOp,heq];rfl)
 ·exact lift (a8D h (hop _)) (by simp [execOp,heq])
 ·exact lift (Zo h hR hI (hop _)) (by simp [execOp,heq])
 ·exact lift (a8F h hR (hop _) (hid _)) (by simp [execOp,heq])
 ·exact lift (a8H h hR hI (hop _) (hid _) (hop _)) (by simp [execOp,heq])
 ·exact lift (a8I h (hop _) (hop _)) (by simp [execOp,heq])
 ·rename_i t x lo hi
  refine lift (a8J (lov:=lo.map a.eval) (hiv:=hi.map a.eval) h (hop _) ?_ ?_ ?_ ?_) (by simp [execOp,heq])
  ·intro b hb;cases lo<;>simp at hb;subst hb;exact⟨_,rfl,hop _⟩
  ·intro hb;cases lo<;>simp at hb;rfl
  ·intro b hb;cases hi<;>simp at hb;subst hb;exact⟨_,rfl,hop _⟩
  ·intro hb;cases hi<;>simp at hb;rfl
 ·exact lift (a8K h (hop _) (hid _)) (by simp [execOp,heq])
 ·exact lift (a8L h (hop _) (hid _)) (by simp [execOp,heq])
 ·rename_i x
  have hx:=hop x
  have hxi:=hid x
  unfold Uh at h
  split at h
  ·rename_i id hq
   split at h
   ·rename_i i c ho
    obtain⟨A,hA,hi',hr⟩:=Ep regs _ S _ hR ho
    rw[hq] at hx hxi
    have hx':=hx
    simp only[Ae] at hx' hr
    obtain⟨_,b,arr,ty,S1,e0,_⟩:=hr
    exact⟨a.eval x,_,fun _ _=>by simp [execOp,heq,hx'.1,e0],hx,hxi,h⟩
   ·exact h.elim
  ·rename_i id k sz of' hq
   rw[hq] at hx hxi
   have hx':=hx
   simp only[Ae] at hx'
   exact⟨a.eval x,_,fun _ _=>by simp [execOp,heq,hx'.1],hx,hxi,h⟩
  ·rename_i c hq
   rw[hq] at hx hxi
   have hx':=hx
   simp only[Ae,Aj] at hx'
   obtain⟨_,b,off,arr,ty,fr,cs,rest,S1,e,_⟩:=hx'
   exact⟨a.eval x,_,fun _ _=>by simp [execOp,heq,e,Fv],hx,hxi,h⟩
  ·rename_i f cs hq
   rw[hq] at hx hxi
   have hx':=hx
   simp only[Ae] at hx'
   obtain⟨cs,e,_⟩:=hx'
   exact⟨a.eval x,_,fun _ _=>by simp [execOp,heq,e,Fv],hx,hxi,h⟩
  ·exact h.elim
 ·exact lift (a8M h hR (hop _)) (by simp [execOp,heq])
 ·rename_i fn first captured
  split at h
  ·rename_i hf
   have hf:=Gm hf
   refine⟨.func (.func fn) #[] (captured.map a.eval),.clo (.func fn) (captured.toList.map (Ba regs)),fun _ _=> ?_,?_,?_,h⟩
   ·simp [execOp,heq,Instr.makeFunc,hf,EM]
   ·simp only[Ae]
    exact⟨captured.toList.map a.eval,by simp only[Fv];congr 1;apply Array.ext';simp,NF hR _⟩
   ·simp only[AL];exact NG hI _
  ·rename_i x hf
   have hf:=Gm hf
   split at h
   ·rename_i hc
    have hc:=Gm hc
    refine⟨.func (.func fn) #[a.eval x] #[],.clo (.yield fn) [Ba regs x],fun _ _=> ?_,?_,?_,h⟩
    ·simp [execOp,heq,Instr.makeFunc,hf,hc,EM]
    ·simp only[Ae]
     exact⟨[a.eval x],rfl,by have:=NF (a:=a) hR [x];simpa using this⟩
    ·simp only[AL];have:=NG hI [x];simpa using this
   ·exact h.elim
  ·exact h.elim
 ·rename_i args ts
  split at h
  ·rename_i x hf
   have hf:=Gm hf
   refine lift (a8N (ty:=o.type) h hR (hop _)) (by simp [execOp,heq,hf,resolve,invoke,builtin])
  ·exact h.elim
 ·rename_i args ts
  split at h
  ·rename_i x y hf
   have hf:=Gm hf
   refine lift (a8O (ts:=ts) (ty:=o.type) h (hop _) (hop _)) (by simp [execOp,heq,hf,resolve,invoke,builtin])
  ·exact h.elim
 ·rename_i args ts
  split at h
  ·rename_i x y hf
   have hf:=Gm hf
   refine lift (a8P (ts:=ts) (ty:=o.type) h (hop _) (hop _)) (by simp [execOp,heq,hf,resolve,invoke,builtin])
  ·exact h.elim
 ·exact h.elim
def LM(regs:List AV):Op→Bool
 | .move _=>true
 | .assign _=>true
 | .fieldAddr _ _ _=>true
 | .indexAddr _ _ _=>true
 | .nilCheck _=>true
 | .load _ p=>match Ba regs p with
   | .pf _=>true
   |_=>false
 | .binOp _ _ x y _=>match Ba regs x,Ba regs y with
   | .int _ _,.int _ _=>true
   | .str _,.str _=>true
   |_,_=>false
 | .call ⟨.builtin .len,_,_⟩=>true
 |_=>false
theorem Zx{regs:List AV}{c:Call}(h:LM regs (.call c)=true):∃args ts,c=⟨.builtin .len,args,ts⟩:=by
 unfold LM at h
 split at h<;>first
  |(rename_i heq;cases heq;exact⟨_,_,rfl⟩)
  |(rename_i heq;cases heq;done)
  |(exact absurd h (by simp))
theorem a8Q{P:Program}{ov:Bool}{regs:List AV}{o:Oper}{K:AV→Prop}(he:LM regs o.op=true)(h:Dk P ov regs o.op K){Z:FP}{η:Nat→Value}{w:World}{n:Nat}{a:Act}{S:FP}
 (hR:An Z η w regs a.tmps.toList S) (hI:AQ n regs):
 ∃v r,(∀w',JZ Z w w'→(execOp a.eval o).run P w'= .ok (.value v) w')∧Ae Z η w r v (fun _=>False)∧AL n r∧K r:=by
 have hop:=DX hR
 have hid:=FI hI
 have he0:=he
 cases heq:o.op<;>simp only[heq,LM,Bool.false_eq_true] at he
 case binOp op t x y rt=>
  rw[heq] at h;simp only[Dk] at h
  have key:∀(u v:AV),Ba regs x=u→Ba regs y=v→AL n u→AL n v→(∀w0,Ae Z η w0 u (a.eval x) (fun _=>False))→(∀w0,Ae Z η w0 v (a.eval y) (fun _=>False))→
   ∃v r,(∀w',JZ Z w w'→(execOp a.eval o).run P w'= .ok (.value v) w')∧Ae Z η w r v (fun _=>False)∧AL n r∧K r:=by
   intro u v hu hv _ _ h1 h2
   rw[hu,hv] at h
   obtain⟨q,r,g1,g2,g3,g4⟩:=Zn (w:= {w with heap:= #[]}) (n:=n) (xo:=x) (yo:=y) h (h1 _) (h2 _)
   refine⟨q,r,fun w' _=> ?_,?_,g3,g4⟩
   ·have he:execOp a.eval o=(do eqGuard op t x y (a.eval x) (a.eval y);pure (.value (←binOp op t (a.eval x) (a.eval y)))):=by simp [execOp,heq]
    have g:=g1 w' ⟨Nat.zero_le _,fun b hb=>by simp at hb⟩
    have e2:(do eqGuard op t x y (a.eval x) (a.eval y);pure (Next.value (←binOp op t (a.eval x) (a.eval y))):Sem Next)=(do pure (Next.value (←(do eqGuard op t x y (a.eval x) (a.eval y);binOp op t (a.eval x) (a.eval y)))):Sem Next):=by simp
    rw[he,e2];exact Fc g
   ·exact YZ (w:= {w with heap:= #[]}) (n:=n) (fun b _ hb=>by simp at hb) (fun _ _=>rfl) r q _ g3 (fun b hb=>hb.elim) g2
  split at he
  ·rename_i k1 n1 k2 n2 h1 h2
   have a1:=hop x;have a2:=hop y
   rw[h1] at a1;rw[h2] at a2
   exact key _ _ h1 h2 trivial trivial (fun _=>a1) (fun _=>a2)
  ·rename_i k1 k2 h1 h2
   have a1:=hop x;have a2:=hop y
   rw[h1] at a1;rw[h2] at a2
   exact key _ _ h1 h2 trivial trivial (fun _=>a1) (fun _=>a2)
  ·cases he
 case call c=>
  rw[heq] at he0
  obtain⟨args,ts,rfl⟩:=Zx he0
  rw[heq] at h;simp only[Dk] at h
  split at h
  ·rename_i x hf
   have hf:=Gm hf
   obtain⟨v,r,h1,h2,h3,h4⟩:=Ue (ty:=o.type) (w:=w) (n:=n) h hR (hop x)
   refine⟨v,r,fun w' _=> ?_,h2,h3,h4⟩
   have he:execOp a.eval o=(do pure (.value (←Builtin.len_ ts o.type #[a.eval x]))):=by simp [execOp,heq,hf,resolve,invoke,builtin]
   rw[he];exact Fc (h1 w')
  ·exact h.elim
 case load t p=>
  rw[heq] at h;simp only[Dk] at h
  split at he
  ·rename_i c hc
   unfold NB at h
   rw[hc] at h
   simp only at h
   have hx:=hop p
   rw[hc] at hx
   obtain⟨v,r,h1,h2,h3,h4⟩:=a8E (n:=n) h hx
   refine⟨v,r,fun w' hw'=> ?_,h2,h3,h4⟩
   have he:execOp a.eval o=(do pure (.value (←Instr.loadAt t (a.eval p)))):=by simp [execOp,heq]
   rw[he];exact Fc (h1 w' hw')
  ·cases he
 case indexAddr t x i=>
  rw[heq] at h;simp only[Dk] at h
  obtain⟨v,r,h1,h2,h3,h4⟩:=TU (w:=w) h hR hI (hop _) (hid _) (hop _)
  refine⟨v,r,fun w' _=> ?_,h2,h3,h4⟩
  have he:execOp a.eval o=(do pure (.value (←Instr.indexAt t (a.eval x) (a.eval i)))):=by simp [execOp,heq]
  rw[he];exact Fc (h1 w')
 case move x=>
  rw[heq] at h;simp only[Dk] at h
  exact⟨_,_,fun _ _=>by simp [execOp,heq],hop _,hid _,h⟩
 case assign x=>
  rw[heq] at h;simp only[Dk] at h
  exact⟨_,_,fun _ _=>by simp [execOp,heq],hop _,hid _,h⟩
 case fieldAddr s x f=>
  rw[heq] at h;simp only[Dk] at h
  obtain⟨v,r,h1,h2,h3,h4⟩:=TR (w:=w) h hR (hop _) (hid _)
  refine⟨v,r,fun w' _=> ?_,h2,h3,h4⟩
  have he:execOp a.eval o=(do pure (.value (←Instr.fieldAt s (a.eval x) f))):=by simp [execOp,heq]
  rw[he];exact Fc (h1 w')
 case nilCheck x=>
  rw[heq] at h;simp only[Dk] at h
  have hx:=hop x
  have hxi:=hid x
  unfold Uh at h
  split at h
  ·rename_i id hq
   split at h
   ·rename_i i c ho
    obtain⟨A,hA,hi',hr⟩:=Ep regs _ S _ hR ho
    rw[hq] at hx hxi
    have hx':=hx
    simp only[Ae] at hx' hr
    obtain⟨_,b,arr,ty,S1,e0,_⟩:=hr
    exact⟨a.eval x,_,fun _ _=>by simp [execOp,heq,hx'.1,e0],hx,hxi,h⟩
   ·exact h.elim
  ·rename_i id k sz of' hq
   rw[hq] at hx hxi
   have hx':=hx
   simp only[Ae] at hx'
   exact⟨a.eval x,_,fun _ _=>by simp [execOp,heq,hx'.1],hx,hxi,h⟩
  ·rename_i c hq
   rw[hq] at hx hxi
   have hx':=hx
   simp only[Ae,Aj] at hx'
   obtain⟨_,b,off,arr,ty,fr,cs,rest,S1,e,_⟩:=hx'
   exact⟨a.eval x,_,fun _ _=>by simp [execOp,heq,e,Fv],hx,hxi,h⟩
  ·rename_i f cs hq
   rw[hq] at hx hxi
   have hx':=hx
   simp only[Ae] at hx'
   obtain⟨cs,e,_⟩:=hx'
   exact⟨a.eval x,_,fun _ _=>by simp [execOp,heq,e,Fv],hx,hxi,h⟩
  ·exact h.elim
def PO:Op→Bool
 | .move _=>true
 | .call ⟨.builtin .len,_,_⟩=>true
 |_=>false
theorem a8R{P:Program}{ov:Bool}{regs:List AV}{o:Oper}{K:AV→Prop}(he:PO o.op=true)(h:Dk P ov regs o.op K){Z:FP}{η:Nat→Value}{w:World}{n:Nat}{a:Act}{S:FP}
 (hR:An Z η w regs a.tmps.toList S) (hI:AQ n regs):
 ∃v r,(∀w',(execOp a.eval o).run P w'= .ok (.value v) w')∧Ae Z η w r v (fun _=>False)∧AL n r∧K r:=by
 have hop:=DX hR
 have hid:=FI hI
 unfold PO at he
 split at he
 ·rename_i x heq
  rw[heq] at h;simp only[Dk] at h
  exact⟨_,_,fun _=>by simp [execOp,heq],hop _,hid _,h⟩
 ·rename_i args ts heq
  rw[heq] at h;simp only[Dk] at h
  split at h
  ·rename_i x hf
   have hf:=Gm hf
   obtain⟨v,r,h1,h2,h3,h4⟩:=Ue (ty:=o.type) (w:=w) (n:=n) h hR (hop x)
   refine⟨v,r,fun w'=> ?_,h2,h3,h4⟩
   have he:execOp a.eval o=(do pure (.value (←Builtin.len_ ts o.type #[a.eval x]))):=by simp [execOp,heq,hf,resolve,invoke,builtin]
   rw[he];exact Fc (h1 w')
  ·exact h.elim
 ·cases he
mutual
def BM(id:Nat):AV→Option (AV×AV)
 | .sl true i sz α f xs=>match Nat.beq i id with|true=>some (.sl true i sz α f xs,.hole id)|false=>none
 | .box i c=>match Nat.beq i id with
   |true=>some (.box i c,.hole id)
   |false=>match Dn id c with|some (o,c')=>some (o,.box i c')|none=>none
 | .bv x c=>match Dn id c with|some (o,c')=>some (o,.bv x c')|none=>none
 | .agg fs=>match Dn id fs with|some (o,c')=>some (o,.agg c')|none=>none
 | .tup fs=>match Dn id fs with|some (o,c')=>some (o,.tup c')|none=>none
 | .clo fn fs=>match Dn id fs with|some (o,c')=>some (o,.clo fn c')|none=>none
 |_=>none
def Dn(id:Nat):List AV→Option (AV×List AV)
 |[]=>none
 |a::azs=>match BM id a with
  |some (o,a')=>some (o,a'::azs)
  |none=>match Dn id azs with|some (o,as')=>some (o,a::as')|none=>none
end
mutual
def BU(id:Nat)(o:AV):AV→Option AV
 | .hole i=>match Nat.beq i id with|true=>some o|false=>none
 | .box i c=>match DN id o c with|some c'=>some (.box i c')|none=>none
 | .bv x c=>match DN id o c with|some c'=>some (.bv x c')|none=>none
 | .agg fs=>match DN id o fs with|some c'=>some (.agg c')|none=>none
 | .tup fs=>match DN id o fs with|some c'=>some (.tup c')|none=>none
 | .clo fn fs=>match DN id o fs with|some c'=>some (.clo fn c')|none=>none
 |_=>none
def DN(id:Nat)(o:AV):List AV→Option (List AV)
 |[]=>none
 |a::azs=>match BU id o a with
  |some a'=>some (a'::azs)
  |none=>match DN id o azs with|some as'=>some (a::as')|none=>none
end
theorem Zy{S A B C D:FP}(h:join S A B)(h2:join A C D):∃E,join S C E∧join E D B:=Ns h h2
theorem Hx{S A B C D:FP}(h:join S A B)(h2:join B C D):∃E,join S C E∧join E A D:=by
 obtain⟨E,h3,h4⟩:=IU h (YX h2)
 obtain⟨E',h5,h6⟩:=IU h h2
 refine⟨fun b=>A b∨D b,⟨fun b=> ?_,fun b x y=> ?_⟩,⟨fun _=>Iff.rfl,fun b x y=>h.2 b x ((h2.1 b).2 (.inr y))⟩⟩
 ·rw[h.1 b,h2.1 b];exact⟨fun h=>h.elim (fun h=> .inr (.inl h)) (fun h=>h.elim .inl (fun h=> .inr (.inr h))),fun h=>h.elim (fun h=> .inr (.inl h)) (fun h=>h.elim .inl (fun h=> .inr (.inr h)))⟩
 ·exact y.elim (fun y=>h.2 b y ((h2.1 b).2 (.inl x))) (fun y=>h2.2 b x y)
theorem Zz{Z:FP}{η:Nat→Value}{w:World}{id:Nat}{o:AV}{v:Value}{S:FP}(h:Ae Z η w o v S)(ho:IX id o):Cu v:=by
 cases o<;>simp only[IX] at ho
 case box=>simp only[Ae] at h;obtain⟨_,b,arr,ty,S1,e,_⟩:=h;rw[e];trivial
 case sl own i sz α f xs=>simp only[Ae,Aj] at h;obtain⟨_,a,n,c,e,_⟩:=h;rw[e];trivial
mutual
theorem a8S{Z:FP}{η:Nat→Value}{w:World}{id:Nat}:∀(a:AV) (v:Value) (S:FP) (o a':AV),Ae Z η w a v S→BM id a=some (o,a')→
 ∃A B,join S A B∧IX id o∧Ae Z η w o (η id) A∧Ae Z η w a' v B
 | .sl true i sz α f xs,v,S,o,a',h,hf=>by
   simp only[BM] at hf
   split at hf
   ·rename_i hb;simp only[Option.some.injEq,Prod.mk.injEq] at hf;obtain⟨rfl,rfl⟩:=hf
    have:=Nat.eq_of_beq_eq_true hb;subst this
    have h':=h
    simp only[Ae] at h'
    have hc:=Zz h (id:=i) rfl
    refine⟨S,fun _=>False,Ia S,rfl,?_,?_⟩
    ·rw[←h'.1 trivial];exact h
    ·simp only[Ae];exact⟨h'.1 trivial,hc,AO⟩
   ·simp at hf
 | .box i c,v,S,o,a',h,hf=>by
   simp only[BM] at hf
   split at hf
   ·rename_i hb;simp only[Option.some.injEq,Prod.mk.injEq] at hf;obtain⟨rfl,rfl⟩:=hf
    have:=Nat.eq_of_beq_eq_true hb;subst this
    have h':=h
    simp only[Ae] at h'
    have hc:=Zz h (id:=i) rfl
    refine⟨S,fun _=>False,Ia S,rfl,?_,?_⟩
    ·rw[←h'.1];exact h
    ·simp only[Ae];exact⟨h'.1,hc,AO⟩
   ·split at hf
    ·rename_i o' c' ht
     simp only[Option.some.injEq,Prod.mk.injEq] at hf;obtain⟨rfl,rfl⟩:=hf
     simp only[Ae] at h
     obtain⟨e0,b,arr,ty,S1,e,hb,hr,hj⟩:=h
     obtain⟨A,B,hj2,h1,h2,h3⟩:=Er c _ S1 _ _ hr ht
     obtain⟨E,h5,h6⟩:=Hx hj hj2
     refine⟨A,E,h5,h1,h2,?_⟩
     simp only[Ae]
     exact⟨e0,b,arr,ty,B,e,hb,h3,h6⟩
    ·cases hf
 | .bv x c,v,S,o,a',h,hf=>by
   simp only[BM] at hf
   split at hf
   ·rename_i o' c' ht
    simp only[Option.some.injEq,Prod.mk.injEq] at hf;obtain⟨rfl,rfl⟩:=hf
    simp only[Ae] at h
    obtain⟨e0,b,arr,ty,S1,e,hb,hr,hj⟩:=h
    obtain⟨A,B,hj2,h1,h2,h3⟩:=Er c _ S1 _ _ hr ht
    obtain⟨E,h5,h6⟩:=Hx hj hj2
    refine⟨A,E,h5,h1,h2,?_⟩
    simp only[Ae]
    exact⟨e0,b,arr,ty,B,e,hb,h3,h6⟩
   ·cases hf
 | .hv _,v,S,o,a',h,hf=>by simp [BM] at hf
 | .agg fs,v,S,o,a',h,hf=>by
   simp only[BM] at hf
   split at hf
   ·rename_i o' c' ht
    simp only[Option.some.injEq,Prod.mk.injEq] at hf;obtain⟨rfl,rfl⟩:=hf
    simp only[Ae] at h
    obtain⟨cs,e,hr⟩:=h
    obtain⟨A,B,hj2,h1,h2,h3⟩:=Er fs _ S _ _ hr ht
    refine⟨A,B,hj2,h1,h2,?_⟩
    simp only[Ae];exact⟨cs,e,h3⟩
   ·cases hf
 | .tup fs,v,S,o,a',h,hf=>by
   simp only[BM] at hf
   split at hf
   ·rename_i o' c' ht
    simp only[Option.some.injEq,Prod.mk.injEq] at hf;obtain⟨rfl,rfl⟩:=hf
    simp only[Ae] at h
    obtain⟨cs,e,hr⟩:=h
    obtain⟨A,B,hj2,h1,h2,h3⟩:=Er fs _ S _ _ hr ht
    refine⟨A,B,hj2,h1,h2,?_⟩
    simp only[Ae];exact⟨cs,e,h3⟩
   ·cases hf
 | .clo fn fs,v,S,o,a',h,hf=>by
   simp only[BM] at hf
   split at hf
   ·rename_i o' c' ht
    simp only[Option.some.injEq,Prod.mk.injEq] at hf;obtain⟨rfl,rfl⟩:=hf
    simp only[Ae] at h
    obtain⟨cs,e,hr⟩:=h
    obtain⟨A,B,hj2,h1,h2,h3⟩:=Er fs _ S _ _ hr ht
    refine⟨A,B,hj2,h1,h2,?_⟩
    simp only[Ae];exact⟨cs,e,h3⟩
   ·cases hf
 | .sl false i sz α f xs,v,S,o,a',h,hf=>by simp [BM] at hf
 | .int _ _,v,S,o,a',h,hf=>by simp [BM] at hf
 | .bool _,v,S,o,a',h,hf=>by simp [BM] at hf
 | .str _,v,S,o,a',h,hf=>by simp [BM] at hf
 | .val _,v,S,o,a',h,hf=>by simp [BM] at hf
 | .any,v,S,o,a',h,hf=>by simp [BM] at hf
 | .top,v,S,o,a',h,hf=>by simp [BM] at hf
 | .nil,v,S,o,a',h,hf=>by simp [BM] at hf
 | .hole _,v,S,o,a',h,hf=>by simp [BM] at hf
 | .al _,v,S,o,a',h,hf=>by simp [BM] at hf
 | .po _ _ _ _,v,S,o,a',h,hf=>by simp [BM] at hf
 | .pf _,v,S,o,a',h,hf=>by simp [BM] at hf
theorem Er{Z:FP}{η:Nat→Value}{w:World}{id:Nat}:∀(azs:List AV) (cs:List Value) (S:FP) (o:AV) (as':List AV),An Z η w azs cs S→Dn id azs=some (o,as')→
 ∃A B,join S A B∧IX id o∧Ae Z η w o (η id) A∧An Z η w as' cs B
 |[],cs,S,o,as',h,hf=>by simp [Dn] at hf
 |a::azs,cs,S,o,as',h,hf=>by
  simp only[An] at h
  obtain⟨v,cs',A,B,e,hj,h1,h2⟩:=h
  simp only[Dn] at hf
  split at hf
  ·rename_i o' a' ht
   simp only[Option.some.injEq,Prod.mk.injEq] at hf;obtain⟨rfl,rfl⟩:=hf
   obtain⟨A1,B1,hj2,x,y,z⟩:=a8S a v A _ _ h1 ht
   obtain⟨E,h5,h6⟩:=Zy hj hj2
   refine⟨A1,E,h5,x,y,?_⟩
   simp only[An];exact⟨v,cs',B1,B,e,h6,z,h2⟩
  ·split at hf
   ·rename_i o' c' ht
    simp only[Option.some.injEq,Prod.mk.injEq] at hf;obtain⟨rfl,rfl⟩:=hf
    obtain⟨A1,B1,hj2,x,y,z⟩:=Er azs cs' B _ _ h2 ht
    obtain⟨E,h5,h6⟩:=Hx hj hj2
    refine⟨A1,E,h5,x,y,?_⟩
    simp only[An];exact⟨v,cs',A,B1,e,h6,h1,z⟩
   ·cases hf
end
mutual
theorem a8T{n id:Nat}:∀(a o a':AV),AL n a→BM id a=some (o,a')→id<n∧AL n o∧AL n a'
 | .sl true i sz α f xs,o,a',h,hf=>by
   simp only[BM] at hf
   split at hf
   ·rename_i hb;simp only[Option.some.injEq,Prod.mk.injEq] at hf;obtain⟨rfl,rfl⟩:=hf
    have:=Nat.eq_of_beq_eq_true hb;subst this
    have h':=h;simp only[AL] at h'
    exact⟨h' trivial,h,h' trivial⟩
   ·simp at hf
 | .box i c,o,a',h,hf=>by
   simp only[BM] at hf
   split at hf
   ·rename_i hb;simp only[Option.some.injEq,Prod.mk.injEq] at hf;obtain⟨rfl,rfl⟩:=hf
    have:=Nat.eq_of_beq_eq_true hb;subst this
    have h':=h;simp only[AL] at h'
    exact⟨h'.1,h,h'.1⟩
   ·split at hf
    ·rename_i o' c' ht
     simp only[Option.some.injEq,Prod.mk.injEq] at hf;obtain⟨rfl,rfl⟩:=hf
     simp only[AL] at h ⊢
     obtain⟨x,y,z⟩:=EN c _ _ h.2 ht
     exact⟨x,y,h.1,z⟩
    ·cases hf
 | .bv _ c,o,a',h,hf=>by
   simp only[BM] at hf
   split at hf
   ·rename_i o' c' ht
    simp only[Option.some.injEq,Prod.mk.injEq] at hf;obtain⟨rfl,rfl⟩:=hf
    simp only[AL] at h ⊢;exact EN c _ _ h ht
   ·cases hf
 | .hv _,o,a',h,hf=>by simp [BM] at hf
 | .agg fs,o,a',h,hf=>by
   simp only[BM] at hf
   split at hf
   ·rename_i o' c' ht
    simp only[Option.some.injEq,Prod.mk.injEq] at hf;obtain⟨rfl,rfl⟩:=hf
    simp only[AL] at h ⊢;exact EN fs _ _ h ht
   ·cases hf
 | .tup fs,o,a',h,hf=>by
   simp only[BM] at hf
   split at hf
   ·rename_i o' c' ht
    simp only[Option.some.injEq,Prod.mk.injEq] at hf;obtain⟨rfl,rfl⟩:=hf
    simp only[AL] at h ⊢;exact EN fs _ _ h ht
   ·cases hf
 | .clo fn fs,o,a',h,hf=>by
   simp only[BM] at hf
   split at hf
   ·rename_i o' c' ht
    simp only[Option.some.injEq,Prod.mk.injEq] at hf;obtain⟨rfl,rfl⟩:=hf
    simp only[AL] at h ⊢;exact EN fs _ _ h ht
   ·cases hf
 | .sl false i sz α f xs,o,a',h,hf=>by simp [BM] at hf
 | .int _ _,o,a',h,hf=>by simp [BM] at hf
 | .bool _,o,a',h,hf=>by simp [BM] at hf
 | .str _,o,a',h,hf=>by simp [BM] at hf
 | .val _,o,a',h,hf=>by simp [BM] at hf
 | .any,o,a',h,hf=>by simp [BM] at hf
 | .top,o,a',h,hf=>by simp [BM] at hf
 | .nil,o,a',h,hf=>by simp [BM] at hf
 | .hole _,o,a',h,hf=>by simp [BM] at hf
 | .al _,o,a',h,hf=>by simp [BM] at hf
 | .po _ _ _ _,o,a',h,hf=>by simp [BM] at hf
 | .pf _,o,a',h,hf=>by simp [BM] at hf
theorem EN{n id:Nat}:∀(azs:List AV) (o:AV) (as':List AV),AQ n azs→Dn id azs=some (o,as')→id<n∧AL n o∧AQ n as'
 |[],o,as',h,hf=>by simp [Dn] at hf
 |a::azs,o,as',h,hf=>by
  simp only[Dn] at hf
  split at hf
  ·rename_i o' a' ht
   simp only[Option.some.injEq,Prod.mk.injEq] at hf;obtain⟨rfl,rfl⟩:=hf
   obtain⟨x,y,z⟩:=a8T a _ _ h.1 ht
   exact⟨x,y,z,h.2⟩
  ·split at hf
   ·rename_i o' c' ht
    simp only[Option.some.injEq,Prod.mk.injEq] at hf;obtain⟨rfl,rfl⟩:=hf
    obtain⟨x,y,z⟩:=EN azs _ _ h.2 ht
    exact⟨x,y,h.1,z⟩
   ·cases hf
end
mutual
theorem a8U{Z:FP}{η:Nat→Value}{w:World}{id:Nat}{o:AV}{A:FP}(ho:Ae Z η w o (η id) A):∀(a:AV) (v:Value) (B S:FP) (a':AV),Ae Z η w a v B→join S A B→
 BU id o a=some a'→Ae Z η w a' v S
 | .hole i,v,B,S,a',h,hj,hf=>by
   simp only[BU] at hf
   split at hf
   ·rename_i hb
    simp only[Option.some.injEq] at hf;subst hf
    have:=Nat.eq_of_beq_eq_true hb;subst this
    simp only[Ae] at h
    rw[h.1,DW (YW hj h.2.2)];exact ho
   ·cases hf
 | .box i c,v,B,S,a',h,hj,hf=>by
   simp only[BU] at hf
   split at hf
   ·rename_i c' hc
    simp only[Option.some.injEq] at hf;subst hf
    simp only[Ae] at h ⊢
    obtain⟨e0,b,arr,ty,S1,e,hb,hr,hj2⟩:=h
    obtain⟨E,h5,h6⟩:=Hx hj hj2
    exact⟨e0,b,arr,ty,E,e,hb,Gn ho c _ S1 E _ hr h6 hc,h5⟩
   ·cases hf
 | .bv x c,v,B,S,a',h,hj,hf=>by
   simp only[BU] at hf
   split at hf
   ·rename_i c' hc
    simp only[Option.some.injEq] at hf;subst hf
    simp only[Ae] at h ⊢
    obtain⟨e0,b,arr,ty,S1,e,hb,hr,hj2⟩:=h
    obtain⟨E,h5,h6⟩:=Hx hj hj2
    exact⟨e0,b,arr,ty,E,e,hb,Gn ho c _ S1 E _ hr h6 hc,h5⟩
   ·cases hf
 | .hv _,v,B,S,a',h,hj,hf=>by simp [BU] at hf
 | .agg fs,v,B,S,a',h,hj,hf=>by
   simp only[BU] at hf
   split at hf
   ·rename_i c' hc
    simp only[Option.some.injEq] at hf;subst hf
    simp only[Ae] at h ⊢
    obtain⟨cs,e,hr⟩:=h
    exact⟨cs,e,Gn ho fs _ B S _ hr hj hc⟩
   ·cases hf
 | .tup fs,v,B,S,a',h,hj,hf=>by
   simp only[BU] at hf
   split at hf
   ·rename_i c' hc
    simp only[Option.some.injEq] at hf;subst hf
    simp only[Ae] at h ⊢
    obtain⟨cs,e,hr⟩:=h
    exact⟨cs,e,Gn ho fs _ B S _ hr hj hc⟩
   ·cases hf
 | .clo fn fs,v,B,S,a',h,hj,hf=>by
   simp only[BU] at hf
   split at hf
   ·rename_i c' hc
    simp only[Option.some.injEq] at hf;subst hf
    simp only[Ae] at h ⊢
    obtain⟨cs,e,hr⟩:=h
    exact⟨cs,e,Gn ho fs _ B S _ hr hj hc⟩
   ·cases hf
 | .sl own i sz α f xs,v,B,S,a',h,hj,hf=>by simp [BU] at hf
 | .int _ _,v,B,S,a',h,hj,hf=>by simp [BU] at hf
 | .bool _,v,B,S,a',h,hj,hf=>by simp [BU] at hf
 | .str _,v,B,S,a',h,hj,hf=>by simp [BU] at hf
 | .val _,v,B,S,a',h,hj,hf=>by simp [BU] at hf
 | .any,v,B,S,a',h,hj,hf=>by simp [BU] at hf
 | .top,v,B,S,a',h,hj,hf=>by simp [BU] at hf
 | .nil,v,B,S,a',h,hj,hf=>by simp [BU] at hf
 | .al _,v,B,S,a',h,hj,hf=>by simp [BU] at hf
 | .po _ _ _ _,v,B,S,a',h,hj,hf=>by simp [BU] at hf
 | .pf _,v,B,S,a',h,hj,hf=>by simp [BU] at hf
theorem Gn{Z:FP}{η:Nat→Value}{w:World}{id:Nat}{o:AV}{A:FP}(ho:Ae Z η w o (η id) A):∀(azs:List AV) (cs:List Value) (B S:FP) (as':List AV),An Z η w azs cs B→join S A B→
 DN id o azs=some as'→An Z η w as' cs S
 |[],cs,B,S,as',h,hj,hf=>by simp [DN] at hf
 |a::azs,cs,B,S,as',h,hj,hf=>by
  simp only[An] at h
  obtain⟨v,cs',A1,B1,e,hj2,h1,h2⟩:=h
  simp only[DN] at hf
  split at hf
  ·rename_i a1 ht
   simp only[Option.some.injEq] at hf;subst hf
   obtain⟨E,h5,h6⟩:=IU hj hj2
   simp only[An]
   exact⟨v,cs',E,B1,e,h5,a8U ho a v A1 E _ h1 h6 ht,h2⟩
  ·split at hf
   ·rename_i as1 ht
    simp only[Option.some.injEq] at hf;subst hf
    obtain⟨E,h5,h6⟩:=Hx hj hj2
    simp only[An]
    exact⟨v,cs',A1,E,e,h5,h1,Gn ho azs cs' B1 E _ h2 h6 ht⟩
   ·cases hf
end
mutual
theorem a8V{n id:Nat}{o:AV}(ho:AL n o):∀(a a':AV),AL n a→BU id o a=some a'→AL n a'
 | .hole i,a',h,hf=>by
   simp only[BU] at hf
   split at hf
   ·simp only[Option.some.injEq] at hf;subst hf;exact ho
   ·cases hf
 | .box i c,a',h,hf=>by
   simp only[BU] at hf
   split at hf
   ·rename_i c' hc
    simp only[Option.some.injEq] at hf;subst hf
    simp only[AL] at h ⊢;exact⟨h.1,Gp ho c _ h.2 hc⟩
   ·cases hf
 | .bv _ c,a',h,hf=>by
   simp only[BU] at hf
   split at hf
   ·rename_i c' hc
    simp only[Option.some.injEq] at hf;subst hf
    simp only[AL] at h ⊢;exact Gp ho c _ h hc
   ·cases hf
 | .hv _,a',h,hf=>by simp [BU] at hf
 | .agg fs,a',h,hf=>by
   simp only[BU] at hf
   split at hf
   ·rename_i c' hc
    simp only[Option.some.injEq] at hf;subst hf
    simp only[AL] at h ⊢;exact Gp ho fs _ h hc
   ·cases hf
 | .tup fs,a',h,hf=>by
   simp only[BU] at hf
   split at hf
   ·rename_i c' hc
    simp only[Option.some.injEq] at hf;subst hf
    simp only[AL] at h ⊢;exact Gp ho fs _ h hc
   ·cases hf
 | .clo fn fs,a',h,hf=>by
   simp only[BU] at hf
   split at hf
   ·rename_i c' hc
    simp only[Option.some.injEq] at hf;subst hf
    simp only[AL] at h ⊢;exact Gp ho fs _ h hc
   ·cases hf
 | .sl own i sz α f xs,a',h,hf=>by simp [BU] at hf
 | .int _ _,a',h,hf=>by simp [BU] at hf
 | .bool _,a',h,hf=>by simp [BU] at hf
 | .str _,a',h,hf=>by simp [BU] at hf
 | .val _,a',h,hf=>by simp [BU] at hf
 | .any,a',h,hf=>by simp [BU] at hf
 | .top,a',h,hf=>by simp [BU] at hf
 | .nil,a',h,hf=>by simp [BU] at hf
 | .al _,a',h,hf=>by simp [BU] at hf
 | .po _ _ _ _,a',h,hf=>by simp [BU] at hf
 | .pf _,a',h,hf=>by simp [BU] at hf
theorem Gp{n id:Nat}{o:AV}(ho:AL n o):∀(azs as':List AV),AQ n azs→DN id o azs=some as'→AQ n as'
 |[],as',h,hf=>by simp [DN] at hf
 |a::azs,as',h,hf=>by
  simp only[DN] at hf
  split at hf
  ·rename_i a1 ht
   simp only[Option.some.injEq] at hf;subst hf
   exact⟨a8V ho a _ h.1 ht,h.2⟩
  ·split at hf
   ·rename_i as1 ht
    simp only[Option.some.injEq] at hf;subst hf
    exact⟨h.1,Gp ho azs _ h.2 ht⟩
   ·cases hf
end
mutual
def BV:AV→Option (Value×List AV×AV)
 | .bv x c=>some (x,c,.hv x)
 | .box i c=>match Gq c with|some (x,d,c')=>some (x,d,.box i c')|none=>none
 | .agg fs=>match Gq fs with|some (x,d,c')=>some (x,d,.agg c')|none=>none
 | .tup fs=>match Gq fs with|some (x,d,c')=>some (x,d,.tup c')|none=>none
 |_=>none
def Gq:List AV→Option (Value×List AV×List AV)
 |[]=>none
 |a::azs=>match BV a with
  |some (x,d,a')=>some (x,d,a'::azs)
  |none=>match Gq azs with|some (x,d,as')=>some (x,d,a::as')|none=>none
end
mutual
def BW(c:List AV):AV→Option (Value×AV)
 | .hv x=>some (x,.bv x c)
 | .box i d=>match FJ c d with|some (x,d')=>some (x,.box i d')|none=>none
 | .agg fs=>match FJ c fs with|some (x,d')=>some (x,.agg d')|none=>none
 | .tup fs=>match FJ c fs with|some (x,d')=>some (x,.tup d')|none=>none
 |_=>none
def FJ(c:List AV):List AV→Option (Value×List AV)
 |[]=>none
 |a::azs=>match BW c a with
  |some (x,a')=>some (x,a'::azs)
  |none=>match FJ c azs with|some (x,as')=>some (x,a::as')|none=>none
end
mutual
theorem a8W{Z:FP}{η:Nat→Value}{w:World}:∀(a:AV) (v:Value) (S:FP) (x:Value) (c:List AV) (a':AV),Ae Z η w a v S→BV a=some (x,c,a')→
 ∃A B,join S A B∧Ae Z η w (.bv x c) x A∧Ae Z η w a' v B
 | .bv y d,v,S,x,c,a',h,hf=>by
   simp only[BV,Option.some.injEq,Prod.mk.injEq] at hf
   obtain⟨rfl,rfl,rfl⟩:=hf
   have h':=h
   simp only[Ae] at h'
   obtain⟨e0,b,arr,ty,S1,e,_⟩:=h'
   refine⟨S,fun _=>False,Ia S,by rw[←e0];rw[←e0] at h;exact h,?_⟩
   simp only[Ae,Aj];exact⟨e0,by rw[←e0,e];trivial,AO⟩
 | .box i d,v,S,x,c,a',h,hf=>by
   simp only[BV] at hf
   split at hf
   ·rename_i x' d' c' ht
    simp only[Option.some.injEq,Prod.mk.injEq] at hf;obtain⟨rfl,rfl,rfl⟩:=hf
    simp only[Ae] at h
    obtain⟨e0,b,arr,ty,S1,e,hb,hr,hj⟩:=h
    obtain⟨A,B,hj2,h1,h2⟩:=LN d _ S1 _ _ _ hr ht
    obtain⟨E,h5,h6⟩:=Hx hj hj2
    refine⟨A,E,h5,h1,?_⟩
    simp only[Ae]
    exact⟨e0,b,arr,ty,B,e,hb,h2,h6⟩
   ·cases hf
 | .agg fs,v,S,x,c,a',h,hf=>by
   simp only[BV] at hf
   split at hf
   ·rename_i x' d' c' ht
    simp only[Option.some.injEq,Prod.mk.injEq] at hf;obtain⟨rfl,rfl,rfl⟩:=hf
    simp only[Ae] at h
    obtain⟨cs,e,hr⟩:=h
    obtain⟨A,B,hj2,h1,h2⟩:=LN fs _ S _ _ _ hr ht
    exact⟨A,B,hj2,h1,by simp only[Ae];exact⟨cs,e,h2⟩⟩
   ·cases hf
 | .tup fs,v,S,x,c,a',h,hf=>by
   simp only[BV] at hf
   split at hf
   ·rename_i x' d' c' ht
    simp only[Option.some.injEq,Prod.mk.injEq] at hf;obtain⟨rfl,rfl,rfl⟩:=hf
    simp only[Ae] at h
    obtain⟨cs,e,hr⟩:=h
    obtain⟨A,B,hj2,h1,h2⟩:=LN fs _ S _ _ _ hr ht
    exact⟨A,B,hj2,h1,by simp only[Ae];exact⟨cs,e,h2⟩⟩
   ·cases hf
 | .clo _ _,v,S,x,c,a',h,hf=>by simp [BV] at hf
 | .sl _ _ _ _ _ _,v,S,x,c,a',h,hf=>by simp [BV] at hf
 | .int _ _,v,S,x,c,a',h,hf=>by simp [BV] at hf
 | .bool _,v,S,x,c,a',h,hf=>by simp [BV] at hf
 | .str _,v,S,x,c,a',h,hf=>by simp [BV] at hf
 | .val _,v,S,x,c,a',h,hf=>by simp [BV] at hf
 | .any,v,S,x,c,a',h,hf=>by simp [BV] at hf
 | .top,v,S,x,c,a',h,hf=>by simp [BV] at hf
 | .nil,v,S,x,c,a',h,hf=>by simp [BV] at hf
 | .hole _,v,S,x,c,a',h,hf=>by simp [BV] at hf
 | .hv _,v,S,x,c,a',h,hf=>by simp [BV] at hf
 | .al _,v,S,x,c,a',h,hf=>by simp [BV] at hf
 | .po _ _ _ _,v,S,x,c,a',h,hf=>by simp [BV] at hf
 | .pf _,v,S,x,c,a',h,hf=>by simp [BV] at hf
theorem LN{Z:FP}{η:Nat→Value}{w:World}:∀(azs:List AV) (cs:List Value) (S:FP) (x:Value) (c:List AV) (as':List AV),An Z η w azs cs S→Gq azs=some (x,c,as')→
 ∃A B,join S A B∧Ae Z η w (.bv x c) x A∧An Z η w as' cs B
 |[],cs,S,x,c,as',h,hf=>by simp [Gq] at hf
 |a::azs,cs,S,x,c,as',h,hf=>by
  simp only[An] at h
  obtain⟨v,cs',A,B,e,hj,h1,h2⟩:=h
  simp only[Gq] at hf
  split at hf
  ·rename_i x' d' a' ht
   simp only[Option.some.injEq,Prod.mk.injEq] at hf;obtain⟨rfl,rfl,rfl⟩:=hf
   obtain⟨A1,B1,hj2,y,z⟩:=a8W a v A _ _ _ h1 ht
   obtain⟨E,h5,h6⟩:=Zy hj hj2
   refine⟨A1,E,h5,y,?_⟩
   simp only[An];exact⟨v,cs',B1,B,e,h6,z,h2⟩
  ·split at hf
   ·rename_i x' d' c' ht
    simp only[Option.some.injEq,Prod.mk.injEq] at hf;obtain⟨rfl,rfl,rfl⟩:=hf
    obtain⟨A1,B1,hj2,y,z⟩:=LN azs cs' B _ _ _ h2 ht
    obtain⟨E,h5,h6⟩:=Hx hj hj2
    refine⟨A1,E,h5,y,?_⟩
    simp only[An];exact⟨v,cs',A,B1,e,h6,h1,z⟩
   ·cases hf
end
mutual
theorem a8X{n:Nat}:∀(a:AV) (x:Value) (c:List AV) (a':AV),AL n a→BV a=some (x,c,a')→AQ n c∧AL n a'
 | .bv y d,x,c,a',h,hf=>by
   simp only[BV,Option.some.injEq,Prod.mk.injEq] at hf
   obtain⟨rfl,rfl,rfl⟩:=hf
   simp only[AL] at h;exact⟨h,trivial⟩
 | .box i d,x,c,a',h,hf=>by
   simp only[BV] at hf
   split at hf
   ·rename_i x' d' c' ht
    simp only[Option.some.injEq,Prod.mk.injEq] at hf;obtain⟨rfl,rfl,rfl⟩:=hf
    simp only[AL] at h ⊢
    obtain⟨y,z⟩:=LO d _ _ _ h.2 ht
    exact⟨y,h.1,z⟩
   ·cases hf
 | .agg fs,x,c,a',h,hf=>by
   simp only[BV] at hf
   split at hf
   ·rename_i x' d' c' ht
    simp only[Option.some.injEq,Prod.mk.injEq] at hf;obtain⟨rfl,rfl,rfl⟩:=hf
    simp only[AL] at h ⊢;exact LO fs _ _ _ h ht
   ·cases hf
 | .tup fs,x,c,a',h,hf=>by
   simp only[BV] at hf
   split at hf
   ·rename_i x' d' c' ht
    simp only[Option.some.injEq,Prod.mk.injEq] at hf;obtain⟨rfl,rfl,rfl⟩:=hf
    simp only[AL] at h ⊢;exact LO fs _ _ _ h ht
   ·cases hf
 | .clo _ _,x,c,a',h,hf=>by simp [BV] at hf
 | .sl _ _ _ _ _ _,x,c,a',h,hf=>by simp [BV] at hf
 | .int _ _,x,c,a',h,hf=>by simp [BV] at hf
 | .bool _,x,c,a',h,hf=>by simp [BV] at hf
 | .str _,x,c,a',h,hf=>by simp [BV] at hf
 | .val _,x,c,a',h,hf=>by simp [BV] at hf
 | .any,x,c,a',h,hf=>by simp [BV] at hf
 | .top,x,c,a',h,hf=>by simp [BV] at hf
 | .nil,x,c,a',h,hf=>by simp [BV] at hf
 | .hole _,x,c,a',h,hf=>by simp [BV] at hf
 | .hv _,x,c,a',h,hf=>by simp [BV] at hf
 | .al _,x,c,a',h,hf=>by simp [BV] at hf
 | .po _ _ _ _,x,c,a',h,hf=>by simp [BV] at hf
 | .pf _,x,c,a',h,hf=>by simp [BV] at hf
theorem LO{n:Nat}:∀(azs:List AV) (x:Value) (c:List AV) (as':List AV),AQ n azs→Gq azs=some (x,c,as')→AQ n c∧AQ n as'
 |[],x,c,as',h,hf=>by simp [Gq] at hf
 |a::azs,x,c,as',h,hf=>by
  simp only[Gq] at hf
  split at hf
  ·rename_i x' d' a' ht
   simp only[Option.some.injEq,Prod.mk.injEq] at hf;obtain⟨rfl,rfl,rfl⟩:=hf
   obtain⟨y,z⟩:=a8X a _ _ _ h.1 ht
   exact⟨y,z,h.2⟩
  ·split at hf
   ·rename_i x' d' c' ht
    simp only[Option.some.injEq,Prod.mk.injEq] at hf;obtain⟨rfl,rfl,rfl⟩:=hf
    obtain⟨y,z⟩:=LO azs _ _ _ h.2 ht
    exact⟨y,h.1,z⟩
   ·cases hf
end
mutual
theorem a8Y{Z:FP}{η:Nat→Value}{w:World}{c:List AV}{A:FP}:∀(a:AV) (v:Value) (B S:FP) (x:Value) (a':AV),Ae Z η w a v B→join S A B→
 BW c a=some (x,a')→Ae Z η w (.bv x c) x A→Ae Z η w a' v S
 | .hv y,v,B,S,x,a',h,hj,hf,ho=>by
   simp only[BW,Option.some.injEq,Prod.mk.injEq] at hf
   obtain⟨rfl,rfl⟩:=hf
   simp only[Ae,Aj] at h
   rw[h.1,DW (YW hj h.2.2)];exact ho
 | .box i d,v,B,S,x,a',h,hj,hf,ho=>by
   simp only[BW] at hf
   split at hf
   ·rename_i x' c' hc
    simp only[Option.some.injEq,Prod.mk.injEq] at hf;obtain⟨rfl,rfl⟩:=hf
    simp only[Ae] at h ⊢
    obtain⟨e0,b,arr,ty,S1,e,hb,hr,hj2⟩:=h
    obtain⟨E,h5,h6⟩:=Hx hj hj2
    exact⟨e0,b,arr,ty,E,e,hb,NH d _ S1 E _ _ hr h6 hc ho,h5⟩
   ·cases hf
 | .agg fs,v,B,S,x,a',h,hj,hf,ho=>by
   simp only[BW] at hf
   split at hf
   ·rename_i x' c' hc
    simp only[Option.some.injEq,Prod.mk.injEq] at hf;obtain⟨rfl,rfl⟩:=hf
    simp only[Ae] at h ⊢
    obtain⟨cs,e,hr⟩:=h
    exact⟨cs,e,NH fs _ B S _ _ hr hj hc ho⟩
   ·cases hf
 | .tup fs,v,B,S,x,a',h,hj,hf,ho=>by
   simp only[BW] at hf
   split at hf
   ·rename_i x' c' hc
    simp only[Option.some.injEq,Prod.mk.injEq] at hf;obtain⟨rfl,rfl⟩:=hf
    simp only[Ae] at h ⊢
    obtain⟨cs,e,hr⟩:=h
    exact⟨cs,e,NH fs _ B S _ _ hr hj hc ho⟩
   ·cases hf
 | .bv _ _,v,B,S,x,a',h,hj,hf,ho=>by simp [BW] at hf
 | .clo _ _,v,B,S,x,a',h,hj,hf,ho=>by simp [BW] at hf
 | .sl _ _ _ _ _ _,v,B,S,x,a',h,hj,hf,ho=>by simp [BW] at hf
 | .int _ _,v,B,S,x,a',h,hj,hf,ho=>by simp [BW] at hf
 | .bool _,v,B,S,x,a',h,hj,hf,ho=>by simp [BW] at hf
 | .str _,v,B,S,x,a',h,hj,hf,ho=>by simp [BW] at hf
 | .val _,v,B,S,x,a',h,hj,hf,ho=>by simp [BW] at hf
 | .any,v,B,S,x,a',h,hj,hf,ho=>by simp [BW] at hf
 | .top,v,B,S,x,a',h,hj,hf,ho=>by simp [BW] at hf
 | .nil,v,B,S,x,a',h,hj,hf,ho=>by simp [BW] at hf
 | .hole _,v,B,S,x,a',h,hj,hf,ho=>by simp [BW] at hf
 | .al _,v,B,S,x,a',h,hj,hf,ho=>by simp [BW] at hf
 | .po _ _ _ _,v,B,S,x,a',h,hj,hf,ho=>by simp [BW] at hf
 | .pf _,v,B,S,x,a',h,hj,hf,ho=>by simp [BW] at hf
theorem NH{Z:FP}{η:Nat→Value}{w:World}{c:List AV}{A:FP}:∀(azs:List AV) (cs:List Value) (B S:FP) (x:Value) (as':List AV),An Z η w azs cs B→join S A B→
 FJ c azs=some (x,as')→Ae Z η w (.bv x c) x A→An Z η w as' cs S
 |[],cs,B,S,x,as',h,hj,hf,ho=>by simp [FJ] at hf
 |a::azs,cs,B,S,x,as',h,hj,hf,ho=>by
  simp only[An] at h
  obtain⟨v,cs',A1,B1,e,hj2,h1,h2⟩:=h
  simp only[FJ] at hf
  split at hf
  ·rename_i x' a1 ht
   simp only[Option.some.injEq,Prod.mk.injEq] at hf;obtain⟨rfl,rfl⟩:=hf
   obtain⟨E,h5,h6⟩:=IU hj hj2
   simp only[An]
   exact⟨v,cs',E,B1,e,h5,a8Y a v A1 E _ _ h1 h6 ht ho,h2⟩
  ·split at hf
   ·rename_i x' as1 ht
    simp only[Option.some.injEq,Prod.mk.injEq] at hf;obtain⟨rfl,rfl⟩:=hf
    obtain⟨E,h5,h6⟩:=Hx hj hj2
    simp only[An]
    exact⟨v,cs',A1,E,e,h5,h1,NH azs cs' B1 E _ _ h2 h6 ht ho⟩
   ·cases hf
end
mutual
theorem a8Z{n:Nat}{c:List AV}(hc:AQ n c):∀(a:AV) (x:Value) (a':AV),AL n a→BW c a=some (x,a')→AL n a'
 | .hv y,x,a',h,hf=>by
   simp only[BW,Option.some.injEq,Prod.mk.injEq] at hf
   obtain⟨rfl,rfl⟩:=hf
   simp only[AL];exact hc
 | .box i d,x,a',h,hf=>by
   simp only[BW] at hf
   split at hf
   ·rename_i x' c' ht
    simp only[Option.some.injEq,Prod.mk.injEq] at hf;obtain⟨rfl,rfl⟩:=hf
    simp only[AL] at h ⊢;exact⟨h.1,NI hc d _ _ h.2 ht⟩
   ·cases hf
 | .agg fs,x,a',h,hf=>by
   simp only[BW] at hf
   split at hf
   ·rename_i x' c' ht
    simp only[Option.some.injEq,Prod.mk.injEq] at hf;obtain⟨rfl,rfl⟩:=hf
    simp only[AL] at h ⊢;exact NI hc fs _ _ h ht
   ·cases hf
 | .tup fs,x,a',h,hf=>by
   simp only[BW] at hf
   split at hf
   ·rename_i x' c' ht
    simp only[Option.some.injEq,Prod.mk.injEq] at hf;obtain⟨rfl,rfl⟩:=hf
    simp only[AL] at h ⊢;exact NI hc fs _ _ h ht
   ·cases hf
 | .bv _ _,x,a',h,hf=>by simp [BW] at hf
 | .clo _ _,x,a',h,hf=>by simp [BW] at hf
 | .sl _ _ _ _ _ _,x,a',h,hf=>by simp [BW] at hf
 | .int _ _,x,a',h,hf=>by simp [BW] at hf
 | .bool _,x,a',h,hf=>by simp [BW] at hf
 | .str _,x,a',h,hf=>by simp [BW] at hf
 | .val _,x,a',h,hf=>by simp [BW] at hf
 | .any,x,a',h,hf=>by simp [BW] at hf
 | .top,x,a',h,hf=>by simp [BW] at hf
 | .nil,x,a',h,hf=>by simp [BW] at hf
 | .hole _,x,a',h,hf=>by simp [BW] at hf
 | .al _,x,a',h,hf=>by simp [BW] at hf
 | .po _ _ _ _,x,a',h,hf=>by simp [BW] at hf
 | .pf _,x,a',h,hf=>by simp [BW] at hf
theorem NI{n:Nat}{c:List AV}(hc:AQ n c):∀(azs:List AV) (x:Value) (as':List AV),AQ n azs→FJ c azs=some (x,as')→AQ n as'
 |[],x,as',h,hf=>by simp [FJ] at hf
 |a::azs,x,as',h,hf=>by
  simp only[FJ] at hf
  split at hf
  ·rename_i x' a1 ht
   simp only[Option.some.injEq,Prod.mk.injEq] at hf;obtain⟨rfl,rfl⟩:=hf
   exact⟨a8Z hc a _ _ h.1 ht,h.2⟩
  ·split at hf
   ·rename_i x' as1 ht
    simp only[Option.some.injEq,Prod.mk.injEq] at hf;obtain⟨rfl,rfl⟩:=hf
    exact⟨h.1,NI hc azs _ _ h.2 ht⟩
   ·cases hf
end
mutual
def fz:AV→AV
 | .sl _ _ sz α f xs=> .sl false 0 sz α (fun x=>fzL (f x)) xs
 | .box _ _=> .any
 | .bv _ _=> .any
 | .hv _=> .any
 | .clo _ _=> .any
 | .agg fs=> .agg (fzL fs)
 | .tup fs=> .tup (fzL fs)
 |a=>a
def fzL:List AV→List AV
 |[]=>[]
 |a::azs=>fz a::fzL azs
end
theorem Uj{α:Type}{sz:Nat}{R R':α→List Value→FP→Prop}:∀(xs:List α) (cs:List Value) (S:FP),
 (∀x cs A,(∀b,A b→S b)→R x cs A→R' x cs (fun _=>False))→Rows sz R xs cs S→Rows sz R' xs cs (fun _=>False)
 |[],_,_,_,h=>AO
 |x::xs,cs,S,hr,h=>by
  obtain⟨A,B,hj,hl,h1,h2⟩:=h
  exact⟨_,_,BB _,hl,hr _ _ _ (fun b hb=>(hj.1 b).2 (.inl hb)) h1,Uj xs _ B (fun x cs A' hA=>hr x cs A' (fun b hb=>(hj.1 b).2 (.inr (hA b hb)))) h2⟩
mutual
theorem ZA{Z Z':FP}{w:World}(hZ:∀b,¬Z b→¬Z' b):∀(a:AV) (v:Value) (S:FP),(∀b,S b→¬Z' b)→Aj Z w a v S→Aj Z' w (fz a) v (fun _=>False)
 | .int _ _,v,S,hS,h=>by simp only[Aj,fz] at h ⊢;exact⟨h.1,AO⟩
 | .bool _,v,S,hS,h=>by simp only[Aj,fz] at h ⊢;exact⟨h.1,AO⟩
 | .str _,v,S,hS,h=>by simp only[Aj,fz] at h ⊢;exact⟨h.1,AO⟩
 | .val _,v,S,hS,h=>by simp only[Aj,fz] at h ⊢;exact⟨h.1,h.2.1,AO⟩
 | .any,v,S,hS,h=>by simp only[Aj,fz] at h ⊢;exact⟨h.1,AO⟩
 | .top,v,S,hS,h=>by simp only[Aj,fz] at h ⊢;exact AO
 | .nil,v,S,hS,h=>by simp only[Aj,fz] at h ⊢;exact⟨h.1,AO⟩
 | .hole _,v,S,hS,h=>by simp only[Aj] at h
 | .al _,v,S,hS,h=>by simp only[Aj] at h
 | .po _ _ _ _,v,S,hS,h=>by simp only[Aj] at h
 | .agg fs,v,S,hS,h=>by simp only[Aj,fz] at h ⊢;obtain⟨cs,e,h⟩:=h;exact⟨cs,e,LP hZ fs cs S hS h⟩
 | .tup fs,v,S,hS,h=>by simp only[Aj,fz] at h ⊢;obtain⟨cs,e,h⟩:=h;exact⟨cs,e,LP hZ fs cs S hS h⟩
 | .clo _ _,v,S,hS,h=>by simp only[Aj,fz] at h ⊢;obtain⟨cs,e,h⟩:=h;exact⟨by rw[e];exact Nr,AO⟩
 | .box _ _,v,S,hS,h=>by simp only[Aj,fz] at h ⊢;obtain⟨b,arr,ty,S1,e,_⟩:=h;exact⟨by rw[e];trivial,AO⟩
 | .bv _ _,v,S,hS,h=>by simp only[Aj,fz] at h ⊢;obtain⟨_,b,arr,ty,S1,e,_⟩:=h;exact⟨by rw[e];trivial,AO⟩
 | .hv _,v,S,hS,h=>by simp only[Aj,fz] at h ⊢;exact⟨by rw[h.1];exact h.2.1,AO⟩
 | .pf c,v,S,hS,h=>by
   simp only[Aj,fz] at h ⊢
   obtain⟨he,b,off,arr,ty,fr,cs,rest,S1,e,hz,hb,hd,hr,h1⟩:=h
   exact⟨AO,b,off,arr,ty,fr,cs,rest,S1,e,hZ b hz,hb,hd,CR (fun b hb _=>⟨hZ b hb,rfl⟩) _ _ _ (fun _ _=>rfl) hr,h1⟩
 | .sl own _ sz α f xs,v,S,hS,h=>by
   simp only[Aj,fz] at h ⊢
   obtain⟨a,n,c,e,hn,hc,h⟩:=h
   refine⟨a,n,c,e,hn,hc,.inr ⟨trivial,AO,?_⟩⟩
   rcases h with⟨ho,h⟩|⟨ho,he,h⟩
   ·rcases h with⟨ha,hc0,_⟩|⟨b,off,arr,ty,S1,ha,hb,hsz,hr,hj⟩
    ·left;cases xs with
     |nil=>rfl
     |cons x xs=>simp at hn;omega
    ·right
     refine⟨b,off,arr,ty,(0,0),ha,hS b ((hj.1 b).2 (.inl rfl)),hb,?_⟩
     exact Uj xs _ S1 (fun x cs A hA hx=>LP hZ (f x) cs A (fun b hb=>hS b ((hj.1 b).2 (.inr (hA b hb)))) hx) hr
   ·rcases h with h|⟨b,off,arr,ty,fr,ha,hz,hb,hr⟩
    ·exact .inl h
    ·refine .inr ⟨b,off,arr,ty,fr,ha,hZ b hz,hb,?_⟩
     exact Uj xs _ S (fun x cs A hA hx=>LP hZ (f x) cs A (fun b hb=>hS b (hA b hb)) hx) hr
theorem LP{Z Z':FP}{w:World}(hZ:∀b,¬Z b→¬Z' b):∀(azs:List AV) (cs:List Value) (S:FP),(∀b,S b→¬Z' b)→AS Z w azs cs S→AS Z' w (fzL azs) cs (fun _=>False)
 |[],cs,S,hS,h=>by simp only[AS,fzL] at h ⊢;exact⟨h.1,AO⟩
 |a::azs,cs,S,hS,h=>by
  simp only[AS,fzL] at h ⊢
  obtain⟨v,cs',A,B,e,hj,h1,h2⟩:=h
  exact⟨v,cs',_,_,e,BB _,ZA hZ a v A (fun b hb=>hS b ((hj.1 b).2 (.inl hb))) h1,LP hZ azs cs' B (fun b hb=>hS b ((hj.1 b).2 (.inr hb))) h2⟩
end
mutual
def EA(id:Nat)(g:AV):AV→AV
 | .hole i=>match Nat.beq i id with|true=>g|false=> .hole i
 | .al i=>match Nat.beq i id with|true=>g|false=> .al i
 | .box i c=> .box i (Gs id g c)
 | .bv x c=> .bv x (Gs id g c)
 | .agg fs=> .agg (Gs id g fs)
 | .tup fs=> .tup (Gs id g fs)
 | .clo fn fs=> .clo fn (Gs id g fs)
 |a=>a
def Gs(id:Nat)(g:AV):List AV→List AV
 |[]=>[]
 |a::azs=>EA id g a::Gs id g azs
end
mutual
theorem a9a{Z:FP}{η:Nat→Value}{w:World}{id:Nat}{g:AV}(hg:Ae Z η w g (η id) (fun _=>False)):∀(a:AV) (v:Value) (S:FP),Ae Z η w a v S→Ae Z η w (EA id g a) v S
 | .hole i,v,S,h=>by
   simp only[EA];split
   ·rename_i hb;have:=Nat.eq_of_beq_eq_true hb;subst this
    simp only[Ae] at h;rw[h.1,DM h.2.2];exact hg
   ·exact h
 | .al i,v,S,h=>by
   simp only[EA];split
   ·rename_i hb;have:=Nat.eq_of_beq_eq_true hb;subst this
    simp only[Ae] at h;rw[h.1,DM h.2.2];exact hg
   ·exact h
 | .box i c,v,S,h=>by
   simp only[Ae,EA] at h ⊢
   obtain⟨e0,b,arr,ty,S1,e,hb,hr,hj⟩:=h
   exact⟨e0,b,arr,ty,S1,e,hb,Ja hg c _ S1 hr,hj⟩
 | .bv x c,v,S,h=>by
   simp only[Ae,EA] at h ⊢
   obtain⟨e0,b,arr,ty,S1,e,hb,hr,hj⟩:=h
   exact⟨e0,b,arr,ty,S1,e,hb,Ja hg c _ S1 hr,hj⟩
 | .hv _,v,S,h=>h
 | .agg fs,v,S,h=>by simp only[Ae,EA] at h ⊢;obtain⟨cs,e,h⟩:=h;exact⟨cs,e,Ja hg fs cs S h⟩
 | .tup fs,v,S,h=>by simp only[Ae,EA] at h ⊢;obtain⟨cs,e,h⟩:=h;exact⟨cs,e,Ja hg fs cs S h⟩
 | .clo fn fs,v,S,h=>by simp only[Ae,EA] at h ⊢;obtain⟨cs,e,h⟩:=h;exact⟨cs,e,Ja hg fs cs S h⟩
 | .sl _ _ _ _ _ _,v,S,h=>h
 | .int _ _,v,S,h=>h
 | .bool _,v,S,h=>h
 | .str _,v,S,h=>h
 | .val _,v,S,h=>h
 | .any,v,S,h=>h
 | .top,v,S,h=>h
 | .nil,v,S,h=>h
 | .po _ _ _ _,v,S,h=>h
 | .pf _,v,S,h=>h
theorem Ja{Z:FP}{η:Nat→Value}{w:World}{id:Nat}{g:AV}(hg:Ae Z η w g (η id) (fun _=>False)):∀(azs:List AV) (cs:List Value) (S:FP),An Z η w azs cs S→An Z η w (Gs id g azs) cs S
 |[],cs,S,h=>h
 |a::azs,cs,S,h=>by
  simp only[An,Gs] at h ⊢
  obtain⟨v,cs',A,B,e,hj,h1,h2⟩:=h
  exact⟨v,cs',A,B,e,hj,a9a hg a v A h1,Ja hg azs cs' B h2⟩
end
mutual
theorem a9b{n id:Nat}{g:AV}(hg:AL n g):∀(a:AV),AL n a→AL n (EA id g a)
 | .hole i,h=>by simp only[EA];split<;>first|exact hg|exact h
 | .al i,h=>by simp only[EA];split<;>first|exact hg|exact h
 | .box i c,h=>by simp only[AL,EA] at h ⊢;exact⟨h.1,Jb hg c h.2⟩
 | .bv _ c,h=>by simp only[AL,EA] at h ⊢;exact Jb hg c h
 | .hv _,h=>h
 | .agg fs,h=>by simp only[AL,EA] at h ⊢;exact Jb hg fs h
 | .tup fs,h=>by simp only[AL,EA] at h ⊢;exact Jb hg fs h
 | .clo fn fs,h=>by simp only[AL,EA] at h ⊢;exact Jb hg fs h
 | .sl _ _ _ _ _ _,h=>h
 | .int _ _,h=>h
 | .bool _,h=>h
 | .str _,h=>h
 | .val _,h=>h
 | .any,h=>h
 | .top,h=>h
 | .nil,h=>h
 | .po _ _ _ _,h=>h
 | .pf _,h=>h
theorem Jb{n id:Nat}{g:AV}(hg:AL n g):∀(azs:List AV),AQ n azs→AQ n (Gs id g azs)
 |[],h=>h
 |a::azs,h=>by simp only[AQ,Gs] at h ⊢;exact⟨a9b hg a h.1,Jb hg azs h.2⟩
end
def Uk:AV→Bool
 | .int _ _=>true
 | .bool _=>true
 | .str _=>true
 | .val _=>true
 | .any=>true
 | .nil=>true
 | .pf _=>true
 | .sl _ _ _ _ _ _=>true
 |_=>false
def LQ:List AV→Bool
 |[]=>true
 |a::azs=>match Uk a with
  |true=>LQ azs
  |false=>false
theorem a9c{Z:FP}{η:Nat→Value}{w:World}{a:AV}{v:Value}{S:FP}(hp:Uk a=true)(h:Ae Z η w a v S):Aj Z w a v S:=by
 cases a<;>simp only[Uk,Bool.false_eq_true] at hp<;>simp only[Ae] at h<;>first|exact h|exact h.2
theorem ZB{Z:FP}{η:Nat→Value}{w:World}:∀ {azs:List AV} {cs:List Value} {S:FP},LQ azs=true→An Z η w azs cs S→AS Z w azs cs S
 |[],cs,S,_,h=>by simp only[An] at h;simp only[AS];exact h
 |a::azs,cs,S,hp,h=>by
  unfold LQ at hp
  split at hp
  ·rename_i ha
   simp only[An] at h
   obtain⟨v,cs',A,B,e,hj,h1,h2⟩:=h
   simp only[AS]
   exact⟨v,cs',A,B,e,hj,a9c ha h1,ZB hp h2⟩
  ·cases hp
theorem ZC{Z:FP}{η:Nat→Value}{w:World}{i:Nat}{c:List AV}{v:Value}{A:FP}(hp:LQ c=true)(h:Ae Z η w (.box i c) v A):
 Aj (fun b=>Z b∧¬A b) w (.pf (fzL c)) v (fun _=>False):=by
 simp only[Ae] at h
 obtain⟨e0,b,arr,ty,S1,e,hb,hr,hj⟩:=h
 have hr':=LP (Z':=fun b=>Z b∧¬A b) (fun b hb x=>hb x.1) c arr.toList S1 (fun x hx y=>y.2 ((hj.1 x).2 (.inr hx))) (ZB hp hr)
 simp only[Aj]
 exact⟨AO,b,0,arr,ty,_,arr.toList,[],_,e,fun x=>x.2 ((hj.1 b).2 (.inl rfl)),hb,by simp,hr',AO⟩
def NJ:Fn→Fn→Bool
 | .func a,.func b=>Nat.beq a b
 | .yield a,.yield b=>Nat.beq a b
 |_,_=>false
theorem Ul{a b:Fn}(h:NJ a b=true):a=b:=by
 cases a<;>cases b<;>simp only[NJ,Bool.false_eq_true] at h
 ·rw[Nat.eq_of_beq_eq_true h]
 ·rw[Nat.eq_of_beq_eq_true h]
mutual
def Dv(bw:Bool):AV→List AV→AV→(List AV→Prop)→Prop
 | .int k n,regs,a,K=>match a with
   | .int k' m=>match NA k k' with
     |true=>m=n∧K regs
     |false=>False
   |_=>False
 | .bool b,regs,a,K=>match a with
   | .bool c=>c=b∧K regs
   |_=>False
 | .str l,regs,a,K=>match a with
   | .str m=>m=l∧K regs
   |_=>False
 | .val v,regs,a,K=>match a with
   | .val u=>u=v∧K regs
   |_=>False
 | .nil,regs,a,K=>match a with
   | .nil=>K regs
   |_=>False
 | .any,regs,a,K=>match GS a with
   |true=>K regs
   |false=>False
 | .top,regs,a,K=>K regs
 | .agg es,regs,a,K=>match a with
   | .agg azs=>Dw bw es regs azs K
   |_=>False
 | .tup es,regs,a,K=>match a with
   | .tup azs=>Dw bw es regs azs K
   |_=>False
 | .clo fn es,regs,a,K=>match a with
   | .clo fn' azs=>match NJ fn' fn with
     |true=>Dw bw es regs azs K
     |false=>False
   |_=>False
 | .pf c,regs,a,K=>match a with
   | .pf c'=>AV.pf c'=AV.pf c∧K regs
   | .al id=>match bw with
     |true=>match Du id regs with
      |some (.box _ c')=>match LQ c' with
       |true=>AV.pf (fzL c')=AV.pf c∧K regs
       |false=>False
      |_=>False
     |false=>match Dn id regs with
      |some (.box _ c',regs')=>match LQ c' with
       |true=>AV.pf (fzL c')=AV.pf c∧K (Gs id (.pf (fzL c')) regs')
       |false=>False
      |_=>False
   |_=>False
 | .box _ c,regs,a,K=>match a with
   | .box _ c'=>Dw bw c regs c' K
   | .al id=>match bw with
     |true=>False
     |false=>match Dn id regs with
      |some (.box _ c',regs')=>Dw bw c regs' c' K
      |_=>False
   | .val v=>match bw with
     |true=>False
     |false=>match Gq regs with
      |some (x,c',regs')=>x=v∧Dw bw c regs' c' K
      |none=>False
   |_=>False
 | .bv y c,regs,a,K=>match a with
   | .bv x c'=>x=y∧Dw bw c regs c' K
   | .val v=>match bw with
     |true=>False
     |false=>match Gq regs with
      |some (x,c',regs')=>(x=v∧x=y)∧Dw bw c regs' c' K
      |none=>False
   |_=>False
 | .sl true _ sz α f xs,regs,a,K=>match a with
   | .nil=>xs=[]∧K regs
   | .sl true _ sz' α' f' xs'=>AV.sl true 0 sz' α' f' xs'=AV.sl true 0 sz α f xs∧K regs
   | .al id=>match bw with
     |true=>False
     |false=>match Dn id regs with
      |some (.sl true _ sz' α' f' xs',regs')=>AV.sl true 0 sz' α' f' xs'=AV.sl true 0 sz α f xs∧K regs'
      |_=>False
   |_=>False
 | .sl false _ sz α f xs,regs,a,K=>match a with
   | .nil=>xs=[]∧K regs
   | .sl false _ sz' α' f' xs'=>AV.sl false 0 sz' α' f' xs'=AV.sl false 0 sz α f xs∧K regs
   | .sl true _ sz' α' f' xs'=>AV.sl false 0 sz' α' (fun x=>fzL (f' x)) xs'=AV.sl false 0 sz α f xs∧K regs
   | .al id=>match bw with
     |true=>match Du id regs with
      |some (.sl true _ sz' α' f' xs')=>AV.sl false 0 sz' α' (fun x=>fzL (f' x)) xs'=AV.sl false 0 sz α f xs∧K regs
      |_=>False
     |false=>match Dn id regs with
      |some (.sl true _ sz' α' f' xs',regs')=>AV.sl false 0 sz' α' (fun x=>fzL (f' x)) xs'=AV.sl false 0 sz α f xs∧
        K (Gs id (.sl false 0 sz' α' (fun x=>fzL (f' x)) xs') regs')
      |_=>False
   |_=>False
 | .hole _,_,_,_=>False
 | .hv _,_,_,_=>False
 | .al _,_,_,_=>False
 | .po _ _ _ _,_,_,_=>False
def Dw(bw:Bool):List AV→List AV→List AV→(List AV→Prop)→Prop
 |[],regs,azs,K=>match azs with
  |[]=>K regs
  |_::_=>False
 |e::es,regs,azs,K=>match azs with
  |[]=>False
  |a::azs=>Dv bw e regs a (fun regs'=>Dw bw es regs' azs K)
end
theorem Ii{Z:FP}{w:World}{i j sz sz':Nat}{α α':Type}{f:α→List AV}{f':α'→List AV}{xs:List α}{xs':List α'}{v:Value}{S:FP}{own:Bool}
 (he:AV.sl own 0 sz' α' f' xs'=AV.sl own 0 sz α f xs) (h:Aj Z w (.sl own i sz' α' f' xs') v S):Aj Z w (.sl own j sz α f xs) v S:=by
 injection he with _ _ h1 h2 h3 h4
 subst h1;subst h2
 have h3:=eq_of_heq h3;have h4:=eq_of_heq h4
 subst h3;subst h4
 simpa only[Aj] using h
structure Handed (Z Z':FP) (S A B:FP):Prop where
 zz:∀b,Z' b→Z b
 gone:∀b,Z b→¬Z' b→S b
 part:∀b,A b∨B b→S b
 dis:∀b,A b→B b→False
 ownA:∀b,A b→Z b→Z' b
structure HOut (bw:Bool) (Z:FP) (η:Nat→Value) (w:World) (n:Nat) (vs:List Value) (S A:FP) (R:FP→FP→Prop) (K:List AV→Prop) (regs0:List AV)
 (Z' A' B':FP) (regs':List AV):Prop where
 rel:An Z' η w regs' vs B'
 ids:AQ n regs'
 got:R Z' A'
 zz:∀b,Z' b→Z b
 gone:∀b,Z b→¬Z' b→S b
 part:∀b,A' b∨B' b→S b
 dis:∀b,A' b→B' b→False
 ownA:∀b,A' b→Z b→Z' b
 ownB:bw=false→∀b,B' b→Z b→Z' b
 stay:bw=true→∀b,A' b→A b
 fix:bw=true→regs'=regs0
 k:K regs'
theorem Gt{Z Z':FP}{w:World}(h:∀b,Z' b→Z b):∀b,¬Z b→b<w.heap.size→¬Z' b∧w.heap[b]? =w.heap[b]? :=fun b hb _=>⟨fun x=>hb (h b x),rfl⟩
theorem HOut.same{bw:Bool}{Z:FP}{η:Nat→Value}{w:World}{n:Nat}{vs:List Value}{S A B:FP}{R:FP→FP→Prop}{K:List AV→Prop}{regs:List AV}
 (hj:join S A B) (hR:An Z η w regs vs B) (hI:AQ n regs) {A':FP} (hA:∀b,A' b→A b) (hr:R Z A') (k:K regs):HOut bw Z η w n vs S A R K regs Z A' B regs:=
 ⟨hR,hI,hr,fun _ h=>h,fun _ h h'=>(h' h).elim,fun b h=>(hj.1 b).2 (h.imp (hA b) id),fun b x y=>hj.2 b (hA b x) y,fun _ _ h=>h,fun _ _ _ h=>h,fun _=>hA,fun _=>rfl,k⟩
theorem Um{Z:FP}{η:Nat→Value}{w:World}{own:Bool}{id sz:Nat}{α:Type}{f:α→List AV}{xs:List α}{v:Value}{A:FP}{i:Nat}{own':Bool}
 (h:Ae Z η w (.sl own i sz α f xs) v A):
 Aj (fun b=>Z b∧¬A b) w (.sl false 0 sz α (fun x=>fzL (f x)) xs) v (fun _=>False):=by
 simp only[Ae] at h
 have:=ZA (Z:=Z) (Z':=fun b=>Z b∧¬A b) (fun b hb x=>hb x.1) _ _ _ (fun b hb x=>x.2 hb) h.2
 simpa only[fz] using this
mutual
theorem ZD{bw:Bool}{η:Nat→Value}{w:World}{n:Nat}:∀(e:AV) (regs:List AV) (a:AV) (K:List AV→Prop),Dv bw e regs a K→
 ∀(Z:FP) (vs:List Value) (v:Value) (B A S:FP),An Z η w regs vs B→AQ n regs→Ae Z η w a v A→AL n a→join S A B→
 ∃Z' A' B' regs',HOut bw Z η w n vs S A (fun Z' A'=>Aj Z' w e v A') K regs Z' A' B' regs'
 | .int k m,regs,a,K,h,Z,vs,v,B,A,S,hR,hI,ha,hai,hj=>by
   unfold Dv at h;split at h
   ·rename_i k' m'
    split at h
    ·rename_i hk;have hk:=PJ hk;subst hk
     obtain⟨rfl,h⟩:=h
     exact⟨_,_,_,_,HOut.same hj hR hI (fun _ h=>h) (by simpa only[Ae] using ha) h⟩
    ·exact h.elim
   ·exact h.elim
 | .bool b,regs,a,K,h,Z,vs,v,B,A,S,hR,hI,ha,hai,hj=>by
   unfold Dv at h;split at h
   ·obtain⟨rfl,h⟩:=h
    exact⟨_,_,_,_,HOut.same hj hR hI (fun _ h=>h) (by simpa only[Ae] using ha) h⟩
   ·exact h.elim
 | .str l,regs,a,K,h,Z,vs,v,B,A,S,hR,hI,ha,hai,hj=>by
   unfold Dv at h;split at h
   ·obtain⟨rfl,h⟩:=h
    exact⟨_,_,_,_,HOut.same hj hR hI (fun _ h=>h) (by simpa only[Ae] using ha) h⟩
   ·exact h.elim
 | .val x,regs,a,K,h,Z,vs,v,B,A,S,hR,hI,ha,hai,hj=>by
   unfold Dv at h;split at h
   ·obtain⟨rfl,h⟩:=h
    exact⟨_,_,_,_,HOut.same hj hR hI (fun _ h=>h) (by simpa only[Ae] using ha) h⟩
   ·exact h.elim
 | .nil,regs,a,K,h,Z,vs,v,B,A,S,hR,hI,ha,hai,hj=>by
   unfold Dv at h;split at h
   ·exact⟨_,_,_,_,HOut.same hj hR hI (fun _ h=>h) (by simpa only[Ae] using ha) h⟩
   ·exact h.elim
 | .any,regs,a,K,h,Z,vs,v,B,A,S,hR,hI,ha,hai,hj=>by
   unfold Dv at h;split at h
   ·rename_i hl
    refine⟨_,_,_,_,HOut.same hj hR hI (A':=fun _=>False) (fun _ h=>h.elim) ?_ h⟩
    simp only[Aj];exact⟨TK ha hl,AO⟩
   ·exact h.elim
 | .top,regs,a,K,h,Z,vs,v,B,A,S,hR,hI,ha,hai,hj=>by
   unfold Dv at h
   refine⟨_,_,_,_,HOut.same hj hR hI (A':=fun _=>False) (fun _ h=>h.elim) ?_ h⟩
   simp only[Aj];exact AO
 | .agg es,regs,a,K,h,Z,vs,v,B,A,S,hR,hI,ha,hai,hj=>by
   unfold Dv at h;split at h
   ·rename_i azs
    simp only[Ae] at ha
    simp only[AL] at hai
    obtain⟨cs,e,ha⟩:=ha
    obtain⟨Z',A',B',regs',ho⟩:=Fx es regs azs K h Z vs cs B A S hR hI ha hai hj
    exact⟨Z',A',B',regs',⟨ho.rel,ho.ids,by simp only[Aj];exact⟨cs,e,ho.got⟩,ho.zz,ho.gone,ho.part,ho.dis,ho.ownA,ho.ownB,ho.stay,ho.fix,ho.k⟩⟩
   ·exact h.elim
 | .tup es,regs,a,K,h,Z,vs,v,B,A,S,hR,hI,ha,hai,hj=>by
   unfold Dv at h;split at h
   ·rename_i azs
    simp only[Ae] at ha
    simp only[AL] at hai
    obtain⟨cs,e,ha⟩:=ha
    obtain⟨Z',A',B',regs',ho⟩:=Fx es regs azs K h Z vs cs B A S hR hI ha hai hj
    exact⟨Z',A',B',regs',⟨ho.rel,ho.ids,by simp only[Aj];exact⟨cs,e,ho.got⟩,ho.zz,ho.gone,ho.part,ho.dis,ho.ownA,ho.ownB,ho.stay,ho.fix,ho.k⟩⟩
   ·exact h.elim
 | .clo fn es,regs,a,K,h,Z,vs,v,B,A,S,hR,hI,ha,hai,hj=>by
   unfold Dv at h;split at h
   ·rename_i fn' azs
    split at h
    rotate_left
    ·exact h.elim
    rename_i hfe
    obtain rfl:=Ul hfe
    simp only[Ae] at ha
    simp only[AL] at hai
    obtain⟨cs,e,ha⟩:=ha
    obtain⟨Z',A',B',regs',ho⟩:=Fx es regs azs K h Z vs cs B A S hR hI ha hai hj
    exact⟨Z',A',B',regs',⟨ho.rel,ho.ids,by simp only[Aj];exact⟨cs,e,ho.got⟩,ho.zz,ho.gone,ho.part,ho.dis,ho.ownA,ho.ownB,ho.stay,ho.fix,ho.k⟩⟩
   ·exact h.elim
 | .pf c,regs,a,K,h,Z,vs,v,B,A,S,hR,hI,ha,hai,hj=>by
   unfold Dv at h;split at h
   ·obtain⟨he,h⟩:=h
    rw[he] at ha
    exact⟨_,_,_,_,HOut.same hj hR hI (fun _ h=>h) (by simpa only[Ae] using ha) h⟩
   ·rename_i id
    split at h
    ·split at h
     ·rename_i i c' ho
      split at h
      ·rename_i hp
       obtain⟨he,h⟩:=h
       obtain⟨A1,hA1,hio,hro⟩:=Ep regs vs B _ hR ho
       simp only[Ae] at ha
       have hS:S=B:=DW (EZ hj ha.2.2)
       subst hS
       have hfr:=ZC hp hro
       have hzz:∀b,(Z b∧¬A1 b)→Z b:=fun b h=>h.1
       refine⟨fun b=>Z b∧¬A1 b,fun _=>False,S,regs,⟨Cq (Gt hzz) (fun _ _=>rfl) _ _ _ hI (fun _ _=>rfl) hR,hI,?_,hzz,?_,?_,fun _ h=>h.elim,fun _ h=>h.elim,(fun hh=>by simp at hh),(fun _ _ h=>h.elim),(fun _=>rfl),h⟩⟩
       ·rw[ha.1,←he];exact hfr
       ·intro b h1 h2
        exact Classical.byContradiction fun hn=>h2 ⟨h1,fun x=>hn (hA1 b x)⟩
       ·intro b hb;exact hb.resolve_left (fun x=>x)
      ·exact h.elim
     ·exact h.elim
    ·split at h
     ·rename_i i c' regs' ht
      split at h
      ·rename_i hp
       obtain⟨he,h⟩:=h
       obtain⟨A1,B1,hj1,hio,hro,hrr⟩:=Er regs vs B _ _ hR ht
       obtain⟨h1,h2,h3⟩:=EN regs _ _ hI ht
       simp only[Ae] at ha
       have hS:S=B:=DW (EZ hj ha.2.2)
       subst hS
       have hfr:=ZC hp hro
       have hzz:∀b,(Z b∧¬A1 b)→Z b:=fun b h=>h.1
       have hrr':=Cq (Gt (w:=w) hzz) (fun _ _=>rfl) _ _ _ h3 (fun _ _=>rfl) hrr
       refine⟨fun b=>Z b∧¬A1 b,fun _=>False,B1,_,⟨Ja ?_ _ _ _ hrr',Jb ?_ _ h3,?_,hzz,?_,?_,fun _ h=>h.elim,fun _ h=>h.elim,?_,(fun _ _ h=>h.elim),(fun hbw=>by cases hbw),h⟩⟩
       ·simp only[Ae];exact hfr
       ·trivial
       ·rw[ha.1,←he];exact hfr
       ·intro b h1 h2
        refine(hj1.1 b).2 (.inl ?_)
        exact Classical.byContradiction fun hn=>h2 ⟨h1,hn⟩
       ·intro b hb;exact(hj1.1 b).2 (.inr (hb.resolve_left (fun x=>x)))
       ·intro _ b hb hz;exact⟨hz,fun x=>hj1.2 b x hb⟩
      ·exact h.elim
     ·exact h.elim
   ·exact h.elim
 | .box j c,regs,a,K,h,Z,vs,v,B,A,S,hR,hI,ha,hai,hj=>by
   have core:∀(regs:List AV) (c':List AV) (i:Nat) (v:Value) (B A S:FP),Dw bw c regs c' K→An Z η w regs vs B→AQ n regs→Ae Z η w (.box i c') v A→AL n (.box i c')→join S A B→
    ∃Z' A' B' regs',HOut bw Z η w n vs S A (fun Z' A'=>Aj Z' w (.box j c) v A') K regs Z' A' B' regs':=by
    intro regs c' i v B A S h hR hI ha hai hj
    simp only[Ae] at ha
    simp only[AL] at hai
    obtain⟨e0,b,arr,ty,S1,e,hb,hr,hj2⟩:=ha
    obtain⟨Z',A',B',regs',ho⟩:=Fx c regs c' K h Z vs arr.toList B S1 (fun x=>S1 x∨B x) hR hI hr hai.2 ⟨fun _=>Iff.rfl,fun x p q=>hj.2 x ((hj2.1 x).2 (.inr p)) q⟩
    have hbA:A b:=(hj2.1 b).2 (.inl rfl)
    have hnot:¬(S1 b∨B b):=fun x=>x.elim (fun x=>hj2.2 b rfl x) (fun x=>hj.2 b hbA x)
    refine⟨Z',fun x=>x=b∨A' x,B',regs',⟨ho.rel,ho.ids,?_,ho.zz,?_,?_,?_,?_,ho.ownB,?_,ho.fix,ho.k⟩⟩
    ·simp only[Aj]
     exact⟨b,arr,ty,A',e,hb,ho.got,⟨fun x=>Iff.rfl,fun x p q=>hnot (by have:=ho.part x (.inl q);rw[p] at this;exact this)⟩⟩
    ·intro x hx hx'
     have:=ho.gone x hx hx'
     exact(hj.1 x).2 (this.imp (fun p=>(hj2.1 x).2 (.inr p)) id)
    ·intro x hx
     rcases hx with(hx|hx)|hx
     ·subst hx;exact(hj.1 x).2 (.inl hbA)
     ·exact(hj.1 x).2 ((ho.part x (.inl hx)).imp (fun p=>(hj2.1 x).2 (.inr p)) id)
     ·exact(hj.1 x).2 ((ho.part x (.inr hx)).imp (fun p=>(hj2.1 x).2 (.inr p)) id)
    ·intro x hx hy
     rcases hx with hx|hx
     ·subst hx;exact hnot (ho.part x (.inr hy))
     ·exact ho.dis x hx hy
    ·intro x hx hz
     rcases hx with hx|hx
     ·subst hx
      exact Classical.byContradiction fun hn=>hnot (ho.gone x hz hn)
     ·exact ho.ownA x hx hz
    ·intro hbw x hx
     rcases hx with hx|hx
     ·subst hx;exact hbA
     ·exact(hj2.1 x).2 (.inr (ho.stay hbw x hx))
   have coreV:∀(regs:List AV) (c':List AV) (x:Value) (v:Value) (B A S:FP),Dw bw c regs c' K→An Z η w regs vs B→AQ n regs→Ae Z η w (.bv x c') v A→AQ n c'→join S A B→
    ∃Z' A' B' regs',HOut bw Z η w n vs S A (fun Z' A'=>Aj Z' w (.box j c) v A') K regs Z' A' B' regs':=by
    intro regs c' x v B A S h hR hI ha hai hj
    simp only[Ae] at ha
    obtain⟨e0,b,arr,ty,S1,e,hb,hr,hj2⟩:=ha
    obtain⟨Z',A',B',regs',ho⟩:=Fx c regs c' K h Z vs arr.toList B S1 (fun x=>S1 x∨B x) hR hI hr hai ⟨fun _=>Iff.rfl,fun x p q=>hj.2 x ((hj2.1 x).2 (.inr p)) q⟩
    have hbA:A b:=(hj2.1 b).2 (.inl rfl)
    have hnot:¬(S1 b∨B b):=fun x=>x.elim (fun x=>hj2.2 b rfl x) (fun x=>hj.2 b hbA x)
    refine⟨Z',fun x=>x=b∨A' x,B',regs',⟨ho.rel,ho.ids,?_,ho.zz,?_,?_,?_,?_,ho.ownB,?_,ho.fix,ho.k⟩⟩
    ·simp only[Aj]
     exact⟨b,arr,ty,A',e,hb,ho.got,⟨fun x=>Iff.rfl,fun x p q=>hnot (by have:=ho.part x (.inl q);rw[p] at this;exact this)⟩⟩
    ·intro x hx hx'
     have:=ho.gone x hx hx'
     exact(hj.1 x).2 (this.imp (fun p=>(hj2.1 x).2 (.inr p)) id)
    ·intro x hx
     rcases hx with(hx|hx)|hx
     ·subst hx;exact(hj.1 x).2 (.inl hbA)
     ·exact(hj.1 x).2 ((ho.part x (.inl hx)).imp (fun p=>(hj2.1 x).2 (.inr p)) id)
     ·exact(hj.1 x).2 ((ho.part x (.inr hx)).imp (fun p=>(hj2.1 x).2 (.inr p)) id)
    ·intro x hx hy
     rcases hx with hx|hx
     ·subst hx;exact hnot (ho.part x (.inr hy))
     ·exact ho.dis x hx hy
    ·intro x hx hz
     rcases hx with hx|hx
     ·subst hx
      exact Classical.byContradiction fun hn=>hnot (ho.gone x hz hn)
     ·exact ho.ownA x hx hz
    ·intro hbw x hx
     rcases hx with hx|hx
     ·subst hx;exact hbA
     ·exact(hj2.1 x).2 (.inr (ho.stay hbw x hx))
   unfold Dv at h;split at h
   ·rename_i i c'
    exact core regs c' i v B A S h hR hI ha hai hj
   ·rename_i id
    split at h
    ·exact h.elim
    ·split at h
     ·rename_i i c' regs' ht
      obtain⟨A1,B1,hj1,hio,hro,hrr⟩:=Er regs vs B _ _ hR ht
      obtain⟨h1,h2,h3⟩:=EN regs _ _ hI ht
      simp only[Ae] at ha
      have hro':=hro
      simp only[Ae] at hro'
      obtain⟨_,b,arr,ty,S1,e,_⟩:=hro'
      have hv:v=η id:=ha.1
      rw[←hv] at hro
      obtain⟨Z',A',B',regs2,ho⟩:=core regs' c' i v B1 A1 S h hrr h3 hro h2 (by
       rw[show S=B from DW (EZ hj ha.2.2)];exact hj1)
      exact⟨Z',A',B',regs2,ho.rel,ho.ids,ho.got,ho.zz,ho.gone,ho.part,ho.dis,ho.ownA,ho.ownB,(fun hbw=>by cases hbw),(fun hbw=>by cases hbw),ho.k⟩
     ·exact h.elim
   ·rename_i u
    split at h
    ·exact h.elim
    ·split at h
     ·rename_i x c' regs' ht
      obtain⟨hxv,h⟩:=h
      obtain⟨A1,B1,hj1,hro,hrr⟩:=LN regs vs B _ _ _ hR ht
      obtain⟨h2,h3⟩:=LO regs _ _ _ hI ht
      simp only[Ae,Aj] at ha
      have hv:v=x:=by rw[ha.1,hxv]
      rw[←hv] at hro
      obtain⟨Z',A',B',regs2,ho⟩:=coreV regs' c' v v B1 A1 S h hrr h3 hro h2 (by
       rw[show S=B from DW (EZ hj ha.2.2)];exact hj1)
      exact⟨Z',A',B',regs2,ho.rel,ho.ids,ho.got,ho.zz,ho.gone,ho.part,ho.dis,ho.ownA,ho.ownB,(fun hbw=>by cases hbw),(fun hbw=>by cases hbw),ho.k⟩
     ·exact h.elim
   ·exact h.elim
 | .bv y c,regs,a,K,h,Z,vs,v,B,A,S,hR,hI,ha,hai,hj=>by
   have core:∀(regs:List AV) (c':List AV) (v:Value) (B A S:FP),Dw bw c regs c' K→An Z η w regs vs B→AQ n regs→Ae Z η w (.bv y c') v A→AQ n c'→join S A B→
    ∃Z' A' B' regs',HOut bw Z η w n vs S A (fun Z' A'=>Aj Z' w (.bv y c) v A') K regs Z' A' B' regs':=by
    intro regs c' v B A S h hR hI ha hai hj
    simp only[Ae] at ha
    obtain⟨e0,b,arr,ty,S1,e,hb,hr,hj2⟩:=ha
    obtain⟨Z',A',B',regs',ho⟩:=Fx c regs c' K h Z vs arr.toList B S1 (fun x=>S1 x∨B x) hR hI hr hai ⟨fun _=>Iff.rfl,fun x p q=>hj.2 x ((hj2.1 x).2 (.inr p)) q⟩
    have hbA:A b:=(hj2.1 b).2 (.inl rfl)
    have hnot:¬(S1 b∨B b):=fun x=>x.elim (fun x=>hj2.2 b rfl x) (fun x=>hj.2 b hbA x)
    refine⟨Z',fun x=>x=b∨A' x,B',regs',⟨ho.rel,ho.ids,?_,ho.zz,?_,?_,?_,?_,ho.ownB,?_,ho.fix,ho.k⟩⟩
    ·simp only[Aj]
     exact⟨e0,b,arr,ty,A',e,hb,ho.got,⟨fun x=>Iff.rfl,fun x p q=>hnot (by have:=ho.part x (.inl q);rw[p] at this;exact this)⟩⟩
    ·intro x hx hx'
     have:=ho.gone x hx hx'
     exact(hj.1 x).2 (this.imp (fun p=>(hj2.1 x).2 (.inr p)) id)
    ·intro x hx
     rcases hx with(hx|hx)|hx
     ·subst hx;exact(hj.1 x).2 (.inl hbA)
     ·exact(hj.1 x).2 ((ho.part x (.inl hx)).imp (fun p=>(hj2.1 x).2 (.inr p)) id)
     ·exact(hj.1 x).2 ((ho.part x (.inr hx)).imp (fun p=>(hj2.1 x).2 (.inr p)) id)
    ·intro x hx hy
     rcases hx with hx|hx
     ·subst hx;exact hnot (ho.part x (.inr hy))
     ·exact ho.dis x hx hy
    ·intro x hx hz
     rcases hx with hx|hx
     ·subst hx
      exact Classical.byContradiction fun hn=>hnot (ho.gone x hz hn)
     ·exact ho.ownA x hx hz
    ·intro hbw x hx
     rcases hx with hx|hx
     ·subst hx;exact hbA
     ·exact(hj2.1 x).2 (.inr (ho.stay hbw x hx))
   unfold Dv at h;split at h
   ·rename_i x c'
    obtain⟨rfl,h⟩:=h
    exact core regs c' v B A S h hR hI ha (by simpa only[AL] using hai) hj
   ·rename_i u
    split at h
    ·exact h.elim
    ·split at h
     ·rename_i x c' regs' ht
      obtain⟨⟨hxv,rfl⟩,h⟩:=h
      obtain⟨A1,B1,hj1,hro,hrr⟩:=LN regs vs B _ _ _ hR ht
      obtain⟨h2,h3⟩:=LO regs _ _ _ hI ht
      simp only[Ae,Aj] at ha
      have hv:v=x:=by rw[ha.1,hxv]
      have hro':Ae Z η w (.bv x c') v A1:=by rw[hv];exact hro
      obtain⟨Z',A',B',regs2,ho⟩:=core regs' c' v B1 A1 S h hrr h3 hro' h2 (by
       rw[show S=B from DW (EZ hj ha.2.2)];exact hj1)
      exact⟨Z',A',B',regs2,ho.rel,ho.ids,ho.got,ho.zz,ho.gone,ho.part,ho.dis,ho.ownA,ho.ownB,(fun hbw=>by cases hbw),(fun hbw=>by cases hbw),ho.k⟩
     ·exact h.elim
   ·exact h.elim
 | .hv _,regs,a,K,h,Z,vs,v,B,A,S,hR,hI,ha,hai,hj=>by unfold Dv at h;exact h.elim
 | .sl true j sz α f xs,regs,a,K,h,Z,vs,v,B,A,S,hR,hI,ha,hai,hj=>by
   unfold Dv at h;split at h
   ·obtain⟨rfl,h⟩:=h
    refine⟨_,_,_,_,HOut.same hj hR hI (fun _ h=>h) ?_ h⟩
    simp only[Ae,Aj] at ha ⊢
    refine⟨none,0,0,ha.1,rfl,Nat.le_refl _,.inl ⟨trivial,.inl ⟨rfl,rfl,ha.2⟩⟩⟩
   ·obtain⟨he,h⟩:=h
    refine⟨_,_,_,_,HOut.same hj hR hI (fun _ h=>h) ?_ h⟩
    simp only[Ae] at ha
    exact Ii he ha.2
   ·rename_i id
    split at h
    ·exact h.elim
    ·split at h
     ·rename_i i sz' α' f' xs' regs' ht
      obtain⟨he,h⟩:=h
      obtain⟨A1,B1,hj1,hio,hro,hrr⟩:=Er regs vs B _ _ hR ht
      obtain⟨h1,h2,h3⟩:=EN regs _ _ hI ht
      simp only[Ae] at ha hro
      have hS:S=B:=DW (EZ hj ha.2.2)
      subst hS
      have hg:Aj Z w (.sl true j sz α f xs) v A1:=by rw[ha.1];exact Ii he hro.2
      have ho:=HOut.same (bw:=false) (R:=fun Z' A'=>Aj Z' w (.sl true j sz α f xs) v A') (K:=K) hj1 hrr h3 (fun _ h=>h) hg h
      exact⟨Z,A1,B1,regs',ho.rel,ho.ids,ho.got,ho.zz,ho.gone,ho.part,ho.dis,ho.ownA,ho.ownB,(fun hbw=>by cases hbw),(fun hbw=>by cases hbw),ho.k⟩
     ·exact h.elim
   ·exact h.elim
 | .sl false j sz α f xs,regs,a,K,h,Z,vs,v,B,A,S,hR,hI,ha,hai,hj=>by
   unfold Dv at h;split at h
   ·obtain⟨rfl,h⟩:=h
    refine⟨_,_,_,_,HOut.same hj hR hI (fun _ h=>h) ?_ h⟩
    simp only[Ae,Aj] at ha ⊢
    refine⟨none,0,0,ha.1,rfl,Nat.le_refl _,.inr ⟨trivial,ha.2,.inl trivial⟩⟩
   ·obtain⟨he,h⟩:=h
    refine⟨_,_,_,_,HOut.same hj hR hI (fun _ h=>h) ?_ h⟩
    simp only[Ae] at ha
    exact Ii he ha.2
   ·obtain⟨he,h⟩:=h
    have hfr:=Um (id:=0) (own':=true) ha
    have hzz:∀b,(Z b∧¬A b)→Z b:=fun b h=>h.1
    refine⟨fun b=>Z b∧¬A b,fun _=>False,B,regs,⟨Cq (Gt hzz) (fun _ _=>rfl) _ _ _ hI (fun _ _=>rfl) hR,hI,Ii he hfr,hzz,?_,?_,fun _ h=>h.elim,fun _ h=>h.elim,?_,(fun _ _ h=>h.elim),(fun _=>rfl),h⟩⟩
    ·intro b h1 h2
     refine(hj.1 b).2 (.inl ?_)
     exact Classical.byContradiction fun hn=>h2 ⟨h1,hn⟩
    ·intro b hb;exact(hj.1 b).2 (.inr (hb.resolve_left id))
    ·intro _ b hb hz;exact⟨hz,fun x=>hj.2 b x hb⟩
   ·rename_i id
    split at h
    ·split at h
     ·rename_i i sz' α' f' xs' ho
      obtain⟨he,h⟩:=h
      obtain⟨A1,hA1,hio,hro⟩:=Ep regs vs B _ hR ho
      simp only[Ae] at ha
      have hS:S=B:=DW (EZ hj ha.2.2)
      subst hS
      have hfr:=Um (id:=0) (own':=true) hro
      have hzz:∀b,(Z b∧¬A1 b)→Z b:=fun b h=>h.1
      refine⟨fun b=>Z b∧¬A1 b,fun _=>False,S,regs,⟨Cq (Gt hzz) (fun _ _=>rfl) _ _ _ hI (fun _ _=>rfl) hR,hI,?_,hzz,?_,?_,fun _ h=>h.elim,fun _ h=>h.elim,(fun hh=>by simp at hh),(fun _ _ h=>h.elim),(fun _=>rfl),h⟩⟩
      ·rw[ha.1];exact Ii he hfr
      ·intro b h1 h2
       exact Classical.byContradiction fun hn=>h2 ⟨h1,fun x=>hn (hA1 b x)⟩
      ·intro b hb;exact hb.resolve_left (fun x=>x)
     ·exact h.elim
    ·split at h
     ·rename_i i sz' α' f' xs' regs' ht
      obtain⟨he,h⟩:=h
      obtain⟨A1,B1,hj1,hio,hro,hrr⟩:=Er regs vs B _ _ hR ht
      obtain⟨h1,h2,h3⟩:=EN regs _ _ hI ht
      simp only[Ae] at ha
      have hS:S=B:=DW (EZ hj ha.2.2)
      subst hS
      have hfr:=Um (id:=0) (own':=true) hro
      have hzz:∀b,(Z b∧¬A1 b)→Z b:=fun b h=>h.1
      have hrr':=Cq (Gt (w:=w) hzz) (fun _ _=>rfl) _ _ _ h3 (fun _ _=>rfl) hrr
      refine⟨fun b=>Z b∧¬A1 b,fun _=>False,B1,_,⟨Ja ?_ _ _ _ hrr',Jb ?_ _ h3,?_,hzz,?_,?_,fun _ h=>h.elim,fun _ h=>h.elim,?_,(fun _ _ h=>h.elim),(fun hbw=>by cases hbw),h⟩⟩
      ·simp only[Ae];exact⟨(fun o=>by cases o),hfr⟩
      ·simp only[AL];intro o;cases o
      ·rw[ha.1];exact Ii he hfr
      ·intro b h1 h2
       refine(hj1.1 b).2 (.inl ?_)
       exact Classical.byContradiction fun hn=>h2 ⟨h1,hn⟩
      ·intro b hb;exact(hj1.1 b).2 (.inr (hb.resolve_left (fun x=>x)))
      ·intro _ b hb hz;exact⟨hz,fun x=>hj1.2 b x hb⟩
     ·exact h.elim
   ·exact h.elim
 | .hole _,regs,a,K,h,Z,vs,v,B,A,S,hR,hI,ha,hai,hj=>by unfold Dv at h;exact h.elim
 | .al _,regs,a,K,h,Z,vs,v,B,A,S,hR,hI,ha,hai,hj=>by unfold Dv at h;exact h.elim
 | .po _ _ _ _,regs,a,K,h,Z,vs,v,B,A,S,hR,hI,ha,hai,hj=>by unfold Dv at h;exact h.elim
theorem Fx{bw:Bool}{η:Nat→Value}{w:World}{n:Nat}:∀(es:List AV) (regs:List AV) (azs:List AV) (K:List AV→Prop),Dw bw es regs azs K→
 ∀(Z:FP) (vs:List Value) (us:List Value) (B A S:FP),An Z η w regs vs B→AQ n regs→An Z η w azs us A→AQ n azs→join S A B→
 ∃Z' A' B' regs',HOut bw Z η w n vs S A (fun Z' A'=>AS Z' w es us A') K regs Z' A' B' regs'
 |[],regs,azs,K,h,Z,vs,us,B,A,S,hR,hI,ha,hai,hj=>by
  unfold Dw at h
  split at h
  ·simp only[An] at ha
   refine⟨_,_,_,_,HOut.same hj hR hI (fun _ h=>h) ?_ h⟩
   simp only[AS];exact ha
  ·exact h.elim
 |e::es,regs,azs,K,h,Z,vs,us,B,A,S,hR,hI,ha,hai,hj=>by
  unfold Dw at h
  split at h
  ·exact h.elim
  ·rename_i a azs
   simp only[An] at ha
   simp only[AQ] at hai
   obtain⟨v,us',A1,A2,eu,hj2,ha1,ha2⟩:=ha
   obtain⟨Z1,A1',B1',regs1,h1⟩:=ZD e regs a _ h Z vs v B A1 (fun x=>A1 x∨B x) hR hI ha1 hai.1
    ⟨fun _=>Iff.rfl,fun x p q=>hj.2 x ((hj2.1 x).2 (.inl p)) q⟩
   have ha2':=Cq (Gt (w:=w) h1.zz) (fun _ _=>rfl) _ _ _ hai.2 (fun _ _=>rfl) ha2
   have hd:∀x,A2 x→¬(A1 x∨B x):=fun x p q=>q.elim (fun q=>hj2.2 x q p) (fun q=>hj.2 x ((hj2.1 x).2 (.inr p)) q)
   obtain⟨Z2,A2',B2',regs2,h2⟩:=Fx es regs1 azs K h1.k Z1 vs us' B1' A2 (fun x=>A2 x∨B1' x) h1.rel h1.ids ha2' hai.2
    ⟨fun _=>Iff.rfl,fun x p q=>hd x p (h1.part x (.inr q))⟩
   have hsub:∀x,A1 x∨B x→S x:=fun x p=>(hj.1 x).2 (p.imp (fun p=>(hj2.1 x).2 (.inl p)) id)
   have hsub2:∀x,A2 x∨B1' x→S x:=fun x p=>p.elim (fun p=>(hj.1 x).2 (.inl ((hj2.1 x).2 (.inr p)))) (fun p=>hsub x (h1.part x (.inr p)))
   have hx:∀x,A1' x→¬(A2 x∨B1' x):=fun x p q=>q.elim (fun q=>hd x q (h1.part x (.inl p))) (fun q=>h1.dis x p q)
   refine⟨Z2,fun x=>A1' x∨A2' x,B2',regs2,⟨h2.rel,h2.ids,?_,fun b hb=>h1.zz b (h2.zz b hb),?_,?_,?_,?_,?_,?_,(fun hbw=>by rw[h2.fix hbw,h1.fix hbw]),h2.k⟩⟩
   ·simp only[AS]
    refine⟨v,us',A1',A2',eu,⟨fun _=>Iff.rfl,fun x p q=>hx x p (h2.part x (.inl q))⟩,?_,h2.got⟩
    exact Fa (Gt h2.zz) _ _ _ (fun _ _=>rfl) h1.got
   ·intro b hz hz2
    by_cases hz1:Z1 b
    ·exact hsub2 b (h2.gone b hz1 hz2)
    ·exact hsub b (h1.gone b hz hz1)
   ·intro b hb
    rcases hb with(hb|hb)|hb
    ·exact hsub b (h1.part b (.inl hb))
    ·exact hsub2 b (h2.part b (.inl hb))
    ·exact hsub2 b (h2.part b (.inr hb))
   ·intro b hb hc
    rcases hb with hb|hb
    ·exact hx b hb (h2.part b (.inr hc))
    ·exact h2.dis b hb hc
   ·intro b hb hz
    rcases hb with hb|hb
    ·have hz1:=h1.ownA b hb hz
     exact Classical.byContradiction fun hn=>hx b hb (h2.gone b hz1 hn)
    ·have hz1:Z1 b:=Classical.byContradiction fun hn=>by
      have:=h1.gone b hz hn
      rcases Bool.eq_false_or_eq_true bw with hbw|hbw
      ·exact hd b (h2.stay hbw b hb) this
      ·rcases h2.part b (.inl hb) with hq|hq
       ·exact hd b hq this
       ·exact hn (h1.ownB hbw b hq hz)
     exact h2.ownA b hb hz1
   ·intro hbw b hb hz
    have hz1:Z1 b:=Classical.byContradiction fun hn=>by
     have:=h1.gone b hz hn
     rcases h2.part b (.inr hb) with hq|hq
     ·exact hd b hq this
     ·exact hn (h1.ownB hbw b hq hz)
    exact h2.ownB hbw b hb hz1
   ·intro hbw b hb
    rcases hb with hb|hb
    ·exact(hj2.1 b).2 (.inl (h1.stay hbw b hb))
    ·exact(hj2.1 b).2 (.inr (h2.stay hbw b hb))
end
mutual
def DY(n:Nat):AV→AV×Nat
 | .sl true _ sz α f xs=>(.sl true n sz α f xs,n+1)
 | .box _ c=>(.box n (Cb (n+1) c).1,(Cb (n+1) c).2)
 | .bv x c=>(.bv x (Cb n c).1,(Cb n c).2)
 | .agg fs=>(.agg (Cb n fs).1,(Cb n fs).2)
 | .tup fs=>(.tup (Cb n fs).1,(Cb n fs).2)
 | .clo fn fs=>(.clo fn (Cb n fs).1,(Cb n fs).2)
 |a=>(a,n)
def Cb(n:Nat):List AV→List AV×Nat
 |[]=>([],n)
 |a::azs=>((DY n a).1::(Cb (DY n a).2 azs).1,(Cb (DY n a).2 azs).2)
end
mutual
theorem ZE{Z:FP}{w:World}:∀(a:AV) (n:Nat) (v:Value) (S:FP) (η:Nat→Value),Aj Z w a v S→
 n≤(DY n a).2∧AL (DY n a).2 (DY n a).1∧∃η':Nat→Value,(∀i,i<n→η' i=η i)∧(∀η'',(∀i,i<(DY n a).2→η'' i=η' i)→Ae Z η'' w (DY n a).1 v S)
 | .sl true j sz α f xs,n,v,S,η,h=>by
   refine⟨Nat.le_succ n,fun _=>Nat.lt_succ_self n,fun i=>if i=n then v else η i,fun i hi=>if_neg (by omega),fun η'' hη=> ?_⟩
   simp only[DY,Ae]
   refine⟨fun _=> ?_,by simpa only[Aj] using h⟩
   rw[hη n (Nat.lt_succ_self n)];simp
 | .sl false j sz α f xs,n,v,S,η,h=>by
   refine⟨Nat.le_refl n,(fun o=>by cases o),η,fun _ _=>rfl,fun η'' hη=> ?_⟩
   simp only[DY,Ae]
   exact⟨(fun o=>by cases o),h⟩
 | .box j c,n,v,S,η,h=>by
   simp only[Aj] at h
   obtain⟨b,arr,ty,S1,e,hb,hr,hj⟩:=h
   obtain⟨h1,h2,η',h3,h4⟩:=Hy c (n+1) arr.toList S1 (fun i=>if i=n then v else η i) hr
   simp only[DY,AL]
   refine⟨by omega,⟨by omega,h2⟩,η',fun i hi=>by rw[h3 i (by omega),if_neg (by omega)],fun η'' hη=> ?_⟩
   simp only[Ae]
   refine⟨?_,b,arr,ty,S1,e,hb,h4 η'' hη,hj⟩
   rw[hη n (by omega),h3 n (by omega)];simp
 | .bv x c,n,v,S,η,h=>by
   simp only[Aj] at h
   obtain⟨e0,b,arr,ty,S1,e,hb,hr,hj⟩:=h
   obtain⟨h1,h2,η',h3,h4⟩:=Hy c n arr.toList S1 η hr
   simp only[DY,AL]
   refine⟨h1,h2,η',h3,fun η'' hη=> ?_⟩
   simp only[Ae];exact⟨e0,b,arr,ty,S1,e,hb,h4 η'' hη,hj⟩
 | .hv _,n,v,S,η,h=>⟨Nat.le_refl n,trivial,η,fun _ _=>rfl,fun _ _=>h⟩
 | .agg fs,n,v,S,η,h=>by
   simp only[Aj] at h
   obtain⟨cs,e,hr⟩:=h
   obtain⟨h1,h2,η',h3,h4⟩:=Hy fs n cs S η hr
   simp only[DY,AL]
   refine⟨h1,h2,η',h3,fun η'' hη=> ?_⟩
   simp only[Ae];exact⟨cs,e,h4 η'' hη⟩
 | .tup fs,n,v,S,η,h=>by
   simp only[Aj] at h
   obtain⟨cs,e,hr⟩:=h
   obtain⟨h1,h2,η',h3,h4⟩:=Hy fs n cs S η hr
   simp only[DY,AL]
   refine⟨h1,h2,η',h3,fun η'' hη=> ?_⟩
   simp only[Ae];exact⟨cs,e,h4 η'' hη⟩
 | .clo fn fs,n,v,S,η,h=>by
   simp only[Aj] at h
   obtain⟨cs,e,hr⟩:=h
   obtain⟨h1,h2,η',h3,h4⟩:=Hy fs n cs S η hr
   simp only[DY,AL]
   refine⟨h1,h2,η',h3,fun η'' hη=> ?_⟩
   simp only[Ae];exact⟨cs,e,h4 η'' hη⟩
 | .int _ _,n,v,S,η,h=>⟨Nat.le_refl n,trivial,η,fun _ _=>rfl,fun _ _=>h⟩
 | .bool _,n,v,S,η,h=>⟨Nat.le_refl n,trivial,η,fun _ _=>rfl,fun _ _=>h⟩
 | .str _,n,v,S,η,h=>⟨Nat.le_refl n,trivial,η,fun _ _=>rfl,fun _ _=>h⟩
 | .val _,n,v,S,η,h=>⟨Nat.le_refl n,trivial,η,fun _ _=>rfl,fun _ _=>h⟩
 | .any,n,v,S,η,h=>⟨Nat.le_refl n,trivial,η,fun _ _=>rfl,fun _ _=>h⟩
 | .top,n,v,S,η,h=>⟨Nat.le_refl n,trivial,η,fun _ _=>rfl,fun _ _=>h⟩
 | .nil,n,v,S,η,h=>⟨Nat.le_refl n,trivial,η,fun _ _=>rfl,fun _ _=>h⟩
 | .pf _,n,v,S,η,h=>⟨Nat.le_refl n,trivial,η,fun _ _=>rfl,fun _ _=>h⟩
 | .hole _,n,v,S,η,h=>h.elim
 | .al _,n,v,S,η,h=>h.elim
 | .po _ _ _ _,n,v,S,η,h=>h.elim
theorem Hy{Z:FP}{w:World}:∀(azs:List AV) (n:Nat) (cs:List Value) (S:FP) (η:Nat→Value),AS Z w azs cs S→
 n≤(Cb n azs).2∧AQ (Cb n azs).2 (Cb n azs).1∧∃η':Nat→Value,(∀i,i<n→η' i=η i)∧(∀η'',(∀i,i<(Cb n azs).2→η'' i=η' i)→An Z η'' w (Cb n azs).1 cs S)
 |[],n,cs,S,η,h=>⟨Nat.le_refl n,trivial,η,fun _ _=>rfl,fun _ _=>h⟩
 |a::azs,n,cs,S,η,h=>by
  simp only[AS] at h
  obtain⟨v,cs',A,B,e,hj,h1,h2⟩:=h
  obtain⟨a1,a2,η1,a3,a4⟩:=ZE a n v A η h1
  obtain⟨b1,b2,η2,b3,b4⟩:=Hy azs (DY n a).2 cs' B η1 h2
  simp only[Cb,AQ]
  refine⟨by omega,⟨YY b1 _ a2,b2⟩,η2,fun i hi=>by rw[b3 i (by omega),a3 i hi],fun η'' hη=> ?_⟩
  simp only[An]
  exact⟨v,cs',A,B,e,hj,a4 η'' (fun i hi=>by rw[hη i (by omega),b3 i hi]),b4 η'' hη⟩
end
mutual
def Jc:AV→Prop
 | .sl true _ _ _ f _=>∀x,GT (f x)
 | .sl false _ _ _ _ _=>False
 | .pf _=>False
 | .box _ c=>GT c
 | .bv _ c=>GT c
 | .agg fs=>GT fs
 | .tup fs=>GT fs
 | .clo _ fs=>GT fs
 |_=>True
def GT:List AV→Prop
 |[]=>True
 |a::azs=>Jc a∧GT azs
end
mutual
theorem a9d{Z Z':FP}{w:World}:∀(a:AV) (v:Value) (S:FP),Jc a→Aj Z w a v S→Aj Z' w a v S
 | .sl true j sz α f xs,v,S,hc,h=>by
   simp only[Aj] at h ⊢
   simp only[Jc] at hc
   obtain⟨a,n,c,e,hn,hcc,h⟩:=h
   refine⟨a,n,c,e,hn,hcc,?_⟩
   rcases h with⟨ho,h⟩|⟨ho,_⟩
   ·refine .inl ⟨ho,?_⟩
    rcases h with h|⟨b,off,arr,ty,S1,ha,hb,hsz,hr,hj⟩
    ·exact .inl h
    ·exact .inr ⟨b,off,arr,ty,S1,ha,hb,hsz,Ht xs _ S1 (fun x cs A hA hx=>Jd (f x) cs A (hc x) hx) hr,hj⟩
   ·cases ho
 | .sl false j sz α f xs,v,S,hc,h=>hc.elim
 | .pf _,v,S,hc,h=>hc.elim
 | .box j c,v,S,hc,h=>by
   simp only[Aj] at h ⊢
   simp only[Jc] at hc
   obtain⟨b,arr,ty,S1,e,hb,hr,hj⟩:=h
   exact⟨b,arr,ty,S1,e,hb,Jd c _ S1 hc hr,hj⟩
 | .bv _ c,v,S,hc,h=>by
   simp only[Aj] at h ⊢
   simp only[Jc] at hc
   obtain⟨e0,b,arr,ty,S1,e,hb,hr,hj⟩:=h
   exact⟨e0,b,arr,ty,S1,e,hb,Jd c _ S1 hc hr,hj⟩
 | .hv _,v,S,hc,h=>h
 | .agg fs,v,S,hc,h=>by
   simp only[Aj] at h ⊢;simp only[Jc] at hc
   obtain⟨cs,e,hr⟩:=h;exact⟨cs,e,Jd fs cs S hc hr⟩
 | .tup fs,v,S,hc,h=>by
   simp only[Aj] at h ⊢;simp only[Jc] at hc
   obtain⟨cs,e,hr⟩:=h;exact⟨cs,e,Jd fs cs S hc hr⟩
 | .clo fn fs,v,S,hc,h=>by
   simp only[Aj] at h ⊢;simp only[Jc] at hc
   obtain⟨cs,e,hr⟩:=h;exact⟨cs,e,Jd fs cs S hc hr⟩
 | .int _ _,v,S,hc,h=>h
 | .bool _,v,S,hc,h=>h
 | .str _,v,S,hc,h=>h
 | .val _,v,S,hc,h=>h
 | .any,v,S,hc,h=>h
 | .top,v,S,hc,h=>h
 | .nil,v,S,hc,h=>h
 | .hole _,v,S,hc,h=>h
 | .al _,v,S,hc,h=>h
 | .po _ _ _ _,v,S,hc,h=>h
theorem Jd{Z Z':FP}{w:World}:∀(azs:List AV) (cs:List Value) (S:FP),GT azs→AS Z w azs cs S→AS Z' w azs cs S
 |[],cs,S,hc,h=>h
 |a::azs,cs,S,hc,h=>by
  simp only[AS] at h ⊢;simp only[GT] at hc
  obtain⟨v,cs',A,B,e,hj,h1,h2⟩:=h
  exact⟨v,cs',A,B,e,hj,a9d a v A hc.1 h1,Jd azs cs' B hc.2 h2⟩
end
structure Sig:Type 1 where
 X:Type
 args:X→List AV
 pre:X→Prop
 Y:Type
 post:X→Y→Prop
 res:X→Y→AV
 outs:X→Y→List AV
 keep:Bool
 fixed:List Nat:=[]
 caps:List (Nat×Fn×Nat):=[]
def Je:List (Nat×Fn×Nat)→List Value→Prop
 |[],_=>True
 |(p,fn,j)::l,vs=>(∃v,vs[p]? =some (Fv fn [v])∧vs[j]? =some v)∧Je l vs
structure After (Z:FP) (w:World) (A:FP) (Z':FP) (w':World) (A':FP):Prop where
 os:w'.os=w.os
 tape:w'.tape=w.tape
 output:w'.output=w.output
 size:w.heap.size≤w'.heap.size
 old:∀b,b<w.heap.size→¬A b→w'.heap[b]? =w.heap[b]? ∧(Z' b↔Z b)
 own:∀b,A' b→Z' b∧b<w'.heap.size∧(b<w.heap.size→A b)
def Un(keep:Bool)(p:Prop):Prop:=match keep with
 |true=>True
 |false=>p
def a9e(S:Sig):Prop:=∀x y,S.pre x→S.post x y→Un S.keep (GT (S.res x y::S.outs x y))
def Ah(G:GInv)(P:Program)(f:FuncId)(S:Sig):Prop:=
 ((∃fn,P.funcs[f]? =some fn∧(fn.name== "runtime.NumGoroutine")=false∧fn.body.isNone=false)∧a9e S)∧
 ∀x,S.pre x→∀Z w vals A,G.p Z w→AS Z w (S.args x) vals A→(∀b,A b→Z b∧b<w.heap.size)→Je S.caps vals→
  Calls P f vals.toArray w fun e w'=>∃y v Z' A',S.post x y∧e= .returned v∧AS Z' w' (S.res x y::S.outs x y) (v::vals) A'∧After Z w A Z' w' A'
def a9f:AV→Bool
 | .sl true _ _ _ _ _=>true
 |_=>false
def a9g:List AV→Bool
 |[]=>false
 |a::_=>a9f a
def Uo:AV→Bool
 | .sl true _ _ _ _ _=>true
 | .box _ _=>true
 | .bv _ _=>true
 | .agg l=>a9g l
 |_=>false
def Up(e:AV):AV:=match Uo e with|true=>e|false=> .top
def Uq(e:AV):AV:=match Uo e with|true=> .top|false=>e
theorem ZF{Z:FP}{w:World}:∀(es:List AV) (cs:List Value) (A B S:FP),AS Z w (es.map Up) cs A→AS Z w (es.map Uq) cs B→join S A B→AS Z w es cs S
 |[],cs,A,B,S,h1,h2,hs=>by
  simp only[List.map,AS] at h1 h2 ⊢
  exact⟨h1.1,fun b hb=>((hs.1 b).1 hb).elim (h1.2 b) (h2.2 b)⟩
 |e::es,cs,A,B,S,h1,h2,hs=>by
  simp only[List.map,AS] at h1 h2 ⊢
  obtain⟨v,cs',A1,B1,e1,hj,h3,h4⟩:=h1
  obtain⟨v',cs'',A2,B2,e2,hj2,h5,h6⟩:=h2
  rw[e1] at e2
  simp only[List.cons.injEq] at e2
  obtain⟨rfl,rfl⟩:=e2
  have hd:∀b,A1 b∨B1 b→¬(A2 b∨B2 b):=fun b x y=>hs.2 b ((hj.1 b).2 x) ((hj2.1 b).2 y)
  refine⟨v,cs',fun b=>A1 b∨A2 b,fun b=>B1 b∨B2 b,e1,⟨fun b=> ?_,fun b x y=> ?_⟩,?_,ZF es cs' B1 B2 _ h4 h6 ⟨fun _=>Iff.rfl,fun b x y=>hd b (.inr x) (.inr y)⟩⟩
  ·rw[hs.1 b,hj.1 b,hj2.1 b]
   exact⟨fun h=>h.elim (fun h=>h.elim (fun h=> .inl (.inl h)) (fun h=> .inr (.inl h))) (fun h=>h.elim (fun h=> .inl (.inr h)) (fun h=> .inr (.inr h))),
    fun h=>h.elim (fun h=>h.elim (fun h=> .inl (.inl h)) (fun h=> .inr (.inl h))) (fun h=>h.elim (fun h=> .inl (.inr h)) (fun h=> .inr (.inr h)))⟩
  ·rcases x with x|x<;>rcases y with y|y
   ·exact hj.2 b x y
   ·exact hd b (.inl x) (.inr y)
   ·exact hd b (.inr y) (.inl x)
   ·exact hj2.2 b x y
  ·unfold Up Uq at*
   cases hm:Uo e
   ·rw[hm] at h3 h5
    simp only[Aj] at h3
    have:(fun b=>A1 b∨A2 b)=A2:=DW (fun b=>⟨fun h=>h.elim (fun h=>(h3 b h).elim) id,.inr⟩)
    rw[this];exact h5
   ·rw[hm] at h3 h5
    simp only[Aj] at h5
    have:(fun b=>A1 b∨A2 b)=A1:=DW (fun b=>⟨fun h=>h.elim id (fun h=>(h5 b h).elim),.inl⟩)
    rw[this];exact h3
def Jf(regs:List AV):List AV→List AV→(List AV→Prop)→Prop
 |[],[],K=>K regs
 |a::azs,o::os,K=>match o with
  | .top=>Jf regs azs os K
  | .sl true _ sz α f xs=>match a with
    | .al id=>match DN id (.sl true id sz α f xs) regs with
      |some regs'=>Jf regs' azs os K
      |none=>False
    |_=>False
  |_=>False
 |_,_,_=>False
theorem Ur{Z:FP}{w:World}{η:Nat→Value}{vs:List Value}{nx:Nat}{K:List AV→Prop}:∀(azs os:List AV) (regs:List AV),Jf regs azs os K→
 ∀(us:List Value) (B A S:FP),An Z η w regs vs B→AQ nx regs→An Z η w azs us (fun _=>False)→AQ nx azs→
 AS Z w os us A→join S A B→∃regs',K regs'∧AQ nx regs'∧An Z η w regs' vs S
 |[],[],regs,h,us,B,A,S,hR,hI,ha,hai,ho,hj=>by
  simp only[Jf] at h
  simp only[AS] at ho
  exact⟨regs,h,hI,by rw[show S=B from DW (EZ hj ho.2)];exact hR⟩
 |[],_::_,regs,h,us,B,A,S,hR,hI,ha,hai,ho,hj=>by simp [Jf] at h
 |_::_,[],regs,h,us,B,A,S,hR,hI,ha,hai,ho,hj=>by simp [Jf] at h
 |a::azs,o::os,regs,h,us,B,A,S,hR,hI,ha,hai,ho,hj=>by
  simp only[AS] at ho
  obtain⟨v,us',A1,A2,eu,hj2,ho1,ho2⟩:=ho
  subst eu
  simp only[AQ] at hai
  simp only[An] at ha
  obtain⟨v0,us0,B1,B2,eu0,hj0,ha1,ha2⟩:=ha
  simp only[List.cons.injEq] at eu0
  obtain⟨rfl,rfl⟩:=eu0
  rw[DM (Gi hj0 AO).1] at ha1
  rw[DM (Gi hj0 AO).2] at ha2
  have hjj:join S A2 (fun x=>A1 x∨B x):=by
   refine⟨fun x=> ?_,fun x p q=>q.elim (fun q=>hj2.2 x q p) (fun q=>hj.2 x ((hj2.1 x).2 (.inr p)) q)⟩
   rw[hj.1 x,hj2.1 x]
   exact⟨fun h=>h.elim (fun h=>h.elim (fun h=> .inr (.inl h)) .inl) (fun h=> .inr (.inr h)),fun h=>h.elim (fun h=> .inl (.inr h)) (fun h=>h.elim (fun h=> .inl (.inl h)) .inr)⟩
  have hjB:join (fun x=>A1 x∨B x) A1 B:=⟨fun _=>Iff.rfl,fun x p q=>hj.2 x ((hj2.1 x).2 (.inl p)) q⟩
  unfold Jf at h
  split at h
  ·simp only[Aj] at ho1
   exact Ur azs os regs h us' B A S hR hI ha2 hai.2 (by rw[show A=A2 from DW (EZ hj2 ho1)];exact ho2) hj
  ·rename_i j sz α f xs
   split at h
   ·rename_i id
    split at h
    ·rename_i regs1 hpl
     have hid:id<nx:=hai.1
     have hv:v=η id:=by simp only[Ae] at ha1;exact ha1.1
     have hown:Ae Z η w (.sl true id sz α f xs) (η id) A1:=by
      simp only[Ae]
      refine⟨fun _=>trivial,?_⟩
      rw[←hv];exact ho1
     have hpg:=Gn hown regs vs B (fun x=>A1 x∨B x) regs1 hR hjB hpl
     have hids1:AQ nx regs1:=Gp (by simp only[AL];exact fun _=>hid) _ _ hI hpl
     exact Ur azs os regs1 h us' _ A2 S hpg hids1 ha2 hai.2 ho2 hjj
    ·exact h.elim
   ·exact h.elim
  ·exact h.elim
def FK(regs:List AV)(nx:Nat):List AV→List AV→(List AV→Nat→Prop)→Prop
 |[],[],K=>K regs nx
 |a::azs,o::os,K=>match o with
  | .top=>FK regs nx azs os K
  | .box _ c=>match a with
    | .al id=>match DN id (.box id (Cb nx c).1) regs with
      |some regs'=>FK regs' (Cb nx c).2 azs os K
      |none=>False
    | .val v=>match FJ (Cb nx c).1 regs with
      |some (x,regs')=>x=v∧FK regs' (Cb nx c).2 azs os K
      |none=>False
    |_=>False
  | .bv _ c=>match a with
    | .val v=>match FJ (Cb nx c).1 regs with
      |some (x,regs')=>x=v∧FK regs' (Cb nx c).2 azs os K
      |none=>False
    |_=>False
  | .sl true _ sz α f xs=>match a with
    | .al id=>match DN id (.sl true id sz α f xs) regs with
      |some regs'=>FK regs' nx azs os K
      |none=>False
    |_=>False
  | .agg c=>match a with
    | .agg c'=>Jf regs c' c fun regs'=>FK regs' nx azs os K
    |_=>False
  |_=>False
 |_,_,_=>False
theorem LR{Z:FP}{w:World}{K:List AV→Nat→Prop}:∀(azs os:List AV) (regs:List AV) (nx:Nat),FK regs nx azs os K→
 ∀(η:Nat→Value) (vs us:List Value) (B A S:FP),An Z η w regs vs B→AQ nx regs→An Z η w azs us (fun _=>False)→AQ nx azs→
 AS Z w os us A→join S A B→
 ∃regs' nx',K regs' nx'∧nx≤nx'∧AQ nx' regs'∧∃η':Nat→Value,(∀i,i<nx→η' i=η i)∧An Z η' w regs' vs S
 |[],[],regs,nx,h,η,vs,us,B,A,S,hR,hI,ha,hai,ho,hj=>by
  simp only[FK] at h
  simp only[AS] at ho
  refine⟨regs,nx,h,Nat.le_refl _,hI,η,fun _ _=>rfl,?_⟩
  rw[show S=B from DW (EZ hj ho.2)];exact hR
 |[],_::_,regs,nx,h,η,vs,us,B,A,S,hR,hI,ha,hai,ho,hj=>by simp [FK] at h
 |_::_,[],regs,nx,h,η,vs,us,B,A,S,hR,hI,ha,hai,ho,hj=>by simp [FK] at h
 |a::azs,o::os,regs,nx,h,η,vs,us,B,A,S,hR,hI,ha,hai,ho,hj=>by
  simp only[AS] at ho
  obtain⟨v,us',A1,A2,eu,hj2,ho1,ho2⟩:=ho
  subst eu
  simp only[AQ] at hai
  simp only[An] at ha
  obtain⟨v0,us0,B1,B2,eu0,hj0,ha1,ha2⟩:=ha
  simp only[List.cons.injEq] at eu0
  obtain⟨rfl,rfl⟩:=eu0
  rw[DM (Gi hj0 AO).1] at ha1
  rw[DM (Gi hj0 AO).2] at ha2
  have hjj:join S A2 (fun x=>A1 x∨B x):=by
   refine⟨fun x=> ?_,fun x p q=>q.elim (fun q=>hj2.2 x q p) (fun q=>hj.2 x ((hj2.1 x).2 (.inr p)) q)⟩
   rw[hj.1 x,hj2.1 x]
   exact⟨fun h=>h.elim (fun h=>h.elim (fun h=> .inr (.inl h)) .inl) (fun h=> .inr (.inr h)),fun h=>h.elim (fun h=> .inl (.inr h)) (fun h=>h.elim (fun h=> .inl (.inl h)) .inr)⟩
  have hjB:join (fun x=>A1 x∨B x) A1 B:=⟨fun _=>Iff.rfl,fun x p q=>hj.2 x ((hj2.1 x).2 (.inl p)) q⟩
  have vcase:∀(c:List AV) (u x:Value) (regs1:List AV),a= .val u→(∃b arr ty S1,v= .pointer (some ⟨b,0,none⟩)∧w.heap[b]? =some (.cells arr ty (0,0))∧AS Z w c arr.toList S1∧join A1 (one b) S1)→
   FJ (Cb nx c).1 regs=some (x,regs1)→x=u→FK regs1 (Cb nx c).2 azs os K→
   ∃regs' nx',K regs' nx'∧nx≤nx'∧AQ nx' regs'∧∃η':Nat→Value,(∀i,i<nx→η' i=η i)∧An Z η' w regs' vs S:=by
   intro c u x regs1 hau hbx hpl hxu hk
   subst hau;subst hxu
   obtain⟨b,arr,ty,S1,e,hb,hr,hj3⟩:=hbx
   obtain⟨h1,h2,η1,h3,h4⟩:=Hy c nx arr.toList S1 η hr
   have hv:v=x:=by simp only[Ae,Aj] at ha1;exact ha1.1
   have hbox:Ae Z η1 w (.bv x (Cb nx c).1) x A1:=by
    simp only[Ae]
    refine⟨trivial,b,arr,ty,S1,?_,hb,h4 η1 (fun _ _=>rfl),hj3⟩
    rw[←hv];exact e
   have hR1:=Cq (n:=nx) (Z':=Z) (w':=w) (fun b hb _=>⟨hb,rfl⟩) h3 _ _ _ hI (fun _ _=>rfl) hR
   have hpg:=NH regs vs B (fun x=>A1 x∨B x) x regs1 hR1 hjB hpl hbox
   have hids1:AQ (Cb nx c).2 regs1:=NI h2 _ _ _ (EL h1 _ hI) hpl
   obtain⟨regs',nx',g0,g1,g2,η2,g3,g4⟩:=LR azs os regs1 _ hk η1 vs us' _ A2 S hpg hids1 (Cq (n:=nx) (Z':=Z) (w':=w) (fun b hb _=>⟨hb,rfl⟩) h3 _ _ _ hai.2 (fun _ _=>rfl) ha2) (EL h1 _ hai.2) ho2 hjj
   exact⟨regs',nx',g0,by omega,g2,η2,fun i hi=>by rw[g3 i (by omega),h3 i hi],g4⟩
  unfold FK at h
  split at h
  ·simp only[Aj] at ho1
   exact LR azs os regs nx h η vs us' B A S hR hI ha2 hai.2 (by rw[show A=A2 from DW (EZ hj2 ho1)];exact ho2) hj
  ·rename_i j c
   split at h
   ·rename_i id
    split at h
    ·rename_i regs1 hpl
     simp only[Aj] at ho1
     obtain⟨b,arr,ty,S1,e,hb,hr,hj3⟩:=ho1
     obtain⟨h1,h2,η1,h3,h4⟩:=Hy c nx arr.toList S1 η hr
     have hid:id<nx:=hai.1
     have hv:v=η id:=by simp only[Ae] at ha1;exact ha1.1
     have hbox:Ae Z η1 w (.box id (Cb nx c).1) (η1 id) A1:=by
      simp only[Ae]
      refine⟨trivial,b,arr,ty,S1,?_,hb,h4 η1 (fun _ _=>rfl),hj3⟩
      rw[h3 id hid,←hv];exact e
     have hR1:=Cq (n:=nx) (Z':=Z) (w':=w) (fun b hb _=>⟨hb,rfl⟩) h3 _ _ _ hI (fun _ _=>rfl) hR
     have hpg:=Gn hbox regs vs B (fun x=>A1 x∨B x) regs1 hR1 hjB hpl
     have hids1:AQ (Cb nx c).2 regs1:=Gp (by simp only[AL];exact⟨by omega,h2⟩) _ _ (EL h1 _ hI) hpl
     obtain⟨regs',nx',g0,g1,g2,η2,g3,g4⟩:=LR azs os regs1 _ h η1 vs us' _ A2 S hpg hids1 (Cq (n:=nx) (Z':=Z) (w':=w) (fun b hb _=>⟨hb,rfl⟩) h3 _ _ _ hai.2 (fun _ _=>rfl) ha2) (EL h1 _ hai.2) ho2 hjj
     exact⟨regs',nx',g0,by omega,g2,η2,fun i hi=>by rw[g3 i (by omega),h3 i hi],g4⟩
    ·exact h.elim
   ·rename_i u
    split at h
    ·rename_i x regs1 hpl
     simp only[Aj] at ho1
     exact vcase c u x regs1 rfl ho1 hpl h.1 h.2
    ·exact h.elim
   ·exact h.elim
  ·rename_i y c
   split at h
   ·rename_i u
    split at h
    ·rename_i x regs1 hpl
     simp only[Aj] at ho1
     exact vcase c u x regs1 rfl ho1.2 hpl h.1 h.2
    ·exact h.elim
   ·exact h.elim
  ·rename_i j sz α f xs
   split at h
   ·rename_i id
    split at h
    ·rename_i regs1 hpl
     have hid:id<nx:=hai.1
     have hv:v=η id:=by simp only[Ae] at ha1;exact ha1.1
     have hown:Ae Z η w (.sl true id sz α f xs) (η id) A1:=by
      simp only[Ae]
      refine⟨fun _=>trivial,?_⟩
      rw[←hv];exact ho1
     have hpg:=Gn hown regs vs B (fun x=>A1 x∨B x) regs1 hR hjB hpl
     have hids1:AQ nx regs1:=Gp (by simp only[AL];exact fun _=>hid) _ _ hI hpl
     exact LR azs os regs1 nx h η vs us' _ A2 S hpg hids1 ha2 hai.2 ho2 hjj
    ·exact h.elim
   ·exact h.elim
  ·rename_i c
   split at h
   ·rename_i c'
    simp only[Aj] at ho1
    simp only[Ae] at ha1
    obtain⟨cs,e1,ho1⟩:=ho1
    obtain⟨cs',e2,ha1⟩:=ha1
    rw[e1] at e2
    cases e2
    obtain⟨regs1,hk,hids1,hpg⟩:=Ur c' c regs h cs B A1 _ hR hI ha1 hai.1 ho1 hjB
    exact LR azs os regs1 nx hk η vs us' _ A2 S hpg hids1 ha2 hai.2 ho2 hjj
   ·exact h.elim
  ·exact h.elim
theorem PP{Z:FP}{η:Nat→Value}{w:World}:∀(azs:List AV) (vs:List Value) (A:FP) (p:Nat) (a:AV),An Z η w azs vs A→azs[p]? =some a→∃v B,vs[p]? =some v∧Ae Z η w a v B
 |[],vs,A,p,a,h,ha=>by simp at ha
 |x::azs,vs,A,p,a,h,ha=>by
  simp only[An] at h
  obtain⟨v,cs',A1,B1,rfl,hj,h1,h2⟩:=h
  cases p with
  |zero=>simp at ha;subst ha;exact⟨v,A1,by simp,h1⟩
  |succ p=>
   simp only[List.getElem?_cons_succ] at ha ⊢
   exact PP azs cs' B1 p a h2 ha
def PQ:List (Nat×Fn×Nat)→List AV→Prop
 |[],_=>True
 |(p,fn,j)::l,azs=>(match azs[p]?,azs[j]? with
    |some (.clo fn' [.al id]),some (.al id')=>match NJ fn' fn,Nat.beq id id' with
     |true,true=>True
     |_,_=>False
    |_,_=>False)∧PQ l azs
theorem ZG{Z:FP}{η:Nat→Value}{w:World}{azs:List AV}{us:List Value}{A:FP}(hr:An Z η w azs us A):∀l,PQ l azs→Je l us
 |[],_=>trivial
 |(p,fn,j)::l,h=>by
  obtain⟨h1,h2⟩:=h
  refine⟨?_,ZG hr l h2⟩
  split at h1
  ·rename_i fn' id id' e1 e2
   split at h1
   ·rename_i q1 q2
    have q1:=Ul q1;have q2:=Nat.eq_of_beq_eq_true q2
    subst q1;subst q2
    obtain⟨v,B,g1,g2⟩:=PP _ _ _ _ _ hr e1
    obtain⟨u,B',g3,g4⟩:=PP _ _ _ _ _ hr e2
    simp only[Ae,An] at g2 g4
    obtain⟨cs,rfl,v',cs',A',B'',rfl,_,⟨rfl,_,_⟩,rfl,_⟩:=g2
    obtain⟨rfl,_,_⟩:=g4
    exact⟨_,g1,g3⟩
   ·exact h1.elim
  ·exact h1.elim
def Us(S:Sig)(s:St)(dst:Option Nat)(args:List AV)(K:St→Prop):Prop:=
 ∃x:S.X,S.pre x∧Dw false ((S.args x).map Up) s.regs args fun r1=>
  Dw (!S.keep) ((S.args x).map Uq) r1 args fun r2=>
   ∀y,S.post x y→FK r2 s.nx args (S.outs x y) fun r3 n3=>K ⟨BO r3 dst (DY n3 (S.res x y)).1,(DY n3 (S.res x y)).2⟩
def NK(S:Sig)(s:St)(dst:Option Nat)(args:List AV)(K:St→Prop):Prop:=match S.caps with
 |[]=>Us S s dst args K
 |c::cs=>PQ (c::cs) args∧Us S s dst args K
theorem a9h{S:Sig}{s:St}{dst:Option Nat}{args:List AV}{K:St→Prop}(h:NK S s dst args K):(match S.caps with|[]=>True|c::cs=>PQ (c::cs) args)∧Us S s dst args K:=by
 unfold NK at h
 cases hc:S.caps with
 |nil=>rw[hc] at h;exact⟨trivial,h⟩
 |cons c cs=>rw[hc] at h;exact h
theorem ZH{P:Program}{f:FuncId}{S:Sig}{C:Ctx}(hc:Ah C.G P f S){s:St}{dst:Option Nat}{args:List AV}{K:St→Prop}(h:NK S s dst args K)
 {a:Act} {w:World} {η:Nat→Value} {Z T:FP} (hi:Inst C s a w η Z T) {us:List Value} (ha:An Z η w args us (fun _=>False)) (hai:AQ s.nx args):
 Calls P f us.toArray w fun e w'=>∃v s',e= .returned v∧K s'∧Rel C s' (a.put dst v) w':=by
 obtain⟨hcaps,x,hpre,h⟩:=a9h h
 have hcaps:Je S.caps us:=by
  refine ZG ha _ ?_
  cases hcc:S.caps with
  |nil=>trivial
  |cons c cs=>rw[hcc] at hcaps;exact hcaps
 obtain⟨Z1,A1,B1,r1,h1⟩:=Fx _ s.regs args _ h Z a.tmps.toList us T (fun _=>False) T hi.rel hi.ids ha hai (BB T)
 have ha1:=Cq (Gt (w:=w) h1.zz) (fun _ _=>rfl) _ _ _ hai (fun _ _=>rfl) ha
 obtain⟨Z2,A2,B2,r2,h2⟩:=Fx _ r1 args _ h1.k Z1 a.tmps.toList us B1 (fun _=>False) B1 h1.rel h1.ids ha1 hai (BB B1)
 have h12:=CR (Gt (w:=w) h2.zz) _ _ _ (fun _ _=>rfl) h1.got
 have hTZ:∀b,T b→Z b:=fun b hb=>(hi.own b hb).1
 have hA1T:∀b,A1 b→T b:=fun b hb=>h1.part b (.inl hb)
 have hB1T:∀b,B1 b→T b:=fun b hb=>h1.part b (.inr hb)
 have hA2B:∀b,A2 b→B1 b:=fun b hb=>h2.part b (.inl hb)
 have hB2B:∀b,B2 b→B1 b:=fun b hb=>h2.part b (.inr hb)
 have hB1Z:∀b,B1 b→Z1 b:=fun b hb=>h1.ownB rfl b hb (hTZ b (hB1T b hb))
 have hA1Z1:∀b,A1 b→Z1 b:=fun b hb=>h1.ownA b hb (hTZ b (hA1T b hb))
 have hA1Z:∀b,A1 b→Z2 b:=fun b hb=>Classical.byContradiction fun hn=>h1.dis b hb (h2.gone b (hA1Z1 b hb) hn)
 have hA2Z:∀b,A2 b→Z2 b:=fun b hb=>h2.ownA b hb (hB1Z b (hA2B b hb))
 have hjA:join (fun b=>A1 b∨A2 b) A1 A2:=⟨fun _=>Iff.rfl,fun b x y=>h1.dis b x (hA2B b y)⟩
 have hargs:=ZF _ _ _ _ _ h12 h2.got hjA
 have hAZ:∀b,A1 b∨A2 b→Z2 b∧b<w.heap.size:=fun b hb=>
  ⟨hb.elim (hA1Z b) (hA2Z b),(hi.own b (hb.elim (hA1T b) (fun h=>hB1T b (hA2B b h)))).2.1⟩
 refine(hc.2 x hpre Z2 w us _ (C.G.mono _ _ _ _ (fun b hb _=>⟨fun x=>hb (h1.zz b (h2.zz b x)),rfl⟩) hi.ok.glob) hargs hAZ hcaps).mono ?_
 rintro e w' ⟨y,v,Z',A',hpost,rfl,hres,haft⟩
 have hk:=h2.k y hpost;have hkeep:=hc.1.2 x y hpre hpost
 obtain⟨Zr,B,hrB,hrI,hZr,hBA,hBT,hBB⟩:∃Zr B,An Zr η w r2 a.tmps.toList B∧AQ s.nx r2∧(∀b,¬Zr b→b<w.heap.size→¬(A1 b∨A2 b)∧¬B b∧¬Z2 b)∧
  (∀b,B b→¬(A1 b∨A2 b))∧(∀b,B b→T b)∧(S.keep=true→∀b,B b→Z2 b):=by
  rcases Bool.eq_false_or_eq_true S.keep with hk|hk
  ·refine⟨Z2,B2,h2.rel,h2.ids,fun b hz hb=>⟨fun x=>hz (hAZ b x).1,fun x=> ?_,hz⟩,fun b hb x=> ?_,fun b hb=>hB1T b (hB2B b hb),fun _ b hb=> ?_⟩
   ·exact hz (h2.ownB (by simp [hk]) b x (hB1Z b (hB2B b x)))
   ·exact x.elim (fun x=>h1.dis b x (hB2B b hb)) (fun x=>h2.dis b x hb)
   ·exact h2.ownB (by simp [hk]) b hb (hB1Z b (hB2B b hb))
  ·have hfix:=h2.fix (by simp [hk])
   have hA2e:∀b,¬A2 b:=fun b hb=>h2.stay (by simp [hk]) b hb
   refine⟨Z1,B1,by rw[hfix];exact h1.rel,h2.ids,fun b hz hb=>⟨fun x=>hz (h2.zz b (hAZ b x).1),fun x=>hz (hB1Z b x),fun x=>hz (h2.zz b x)⟩,fun b hb x=> ?_,hB1T,fun hh=> ?_⟩
   ·exact x.elim (fun x=>h1.dis b x hb) (hA2e b)
   ·rw[hk] at hh;cases hh
 let Zc:FP:=fun b=>Z' b∨B b
 have hold:∀b,b<w.heap.size→¬(A1 b∨A2 b)→w'.heap[b]? =w.heap[b]? ∧(Z' b↔Z2 b):=haft.old
 have hr2:An Zc η w' r2 a.tmps.toList B:=by
  refine Cq (n:=s.nx) (fun b hz hb=> ?_) (fun _ _=>rfl) _ _ _ hrI (fun b hb=> ?_) hrB
  ·obtain⟨g1,g2,g3⟩:=hZr b hz hb
   obtain⟨g4,g5⟩:=hold b hb g1
   exact⟨fun x=>x.elim (fun x=>g3 (g5.1 x)) g2,g4⟩
  ·exact(hold b (hi.own b (hBT b hb)).2.1 (hBA b hb)).1
 have hargs':An Zc η w' args us (fun _=>False):=by
  refine Cq (n:=s.nx) (fun b hz hb=> ?_) (fun _ _=>rfl) _ _ _ hai (fun b hb=>hb.elim) ha
  have g1:¬(A1 b∨A2 b):=fun x=>hz (h1.zz b (h2.zz b (hAZ b x).1))
  obtain⟨g4,g5⟩:=hold b hb g1
  exact⟨fun x=>x.elim (fun x=>hz (h1.zz b (h2.zz b (g5.1 x)))) (fun x=>hz (hTZ b (hBT b x))),g4⟩
 have hres':AS Zc w' (S.res x y::S.outs x y) (v::us) A':=by
  rcases Bool.eq_false_or_eq_true S.keep with hk|hk
  ·refine CR (fun b hz hb=>⟨fun x=>x.elim hz (fun x=>hz ?_),rfl⟩) _ _ _ (fun _ _=>rfl) hres
   exact(hold b (hi.own b (hBT b x)).2.1 (hBA b x)).2.2 (hBB hk b x)
  ·rw[hk] at hkeep
   exact Jd _ _ _ hkeep hres
 have hA'own:=haft.own
 simp only[AS] at hres'
 obtain⟨v',us',Ar,Ao,e1,hjr,hr1,hr3⟩:=hres'
 simp only[List.cons.injEq] at e1
 obtain⟨rfl,rfl⟩:=e1
 have hBA':∀b,B b→¬A' b:=fun b hb x=>hBA b hb ((hA'own b x).2.2 (hi.own b (hBT b hb)).2.1)
 ·obtain⟨r3,n3,hk,p1,p2,η1,p3,p4⟩:=LR args _ r2 s.nx hk η a.tmps.toList us B Ao (fun b=>Ao b∨B b) hr2 hrI hargs' hai hr3
   ⟨fun _=>Iff.rfl,fun b x y=>hBA' b y ((hjr.1 b).2 (.inr x))⟩
  obtain⟨q1,q2,η2,q3,q4⟩:=ZE (S.res x y) n3 v Ar η1 hr1
  have hv:=q4 η2 (fun _ _=>rfl)
  have p5:=Cq (n:=n3) (Z':=Zc) (w':=w') (fun b hb _=>⟨hb,rfl⟩) q3 _ _ _ p2 (fun _ _=>rfl) p4
  refine⟨v,_,rfl,hk,?_⟩
  obtain⟨S',hS',hfin⟩:∃S',(∀b,S' b→A' b∨B b)∧An Zc η2 w' (BO r3 dst (DY n3 (S.res x y)).1) (a.put dst v).tmps.toList S':=by
   cases dst with
   |none=>exact⟨_,fun b hb=>hb.elim (fun h=> .inl ((hjr.1 b).2 (.inr h))) .inr,p5⟩
   |some d=>
    rw[LC]
    simp only[BO]
    rcases Nat.lt_or_ge d r3.length with hd|hd
    ·obtain⟨S',hs,hr⟩:=Nu p5 hd hv (fun b x y=>y.elim (fun y=>hjr.2 b x y) (fun y=>hBA' b y ((hjr.1 b).2 (.inl x))))
     exact⟨S',fun b hb=>(hs b hb).elim (fun h=>h.elim (fun h=> .inl ((hjr.1 b).2 (.inr h))) .inr) (fun h=> .inl ((hjr.1 b).2 (.inl h))),hr⟩
    ·rw[List.set_eq_of_length_le hd,List.set_eq_of_length_le (by rw[Ez _ _ _ p5];exact hd)]
     exact⟨_,fun b hb=>hb.elim (fun h=> .inl ((hjr.1 b).2 (.inr h))) .inr,p5⟩
  refine⟨η2,Zc,S',⟨by rw[LD];exact hi.defers,hfin,?_,fun b hb=> ?_,?_⟩⟩
  ·cases dst with
   |none=>exact EL q1 _ p2
   |some d=>exact FH _ _ _ (EL q1 _ p2) q2
  ·rcases hS' b hb with hb|hb
   ·obtain⟨g1,g2,g3⟩:=hA'own b hb
    refine⟨.inl g1,g2,fun h0=> ?_⟩
    have hTb:T b:=(g3 (Nat.lt_of_lt_of_le h0 hi.ok.size)).elim (hA1T b) (fun h=>hB1T b (hA2B b h))
    exact(hi.own b hTb).2.2 h0
   ·exact⟨.inr hb,Nat.lt_of_lt_of_le (hi.own b (hBT b hb)).2.1 haft.size,fun h0=>(hi.own b (hBT b hb)).2.2 h0⟩
  ·refine⟨haft.os.trans hi.ok.os,haft.tape.trans hi.ok.tape,haft.output.trans hi.ok.output,Nat.le_trans hi.ok.size haft.size,fun b h0 hs=> ?_⟩
   have hnT:¬T b:=fun x=>hs ((hi.own b x).2.2 h0)
   have hnA:¬(A1 b∨A2 b):=fun x=>hnT (x.elim (hA1T b) (fun h=>hB1T b (hA2B b h)))
   obtain⟨g1,g2⟩:=hold b (Nat.lt_of_lt_of_le h0 hi.ok.size) hnA
   obtain⟨g3,g4⟩:=hi.ok.old b h0 hs
   refine⟨g1.trans g3,⟨fun x=> ?_,fun x=> ?_⟩⟩
   ·rcases x with x|x
    ·exact g4.1 (h1.zz b (h2.zz b (g2.1 x)))
    ·exact(hnT (hBT b x)).elim
   ·refine .inl (g2.2 ?_)
    have z0:=g4.2 x
    have z1:Z1 b:=Classical.byContradiction fun hn=>hnT (h1.gone b z0 hn)
    exact Classical.byContradiction fun hn=>hnT (hB1T b (h2.gone b z1 hn))
end Go.Eng
end
