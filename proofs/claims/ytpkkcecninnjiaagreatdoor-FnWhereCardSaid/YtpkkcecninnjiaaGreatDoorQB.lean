/- joined -/
import Derived.Test.YtpkkcecninnjiaaGreatDoorQA
set_option linter.unusedSimpArgs false
set_option linter.unusedVariables false
section
namespace Go.Eng
variable {A B S Z:FP}{K:AV→Prop}{P:Program}{a:Act}{i n sz:Nat}{o:Oper}{ov own:Bool}{regs:List AV}{ts:Array TypeId}{v xv:Value}{vs:List Value}{w:World}{x:AV}{η:Nat→Value}
def Ae(b:Bool)(p q:Prop):Prop:=match b with
 |true=>p
 |false=>q
def a0D(P:Program)(t:TypeId)(x:AV)(f:Nat)(K:AV→Prop):Prop:=
 match x with
 | .agg cs=>match P.underlying t with
   |some (.struct fs)=>match fs[f]? with
    |some fd=>match P.underlying fd.type,P.info? fd.type with
     |some d,some i=>match Jw d with
      |true=>K (.agg ((cs.drop fd.offset).take i.size))
      |false=>match cs[fd.offset]? with
       |some a=>K a
       |none=>False
     |_,_=>False
    |none=>False
   |_=>False
 |_=>False
theorem a7e{azs:List AV}{cs:List Value}(h:Am Z η w azs cs (fun _=>False)){a:AV}(ha:azs[i]? =some a):
 ∃v,cs[i]? =some v∧Af Z η w a v (fun _=>False):=by
 obtain⟨v,A,B,hv,hr,hj,_⟩:=Gl azs cs _ i a h ha
 have hA:=(Jv hj AI).1
 rw[Fx hA] at hr
 exact⟨v,hv,hr⟩
theorem b6r{t:TypeId}{f:Nat}(h:a0D P t x f K)
 (hx:Af Z η w x xv (fun _=>False)) (hi:Az n x):POk P Z η w n (Instr.field t xv f) K:=by
 unfold a0D at h
 split at h
 ·rename_i cs
  simp only[Af] at hx
  obtain⟨vs,e,hr⟩:=hx
  subst e
  simp only[Az] at hi
  split at h
  ·rename_i fs hu
   split at h
   ·rename_i fd hfd
    split at h
    ·rename_i d i hud hinf
     have hrun:∀v w,(part fd.type vs.toArray fd.offset).run P w= .ok v w→(Instr.field t (.agg vs.toArray) f).run P w= .ok v w:=by
      intro v w hv
      unfold Instr.field
      rw[AC (DV hu w)]
      simp only[hfd,asAgg]
      rw[AC (Cy P _ w)]
      exact hv
     split at h
     ·rename_i hagg
      refine⟨.agg ((vs.drop fd.offset).take i.size).toArray,_,fun w _=>hrun _ w ?_,?_,?_,h⟩
      ·unfold part
       rw[AC (Kk hud w),hagg]
       simp only[BN]
       rw[AC (Hy hinf w)]
       simp only[Cy]
       congr 2
       apply Oy
       simp [Ld]
      ·simp only[Af];exact⟨_,rfl,Ts _ _ _ (Tr _ _ _ hr)⟩
      ·simp only[Az];exact QN _ _ (Ni _ _ hi)
     ·rename_i hagg
      split at h
      ·rename_i a ha
       obtain⟨v,hv,hrv⟩:=a7e hr ha
       refine⟨v,a,fun w _=>hrun _ w ?_,hrv,QF _ _ _ hi ha,h⟩
       unfold part
       rw[AC (Kk hud w),hagg]
       simp only[Bl,Br]
       have:vs.toArray[fd.offset]? =some v:=by simpa using hv
       rw[this];rfl
      ·exact h.elim
    ·exact h.elim
   ·exact h.elim
  ·exact h.elim
 ·exact h.elim
def a0E(x:AV)(i:Nat)(K:AV→Prop):Prop:=
 match x with
 | .tup vs=>match vs[i]? with
   |some a=>K a
   |none=>False
 |_=>False
theorem b6s(h:a0E x i K)
 (hx:Af Z η w x xv (fun _=>False)) (hi:Az n x):POk P Z η w n (Instr.extract xv i) K:=by
 unfold a0E at h
 split at h
 ·rename_i vs
  simp only[Af] at hx
  obtain⟨cs,e,hr⟩:=hx
  subst e
  simp only[Az] at hi
  split at h
  ·rename_i a ha
   obtain⟨v,hv,hrv⟩:=a7e hr ha
   refine⟨v,a,fun _ _=> ?_,hrv,QF _ _ _ hi ha,h⟩
   unfold Instr.extract
   have:cs.toArray[i]? =some v:=by simpa using hv
   simp only[this];rfl
  ·exact h.elim
 ·exact h.elim
def Wa(P:Program)(s d:TypeId){α:Type}(sz:Nat)(f:α→List AV)(xs:List α)(K:AV→Prop):Prop:=
 match P.underlying s,P.underlying d with
 |some (.slice e),some .string=>match P.underlying e with
  |some (.int .u8)=>∃l:Aa,AV.sl false 0 sz α f xs=AV.sl false 0 1 UInt8 OI l∧K (.str l)
  |_=>False
 |_,_=>False
def a0F(P:Program)(ov:Bool)(regs:List AV)(s d:TypeId)(x:AV)(K:AV→Prop):Prop:=
 match x with
 | .int _ n=>match P.underlying s,P.underlying d with
   |some (.int _),some (.int k)=>OF ov k n K
   |_,_=>False
 | .str l=>match P.underlying s,P.underlying d with
   |some .string,some .string=>K (.str l)
   |_,_=>False
 | .sl false _ sz α f xs=>Wa P s d sz f xs K
 | .al id=>match Fd id regs with
   |some (.sl true _ sz α f xs)=>Wa P s d sz f xs K
   |_=>False
 |_=>False
theorem a7f{s d:TypeId}{α:Type}{f:α→List AV}{xs:List α}(h:Wa P s d sz f xs K)
  {id:Nat}  (hx:Aj Z w (.sl own id sz α f xs) xv S):POk P Z η w n (convert s d xv) K:=by
 unfold Wa at h
 split at h
 ·rename_i e hs hd
  split at h
  ·rename_i he
   obtain⟨l,hl,hk⟩:=h
   have hx':Aj Z w (.sl own id 1 UInt8 OI l) xv S:=by
    injection hl with _ _ h1 h2 h3 h4
    subst h1;subst h2
    have h3:=eq_of_heq h3;have h4:=eq_of_heq h4
    subst h3;subst h4
    exact hx
   obtain⟨a,m,c,rfl,_⟩:=a7d (P:=P) (Sees.refl w) hx'
   refine⟨_,.str l,fun w2 hw2=> ?_,⟨rfl,AI⟩,trivial,hk⟩
   rw[run_convert_bytes_string w2 s d e a m c hs he hd]
   obtain⟨_,_,_,_,hr⟩:=a7d (P:=P) hw2 hx'
   exact hr
  ·exact h.elim
 ·exact h.elim
theorem b6t{s d:TypeId}(h:a0F P ov regs s d x K)
   (hR:Am Z η w regs vs S) (hx:Af Z η w x xv (fun _=>False)):POk P Z η w n (convert s d xv) K:=by
 unfold a0F at h
 split at h
 ·rename_i k0 m
  simp only[Af,Aj] at hx
  rw[hx.1]
  split at h
  ·rename_i k1 k hs hd
   refine⟨_,.int k (k.wrap m),fun w _=> ?_,⟨rfl,AI⟩,trivial,QO h⟩
   unfold convert
   rw[AC (DV hs w),AC (DV hd w)];rfl
  ·exact h.elim
 ·rename_i l
  simp only[Af,Aj] at hx
  rw[hx.1]
  split at h
  ·rename_i hs hd
   refine⟨_,.str l,fun w _=> ?_,⟨rfl,AI⟩,trivial,h⟩
   unfold convert
   rw[AC (DV hs w),AC (DV hd w)];rfl
  ·exact h.elim
 ·rename_i i sz α f xs
  simp only[Af] at hx
  exact a7f h hx.2
 ·rename_i id
  split at h
  ·rename_i j sz α f xs ho
   obtain⟨A,hA,hio,hr⟩:=Gm regs vs S _ hR ho
   simp only[Af] at hx hr
   rw[hx.1]
   exact a7f h hr.2
  ·exact h.elim
 ·exact h.elim
def Wb(P:Program)(regs:List AV)(t:Option TypeId)(x:AV)(K:AV→Prop):Prop:=
 match t with
 |some t=>match P.underlying t with
  |some .string=>match x with
   | .str l=>K (.int .i64 l.length)
   |_=>False
  |some (.slice _)=>match x with
   | .sl _ _ _ _ _ xs=>K (.int .i64 xs.length)
   | .nil=>K (.int .i64 0)
   | .al id=>match Fd id regs with
     |some (.sl true _ _ _ _ xs)=>K (.int .i64 xs.length)
     |_=>False
   |_=>False
  |_=>False
 |none=>False
def OJ:TypeDesc→Value→Option Value
 | .string,.string s=>some (goInt s.size)
 | .slice _,.slice _ m _=>some (goInt m)
 |_,_=>none
theorem Tx{ty t:TypeId}{d:TypeDesc}{x:Value}(ht:ts[0]? =some t)(hu:P.underlying t=some d)
 (hv:OJ d x=some v):(Builtin.len_ ts ty #[x]).run P w= .ok v w:=by
 unfold Builtin.len_
 simp only[ht]
 have:(#[x]:Array Value)[0]? =some x:=rfl
 simp only[this]
 rw[AC (DV hu w)]
 unfold OJ at hv
 split at hv<;>simp_all [Cy]
theorem a0G{ty:TypeId}(h:Wb P regs ts[0]? x K)
    (hR:Am Z η w regs vs S) (hx:Af Z η w x xv (fun _=>False)):
 ∃v r,(∀w',(Builtin.len_ ts ty #[xv]).run P w'= .ok v w')∧Af Z η w r v (fun _=>False)∧Az n r∧K r:=by
 unfold Wb at h
 split at h
 ·rename_i t ht
  split at h
  ·rename_i hu
   split at h
   ·rename_i l
    simp only[Af,Aj] at hx
    refine⟨.int .i64 l.length,.int .i64 l.length,fun _=>Tx ht hu ?_,⟨rfl,AI⟩,trivial,h⟩
    rw[hx.1];simp [OJ,goInt,ByteArray.size]
   ·exact h.elim
  ·rename_i e hu
   split at h
   ·rename_i own id sz α f xs
    simp only[Af,Aj] at hx
    obtain⟨_,a,n',c,ev,hn,_⟩:=hx
    refine⟨.int .i64 xs.length,.int .i64 xs.length,fun _=>Tx ht hu ?_,⟨rfl,AI⟩,trivial,h⟩
    rw[ev,hn];simp [OJ,goInt]
   ·simp only[Af,Aj] at hx
    refine⟨.int .i64 0,.int .i64 0,fun _=>Tx ht hu ?_,⟨rfl,AI⟩,trivial,h⟩
    rw[hx.1];simp [OJ,goInt]
   ·rename_i id
    split at h
    ·rename_i i' sz α f xs ho
     obtain⟨A,hA,hio,hr⟩:=Gm regs vs S _ hR ho
     simp only[Af] at hx
     simp only[Af,Aj] at hr
     obtain⟨_,a,n',c,ev,hn,_⟩:=hr
     refine⟨.int .i64 xs.length,.int .i64 xs.length,fun _=>Tx ht hu ?_,⟨rfl,AI⟩,trivial,h⟩
     rw[hx.1,ev,hn];simp [OJ,goInt]
    ·exact h.elim
   ·exact h.elim
  ·exact h.elim
 ·exact h.elim
theorem b6u{ty:TypeId}(h:Wb P regs ts[0]? x K)
    (hR:Am Z η w regs vs S) (hx:Af Z η w x xv (fun _=>False)):POk P Z η w n (Builtin.len_ ts ty #[xv]) K:=by
 obtain⟨v,r,h1,h2,h3,h4⟩:=a0G (n:=n) h hR hx
 exact⟨v,r,fun w' _=>h1 w',h2,h3,h4⟩
def a0H(x y:AV)(K:AV→Prop):Prop:=
 match x,y with
 | .int k a,.int _ b=>K (.int k (min a b))
 |_,_=>False
def a0I(x y:AV)(K:AV→Prop):Prop:=
 match x,y with
 | .int k a,.int _ b=>K (.int k (max a b))
 |_,_=>False
theorem b6v{ty:TypeId}{y:AV}(h:a0H x y K){yv:Value}
 (hx:Af Z η w x xv (fun _=>False)) (hy:Af Z η w y yv (fun _=>False)):POk P Z η w n (Builtin.min_ ts ty #[xv,yv]) K:=by
 unfold a0H at h
 split at h
 ·rename_i k a k' b
  simp only[Af,Aj] at hx hy
  rw[hx.1,hy.1]
  refine⟨.int k (min a b),.int k (min a b),fun _ _=> ?_,⟨rfl,AI⟩,trivial,h⟩
  have:(if b<a then b else a)=min a b:=by rw[Int.min_def];split<;>split<;>omega
  simp [Builtin.min_,Builtin.min2,this]
 ·exact h.elim
theorem b6w{ty:TypeId}{y:AV}(h:a0I x y K){yv:Value}
 (hx:Af Z η w x xv (fun _=>False)) (hy:Af Z η w y yv (fun _=>False)):POk P Z η w n (Builtin.max_ ts ty #[xv,yv]) K:=by
 unfold a0I at h
 split at h
 ·rename_i k a k' b
  simp only[Af,Aj] at hx hy
  rw[hx.1,hy.1]
  refine⟨.int k (max a b),.int k (max a b),fun _ _=> ?_,⟨rfl,AI⟩,trivial,h⟩
  have:(if b>a then b else a)=max a b:=by rw[Int.max_def];split<;>split<;>omega
  simp [Builtin.max_,Builtin.max2,this]
 ·exact h.elim
def a0J(regs:List AV)(x:AV)(K:AV→Prop):Prop:=
 match x with
 | .al id=>match Fd id regs with
   |some (.box _ _)=>K (.al id)
   |_=>False
 | .po id k sz o=>K (.po id k sz o)
 | .pf c=>K (.pf c)
 | .clo (.func f) cs=>K (.clo (.func f) cs)
 |_=>False
def EI(P:Program)(ov:Bool)(regs:List AV)(o:Op)(K:AV→Prop):Prop:=
 match o with
 | .move x=>K (Bj regs x)
 | .assign x=>K (Bj regs x)
 | .pick c x y=>match Bj regs c with
   | .bool b=>Ae b (K (Bj regs x)) (K (Bj regs y))
   |_=>False
 | .binOp op t x y _=>a0p P ov op t (Bj regs x) (Bj regs y) K
 | .unOp op _ x=>a0q op (Bj regs x) ov K
 | .load t p=>Tu P regs t (Bj regs p) K
 | .fieldAddr s x f=>VY P regs s f (Bj regs x) K
 | .indexAddr t x i=>VZ P regs t (Bj regs x) (Bj regs i) K
 | .index t x i=>a0x P t (Bj regs x) (Bj regs i) K
 | .slice t x lo hi none=>a0z P t (Bj regs x) (lo.map (Bj regs)) (hi.map (Bj regs)) K
 | .field t x f=>a0D P t (Bj regs x) f K
 | .extract x i=>a0E (Bj regs x) i K
 | .nilCheck x=>a0J regs (Bj regs x) K
 | .convert s d x=>a0F P ov regs s d (Bj regs x) K
 | .makeFunc (.func fn) first captured=>match first.toList with
   |[]=>K (.clo (.func fn) (captured.toList.map (Bj regs)))
   |[x]=>match captured.toList with
    |[]=>K (.clo (.yield fn) [Bj regs x])
    |_=>False
   |_=>False
 | .call ⟨.builtin .len,args,ts⟩=>match args.toList with
   |[x]=>Wb P regs ts[0]? (Bj regs x) K
   |_=>False
 | .call ⟨.builtin .min,args,ts⟩=>match args.toList with
   |[x,y]=>a0H (Bj regs x) (Bj regs y) K
   |_=>False
 | .call ⟨.builtin .max,args,ts⟩=>match args.toList with
   |[x,y]=>a0I (Bj regs x) (Bj regs y) K
   |_=>False
 |_=>False
theorem JB{α:Type}{a:Array α}{l:List α}(h:a.toList=l):a=l.toArray:=by rw[←h]
theorem Ty{Z:FP}{η:Nat→Value}{w:World}{regs:List AV}{a:Act}{S:FP}(hR:Am Z η w regs a.tmps.toList S):∀l:List Operand,
 Am Z η w (l.map (Bj regs)) (l.map a.eval) (fun _=>False)
 |[]=>by simp [Am,emp]
 |x::l=>by
  simp only[List.map,Am]
  exact⟨_,_,_,_,rfl,Cu _,FQ hR x,Ty hR l⟩
theorem Tz{n:Nat}{regs:List AV}(h:AN n regs):∀l:List Operand,AN n (l.map (Bj regs))
 |[]=>trivial
 |x::l=>⟨Iz h x,Tz h l⟩
theorem a0K(h:EI P ov regs o.op K)
 (hR:Am Z η w regs a.tmps.toList S) (hI:AN n regs):
 ∃v r,(∀w',Sees w w'→(execOp a.eval o).run P w'= .ok (.value v) w')∧Af Z η w r v (fun _=>False)∧Az n r∧K r:=by
 have lift:∀ {s:Sem Value},POk P Z η w n s K→(execOp a.eval o=do pure (.value (←s)))→
  ∃v r,(∀w',Sees w w'→(execOp a.eval o).run P w'= .ok (.value v) w')∧Af Z η w r v (fun _=>False)∧Az n r∧K r:=by
  intro s hs he
  obtain⟨v,r,h1,h2,h3,h4⟩:=hs
  exact⟨v,r,fun w' hw'=>by rw[he];exact Hz (h1 w' hw'),h2,h3,h4⟩
 have hop:=FQ hR
 have hid:=Iz hI
 unfold EI at h
 split at h
 all_goals rename_i heq
 ·exact⟨_,_,fun _ _=>by simp [execOp,heq],hop _,hid _,h⟩
 ·exact⟨_,_,fun _ _=>by simp [execOp,heq],hop _,hid _,h⟩
 ·rename_i c x y
  split at h
  ·rename_i b hb
   have hc:=hop c
   rw[hb] at hc
   simp only[Af,Aj] at hc
   unfold Ae at h
   cases b
   ·exact⟨a.eval y,_,fun _ _=>by simp [execOp,heq,hc.1,asBool,Ha],hop _,hid _,h⟩
   ·exact⟨a.eval x,_,fun _ _=>by simp [execOp,heq,hc.1,asBool,Ha],hop _,hid _,h⟩
  ·exact h.elim
 ·exact lift (a6X h (hop _) (hop _)) (by simp [execOp,heq];rfl)
 ·exact lift (b6k h (hop _)) (by simp [execOp,heq])
 ·exact lift (a6Y h hR hI (hop _)) (by simp [execOp,heq])
 ·exact lift (b6m h hR (hop _) (hid _)) (by simp [execOp,heq])
 ·exact lift (b6o h hR hI (hop _) (hid _) (hop _)) (by simp [execOp,heq])
 ·exact lift (b6p h (hop _) (hop _)) (by simp [execOp,heq])
 ·rename_i t x lo hi
  refine lift (b6q (lov:=lo.map a.eval) (hiv:=hi.map a.eval) h (hop _) ?_ ?_ ?_ ?_) (by simp [execOp,heq])
  ·intro b hb;cases lo<;>simp at hb;subst hb;exact⟨_,rfl,hop _⟩
  ·intro hb;cases lo<;>simp at hb;rfl
  ·intro b hb;cases hi<;>simp at hb;subst hb;exact⟨_,rfl,hop _⟩
  ·intro hb;cases hi<;>simp at hb;rfl
 ·exact lift (b6r h (hop _) (hid _)) (by simp [execOp,heq])
 ·exact lift (b6s h (hop _) (hid _)) (by simp [execOp,heq])
 ·rename_i x
  have hx:=hop x
  have hxi:=hid x
  unfold a0J at h
  split at h
  ·rename_i id hq
   split at h
   ·rename_i i c ho
    obtain⟨A,hA,hi',hr⟩:=Gm regs _ S _ hR ho
    rw[hq] at hx hxi
    have hx':=hx
    simp only[Af] at hx' hr
    obtain⟨_,b,arr,ty,S1,e0,_⟩:=hr
    exact⟨a.eval x,_,fun _ _=>by simp [execOp,heq,hx'.1,e0],hx,hxi,h⟩
   ·exact h.elim
  ·rename_i id k sz of' hq
   rw[hq] at hx hxi
   have hx':=hx
   simp only[Af] at hx'
   exact⟨a.eval x,_,fun _ _=>by simp [execOp,heq,hx'.1],hx,hxi,h⟩
  ·rename_i c hq
   rw[hq] at hx hxi
   have hx':=hx
   simp only[Af,Aj] at hx'
   obtain⟨_,b,off,arr,ty,fr,cs,rest,S1,e,_⟩:=hx'
   exact⟨a.eval x,_,fun _ _=>by simp [execOp,heq,e,HS],hx,hxi,h⟩
  ·rename_i f cs hq
   rw[hq] at hx hxi
   have hx':=hx
   simp only[Af] at hx'
   obtain⟨cs,e,_⟩:=hx'
   exact⟨a.eval x,_,fun _ _=>by simp [execOp,heq,e,HS],hx,hxi,h⟩
  ·exact h.elim
 ·exact lift (b6t h hR (hop _)) (by simp [execOp,heq])
 ·rename_i fn first captured
  split at h
  ·rename_i hf
   have hf:=JB hf
   refine⟨.func (.func fn) #[] (captured.map a.eval),.clo (.func fn) (captured.toList.map (Bj regs)),fun _ _=> ?_,?_,?_,h⟩
   ·simp [execOp,heq,Instr.makeFunc,hf,Ha]
   ·simp only[Af]
    exact⟨captured.toList.map a.eval,by simp only[HS];congr 1;apply Oy;simp,Ty hR _⟩
   ·simp only[Az];exact Tz hI _
  ·rename_i x hf
   have hf:=JB hf
   split at h
   ·rename_i hc
    have hc:=JB hc
    refine⟨.func (.func fn) #[a.eval x] #[],.clo (.yield fn) [Bj regs x],fun _ _=> ?_,?_,?_,h⟩
    ·simp [execOp,heq,Instr.makeFunc,hf,hc,Ha]
    ·simp only[Af]
     exact⟨[a.eval x],rfl,by have:=Ty (a:=a) hR [x];simpa using this⟩
    ·simp only[Az];have:=Tz hI [x];simpa using this
   ·exact h.elim
  ·exact h.elim
 ·rename_i args ts
  split at h
  ·rename_i x hf
   have hf:=JB hf
   refine lift (b6u (ty:=o.type) h hR (hop _)) (by simp [execOp,heq,hf,resolve,invoke,builtin])
  ·exact h.elim
 ·rename_i args ts
  split at h
  ·rename_i x y hf
   have hf:=JB hf
   refine lift (b6v (ts:=ts) (ty:=o.type) h (hop _) (hop _)) (by simp [execOp,heq,hf,resolve,invoke,builtin])
  ·exact h.elim
 ·rename_i args ts
  split at h
  ·rename_i x y hf
   have hf:=JB hf
   refine lift (b6w (ts:=ts) (ty:=o.type) h (hop _) (hop _)) (by simp [execOp,heq,hf,resolve,invoke,builtin])
  ·exact h.elim
 ·exact h.elim
def QS(regs:List AV):Op→Bool
 | .move _=>true
 | .assign _=>true
 | .fieldAddr _ _ _=>true
 | .indexAddr _ _ _=>true
 | .nilCheck _=>true
 | .load _ p=>match Bj regs p with
   | .pf _=>true
   |_=>false
 | .binOp _ _ x y _=>match Bj regs x,Bj regs y with
   | .int _ _,.int _ _=>true
   | .str _,.str _=>true
   |_,_=>false
 | .call ⟨.builtin .len,_,_⟩=>true
 |_=>false
theorem a7g{c:Call}(h:QS regs (.call c)=true):∃args ts,c=⟨.builtin .len,args,ts⟩:=by
 unfold QS at h
 split at h<;>first
  |(rename_i heq;cases heq;exact⟨_,_,rfl⟩)
  |(rename_i heq;cases heq;done)
  |(exact absurd h (by simp))
theorem b6x(he:QS regs o.op=true)(h:EI P ov regs o.op K)
 (hR:Am Z η w regs a.tmps.toList S) (hI:AN n regs):
 ∃v r,(∀w',OH Z w w'→(execOp a.eval o).run P w'= .ok (.value v) w')∧Af Z η w r v (fun _=>False)∧Az n r∧K r:=by
 have hop:=FQ hR
 have hid:=Iz hI
 have he0:=he
 cases heq:o.op<;>simp only[heq,QS,Bl] at he
 case binOp op t x y rt=>
  rw[heq] at h;simp only[EI] at h
  have key:∀(u v:AV),Bj regs x=u→Bj regs y=v→Az n u→Az n v→(∀w0,Af Z η w0 u (a.eval x) (fun _=>False))→(∀w0,Af Z η w0 v (a.eval y) (fun _=>False))→
   ∃v r,(∀w',OH Z w w'→(execOp a.eval o).run P w'= .ok (.value v) w')∧Af Z η w r v (fun _=>False)∧Az n r∧K r:=by
   intro u v hu hv _ _ h1 h2
   rw[hu,hv] at h
   obtain⟨q,r,g1,g2,g3,g4⟩:=a6X (w:= {w with heap:= #[]}) (n:=n) (xo:=x) (yo:=y) h (h1 _) (h2 _)
   refine⟨q,r,fun w' _=> ?_,?_,g3,g4⟩
   ·have he:execOp a.eval o=(do eqGuard op t x y (a.eval x) (a.eval y);pure (.value (←binOp op t (a.eval x) (a.eval y)))):=by simp [execOp,heq]
    have g:=g1 w' ⟨Nat.zero_le _,fun b hb=>by simp at hb⟩
    have e2:(do eqGuard op t x y (a.eval x) (a.eval y);pure (Next.value (←binOp op t (a.eval x) (a.eval y))):Sem Next)=(do pure (Next.value (←(do eqGuard op t x y (a.eval x) (a.eval y);binOp op t (a.eval x) (a.eval y)))):Sem Next):=by simp
    rw[he,e2];exact Hz g
   ·exact a6H (w:= {w with heap:= #[]}) (n:=n) (fun b _ hb=>by simp at hb) (fun _ _=>rfl) r q _ g3 (fun b hb=>hb.elim) g2
  split at he
  ·rename_i k1 n1 k2 n2 h1 h2
   have a1:=hop x;have a2:=hop y
   rw[h1] at a1;rw[h2] at a2
   exact key _ _ h1 h2 trivial trivial (fun _=>a1) (fun _=>a2)
  ·rename_i k1 k2 h1 h2
   have a1:=hop x;have a2:=hop y
   rw[h1] at a1;rw[h2] at a2
   exact key _ _ h1 h2 trivial trivial (fun _=>a1) (fun _=>a2)
  ·cases he
 case call c=>
  rw[heq] at he0
  obtain⟨args,ts,rfl⟩:=a7g he0
  rw[heq] at h;simp only[EI] at h
  split at h
  ·rename_i x hf
   have hf:=JB hf
   obtain⟨v,r,h1,h2,h3,h4⟩:=a0G (ty:=o.type) (w:=w) (n:=n) h hR (hop x)
   refine⟨v,r,fun w' _=> ?_,h2,h3,h4⟩
   have he:execOp a.eval o=(do pure (.value (←Builtin.len_ ts o.type #[a.eval x]))):=by simp [execOp,heq,hf,resolve,invoke,builtin]
   rw[he];exact Hz (h1 w')
  ·exact h.elim
 case load t p=>
  rw[heq] at h;simp only[EI] at h
  split at he
  ·rename_i c hc
   unfold Tu at h
   rw[hc] at h
   simp only at h
   have hx:=hop p
   rw[hc] at hx
   obtain⟨v,r,h1,h2,h3,h4⟩:=b6l (n:=n) h hx
   refine⟨v,r,fun w' hw'=> ?_,h2,h3,h4⟩
   have he:execOp a.eval o=(do pure (.value (←Instr.loadAt t (a.eval p)))):=by simp [execOp,heq]
   rw[he];exact Hz (h1 w' hw')
  ·cases he
 case indexAddr t x i=>
  rw[heq] at h;simp only[EI] at h
  obtain⟨v,r,h1,h2,h3,h4⟩:=a0w (w:=w) h hR hI (hop _) (hid _) (hop _)
  refine⟨v,r,fun w' _=> ?_,h2,h3,h4⟩
  have he:execOp a.eval o=(do pure (.value (←Instr.indexAt t (a.eval x) (a.eval i)))):=by simp [execOp,heq]
  rw[he];exact Hz (h1 w')
 case move x=>
  rw[heq] at h;simp only[EI] at h
  exact⟨_,_,fun _ _=>by simp [execOp,heq],hop _,hid _,h⟩
 case assign x=>
  rw[heq] at h;simp only[EI] at h
  exact⟨_,_,fun _ _=>by simp [execOp,heq],hop _,hid _,h⟩
 case fieldAddr s x f=>
  rw[heq] at h;simp only[EI] at h
  obtain⟨v,r,h1,h2,h3,h4⟩:=a0t (w:=w) h hR (hop _) (hid _)
  refine⟨v,r,fun w' _=> ?_,h2,h3,h4⟩
  have he:execOp a.eval o=(do pure (.value (←Instr.fieldAt s (a.eval x) f))):=by simp [execOp,heq]
  rw[he];exact Hz (h1 w')
 case nilCheck x=>
  rw[heq] at h;simp only[EI] at h
  have hx:=hop x
  have hxi:=hid x
  unfold a0J at h
  split at h
  ·rename_i id hq
   split at h
   ·rename_i i c ho
    obtain⟨A,hA,hi',hr⟩:=Gm regs _ S _ hR ho
    rw[hq] at hx hxi
    have hx':=hx
    simp only[Af] at hx' hr
    obtain⟨_,b,arr,ty,S1,e0,_⟩:=hr
    exact⟨a.eval x,_,fun _ _=>by simp [execOp,heq,hx'.1,e0],hx,hxi,h⟩
   ·exact h.elim
  ·rename_i id k sz of' hq
   rw[hq] at hx hxi
   have hx':=hx
   simp only[Af] at hx'
   exact⟨a.eval x,_,fun _ _=>by simp [execOp,heq,hx'.1],hx,hxi,h⟩
  ·rename_i c hq
   rw[hq] at hx hxi
   have hx':=hx
   simp only[Af,Aj] at hx'
   obtain⟨_,b,off,arr,ty,fr,cs,rest,S1,e,_⟩:=hx'
   exact⟨a.eval x,_,fun _ _=>by simp [execOp,heq,e,HS],hx,hxi,h⟩
  ·rename_i f cs hq
   rw[hq] at hx hxi
   have hx':=hx
   simp only[Af] at hx'
   obtain⟨cs,e,_⟩:=hx'
   exact⟨a.eval x,_,fun _ _=>by simp [execOp,heq,e,HS],hx,hxi,h⟩
  ·exact h.elim
def Wc:Op→Bool
 | .move _=>true
 | .call ⟨.builtin .len,_,_⟩=>true
 |_=>false
theorem b6y(he:Wc o.op=true)(h:EI P ov regs o.op K)
 (hR:Am Z η w regs a.tmps.toList S) (hI:AN n regs):
 ∃v r,(∀w',(execOp a.eval o).run P w'= .ok (.value v) w')∧Af Z η w r v (fun _=>False)∧Az n r∧K r:=by
 have hop:=FQ hR
 have hid:=Iz hI
 unfold Wc at he
 split at he
 ·rename_i x heq
  rw[heq] at h;simp only[EI] at h
  exact⟨_,_,fun _=>by simp [execOp,heq],hop _,hid _,h⟩
 ·rename_i args ts heq
  rw[heq] at h;simp only[EI] at h
  split at h
  ·rename_i x hf
   have hf:=JB hf
   obtain⟨v,r,h1,h2,h3,h4⟩:=a0G (ty:=o.type) (w:=w) (n:=n) h hR (hop x)
   refine⟨v,r,fun w'=> ?_,h2,h3,h4⟩
   have he:execOp a.eval o=(do pure (.value (←Builtin.len_ ts o.type #[a.eval x]))):=by simp [execOp,heq,hf,resolve,invoke,builtin]
   rw[he];exact Hz (h1 w')
  ·exact h.elim
 ·cases he
mutual
def CA(id:Nat):AV→Option (AV×AV)
 | .sl true i sz α f xs=>match Nat.beq i id with|true=>some (.sl true i sz α f xs,.hole id)|false=>none
 | .box i c=>match Nat.beq i id with
   |true=>some (.box i c,.hole id)
   |false=>match EY id c with|some (o,c')=>some (o,.box i c')|none=>none
 | .bv x c=>match EY id c with|some (o,c')=>some (o,.bv x c')|none=>none
 | .agg fs=>match EY id fs with|some (o,c')=>some (o,.agg c')|none=>none
 | .tup fs=>match EY id fs with|some (o,c')=>some (o,.tup c')|none=>none
 | .clo fn fs=>match EY id fs with|some (o,c')=>some (o,.clo fn c')|none=>none
 |_=>none
def EY(id:Nat):List AV→Option (AV×List AV)
 |[]=>none
 |a::azs=>match CA id a with
  |some (o,a')=>some (o,a'::azs)
  |none=>match EY id azs with|some (o,as')=>some (o,a::as')|none=>none
end
mutual
def CH(id:Nat)(o:AV):AV→Option AV
 | .hole i=>match Nat.beq i id with|true=>some o|false=>none
 | .box i c=>match Fy id o c with|some c'=>some (.box i c')|none=>none
 | .bv x c=>match Fy id o c with|some c'=>some (.bv x c')|none=>none
 | .agg fs=>match Fy id o fs with|some c'=>some (.agg c')|none=>none
 | .tup fs=>match Fy id o fs with|some c'=>some (.tup c')|none=>none
 | .clo fn fs=>match Fy id o fs with|some c'=>some (.clo fn c')|none=>none
 |_=>none
def Fy(id:Nat)(o:AV):List AV→Option (List AV)
 |[]=>none
 |a::azs=>match CH id o a with
  |some a'=>some (a'::azs)
  |none=>match Fy id o azs with|some as'=>some (a::as')|none=>none
end
theorem a7h{C D:FP}(h:Bm S A B)(h2:Bm A C D):∃E,Bm S C E∧Bm E D B:=Tl h h2
theorem Lj{C D:FP}(h:Bm S A B)(h2:Bm B C D):∃E,Bm S C E∧Bm E A D:=by
 obtain⟨E,h3,h4⟩:=Nh h (a6F h2)
 obtain⟨E',h5,h6⟩:=Nh h h2
 refine⟨fun b=>A b∨D b,⟨fun b=> ?_,fun b x y=> ?_⟩,⟨fun _=>Cg,fun b x y=>h.2 b x ((h2.1 b).2 (.inr y))⟩⟩
 ·rw[h.1 b,h2.1 b];exact⟨fun h=>h.elim (fun h=> .inr (.inl h)) (fun h=>h.elim .inl (fun h=> .inr (.inr h))),fun h=>h.elim (fun h=> .inr (.inl h)) (fun h=>h.elim .inl (fun h=> .inr (.inr h)))⟩
 ·exact y.elim (fun y=>h.2 b y ((h2.1 b).2 (.inl x))) (fun y=>h2.2 b x y)
theorem a7i{id:Nat}{o:AV}(h:Af Z η w o v S)(ho:Nk id o):Dm v:=by
 cases o<;>simp only[Nk] at ho
 case box=>simp only[Af] at h;obtain⟨_,b,arr,ty,S1,e,_⟩:=h;rw[e];trivial
 case sl own i sz α f xs=>simp only[Af,Aj] at h;obtain⟨_,a,n,c,e,_⟩:=h;rw[e];trivial
mutual
theorem b6z{Z:FP}{η:Nat→Value}{w:World}{id:Nat}:∀(a:AV) (v:Value) (S:FP) (o a':AV),Af Z η w a v S→CA id a=some (o,a')→
 ∃A B,Bm S A B∧Nk id o∧Af Z η w o (η id) A∧Af Z η w a' v B
 | .sl true i sz α f xs,v,S,o,a',h,hf=>by
   simp only[CA] at hf
   split at hf
   ·rename_i hb;simp only[AS,BM] at hf;obtain⟨rfl,rfl⟩:=hf
    have:=Cj hb;subst this
    have h':=h
    simp only[Af] at h'
    have hc:=a7i h (id:=i) rfl
    refine⟨S,fun _=>False,Me S,rfl,?_,?_⟩
    ·rw[←h'.1 trivial];exact h
    ·simp only[Af];exact⟨h'.1 trivial,hc,AI⟩
   ·simp at hf
 | .box i c,v,S,o,a',h,hf=>by
   simp only[CA] at hf
   split at hf
   ·rename_i hb;simp only[AS,BM] at hf;obtain⟨rfl,rfl⟩:=hf
    have:=Cj hb;subst this
    have h':=h
    simp only[Af] at h'
    have hc:=a7i h (id:=i) rfl
    refine⟨S,fun _=>False,Me S,rfl,?_,?_⟩
    ·rw[←h'.1];exact h
    ·simp only[Af];exact⟨h'.1,hc,AI⟩
   ·split at hf
    ·rename_i o' c' ht
     simp only[AS,BM] at hf;obtain⟨rfl,rfl⟩:=hf
     simp only[Af] at h
     obtain⟨e0,b,arr,ty,S1,e,hb,hr,hj⟩:=h
     obtain⟨A,B,hj2,h1,h2,h3⟩:=Gn c _ S1 _ _ hr ht
     obtain⟨E,h5,h6⟩:=Lj hj hj2
     refine⟨A,E,h5,h1,h2,?_⟩
     simp only[Af]
     exact⟨e0,b,arr,ty,B,e,hb,h3,h6⟩
    ·cases hf
 | .bv x c,v,S,o,a',h,hf=>by
   simp only[CA] at hf
   split at hf
   ·rename_i o' c' ht
    simp only[AS,BM] at hf;obtain⟨rfl,rfl⟩:=hf
    simp only[Af] at h
    obtain⟨e0,b,arr,ty,S1,e,hb,hr,hj⟩:=h
    obtain⟨A,B,hj2,h1,h2,h3⟩:=Gn c _ S1 _ _ hr ht
    obtain⟨E,h5,h6⟩:=Lj hj hj2
    refine⟨A,E,h5,h1,h2,?_⟩
    simp only[Af]
    exact⟨e0,b,arr,ty,B,e,hb,h3,h6⟩
   ·cases hf
 | .hv _,v,S,o,a',h,hf=>by simp [CA] at hf
 | .agg fs,v,S,o,a',h,hf=>by
   simp only[CA] at hf
   split at hf
   ·rename_i o' c' ht
    simp only[AS,BM] at hf;obtain⟨rfl,rfl⟩:=hf
    simp only[Af] at h
    obtain⟨cs,e,hr⟩:=h
    obtain⟨A,B,hj2,h1,h2,h3⟩:=Gn fs _ S _ _ hr ht
    refine⟨A,B,hj2,h1,h2,?_⟩
    simp only[Af];exact⟨cs,e,h3⟩
   ·cases hf
 | .tup fs,v,S,o,a',h,hf=>by
   simp only[CA] at hf
   split at hf
   ·rename_i o' c' ht
    simp only[AS,BM] at hf;obtain⟨rfl,rfl⟩:=hf
    simp only[Af] at h
    obtain⟨cs,e,hr⟩:=h
    obtain⟨A,B,hj2,h1,h2,h3⟩:=Gn fs _ S _ _ hr ht
    refine⟨A,B,hj2,h1,h2,?_⟩
    simp only[Af];exact⟨cs,e,h3⟩
   ·cases hf
 | .clo fn fs,v,S,o,a',h,hf=>by
   simp only[CA] at hf
   split at hf
   ·rename_i o' c' ht
    simp only[AS,BM] at hf;obtain⟨rfl,rfl⟩:=hf
    simp only[Af] at h
    obtain⟨cs,e,hr⟩:=h
    obtain⟨A,B,hj2,h1,h2,h3⟩:=Gn fs _ S _ _ hr ht
    refine⟨A,B,hj2,h1,h2,?_⟩
    simp only[Af];exact⟨cs,e,h3⟩
   ·cases hf
 | .sl false i sz α f xs,v,S,o,a',h,hf=>by simp [CA] at hf
 | .int _ _,v,S,o,a',h,hf=>by simp [CA] at hf
 | .bool _,v,S,o,a',h,hf=>by simp [CA] at hf
 | .str _,v,S,o,a',h,hf=>by simp [CA] at hf
 | .val _,v,S,o,a',h,hf=>by simp [CA] at hf
 | .any,v,S,o,a',h,hf=>by simp [CA] at hf
 | .top,v,S,o,a',h,hf=>by simp [CA] at hf
 | .nil,v,S,o,a',h,hf=>by simp [CA] at hf
 | .hole _,v,S,o,a',h,hf=>by simp [CA] at hf
 | .al _,v,S,o,a',h,hf=>by simp [CA] at hf
 | .po _ _ _ _,v,S,o,a',h,hf=>by simp [CA] at hf
 | .pf _,v,S,o,a',h,hf=>by simp [CA] at hf
theorem Gn{Z:FP}{η:Nat→Value}{w:World}{id:Nat}:∀(azs:List AV) (cs:List Value) (S:FP) (o:AV) (as':List AV),Am Z η w azs cs S→EY id azs=some (o,as')→
 ∃A B,Bm S A B∧Nk id o∧Af Z η w o (η id) A∧Am Z η w as' cs B
 |[],cs,S,o,as',h,hf=>by simp [EY] at hf
 |a::azs,cs,S,o,as',h,hf=>by
  simp only[Am] at h
  obtain⟨v,cs',A,B,e,hj,h1,h2⟩:=h
  simp only[EY] at hf
  split at hf
  ·rename_i o' a' ht
   simp only[AS,BM] at hf;obtain⟨rfl,rfl⟩:=hf
   obtain⟨A1,B1,hj2,x,y,z⟩:=b6z a v A _ _ h1 ht
   obtain⟨E,h5,h6⟩:=a7h hj hj2
   refine⟨A1,E,h5,x,y,?_⟩
   simp only[Am];exact⟨v,cs',B1,B,e,h6,z,h2⟩
  ·split at hf
   ·rename_i o' c' ht
    simp only[AS,BM] at hf;obtain⟨rfl,rfl⟩:=hf
    obtain⟨A1,B1,hj2,x,y,z⟩:=Gn azs cs' B _ _ h2 ht
    obtain⟨E,h5,h6⟩:=Lj hj hj2
    refine⟨A1,E,h5,x,y,?_⟩
    simp only[Am];exact⟨v,cs',A,B1,e,h6,h1,z⟩
   ·cases hf
end
mutual
theorem b6A{n id:Nat}:∀(a o a':AV),Az n a→CA id a=some (o,a')→id<n∧Az n o∧Az n a'
 | .sl true i sz α f xs,o,a',h,hf=>by
   simp only[CA] at hf
   split at hf
   ·rename_i hb;simp only[AS,BM] at hf;obtain⟨rfl,rfl⟩:=hf
    have:=Cj hb;subst this
    have h':=h;simp only[Az] at h'
    exact⟨h' trivial,h,h' trivial⟩
   ·simp at hf
 | .box i c,o,a',h,hf=>by
   simp only[CA] at hf
   split at hf
   ·rename_i hb;simp only[AS,BM] at hf;obtain⟨rfl,rfl⟩:=hf
    have:=Cj hb;subst this
    have h':=h;simp only[Az] at h'
    exact⟨h'.1,h,h'.1⟩
   ·split at hf
    ·rename_i o' c' ht
     simp only[AS,BM] at hf;obtain⟨rfl,rfl⟩:=hf
     simp only[Az] at h ⊢
     obtain⟨x,y,z⟩:=Hb c _ _ h.2 ht
     exact⟨x,y,h.1,z⟩
    ·cases hf
 | .bv _ c,o,a',h,hf=>by
   simp only[CA] at hf
   split at hf
   ·rename_i o' c' ht
    simp only[AS,BM] at hf;obtain⟨rfl,rfl⟩:=hf
    simp only[Az] at h ⊢;exact Hb c _ _ h ht
   ·cases hf
 | .hv _,o,a',h,hf=>by simp [CA] at hf
 | .agg fs,o,a',h,hf=>by
   simp only[CA] at hf
   split at hf
   ·rename_i o' c' ht
    simp only[AS,BM] at hf;obtain⟨rfl,rfl⟩:=hf
    simp only[Az] at h ⊢;exact Hb fs _ _ h ht
   ·cases hf
 | .tup fs,o,a',h,hf=>by
   simp only[CA] at hf
   split at hf
   ·rename_i o' c' ht
    simp only[AS,BM] at hf;obtain⟨rfl,rfl⟩:=hf
    simp only[Az] at h ⊢;exact Hb fs _ _ h ht
   ·cases hf
 | .clo fn fs,o,a',h,hf=>by
   simp only[CA] at hf
   split at hf
   ·rename_i o' c' ht
    simp only[AS,BM] at hf;obtain⟨rfl,rfl⟩:=hf
    simp only[Az] at h ⊢;exact Hb fs _ _ h ht
   ·cases hf
 | .sl false i sz α f xs,o,a',h,hf=>by simp [CA] at hf
 | .int _ _,o,a',h,hf=>by simp [CA] at hf
 | .bool _,o,a',h,hf=>by simp [CA] at hf
 | .str _,o,a',h,hf=>by simp [CA] at hf
 | .val _,o,a',h,hf=>by simp [CA] at hf
 | .any,o,a',h,hf=>by simp [CA] at hf
 | .top,o,a',h,hf=>by simp [CA] at hf
 | .nil,o,a',h,hf=>by simp [CA] at hf
 | .hole _,o,a',h,hf=>by simp [CA] at hf
 | .al _,o,a',h,hf=>by simp [CA] at hf
 | .po _ _ _ _,o,a',h,hf=>by simp [CA] at hf
 | .pf _,o,a',h,hf=>by simp [CA] at hf
theorem Hb{n id:Nat}:∀(azs:List AV) (o:AV) (as':List AV),AN n azs→EY id azs=some (o,as')→id<n∧Az n o∧AN n as'
 |[],o,as',h,hf=>by simp [EY] at hf
 |a::azs,o,as',h,hf=>by
  simp only[EY] at hf
  split at hf
  ·rename_i o' a' ht
   simp only[AS,BM] at hf;obtain⟨rfl,rfl⟩:=hf
   obtain⟨x,y,z⟩:=b6A a _ _ h.1 ht
   exact⟨x,y,z,h.2⟩
  ·split at hf
   ·rename_i o' c' ht
    simp only[AS,BM] at hf;obtain⟨rfl,rfl⟩:=hf
    obtain⟨x,y,z⟩:=Hb azs _ _ h.2 ht
    exact⟨x,y,h.1,z⟩
   ·cases hf
end
mutual
theorem b6B{Z:FP}{η:Nat→Value}{w:World}{id:Nat}{o:AV}{A:FP}(ho:Af Z η w o (η id) A):∀(a:AV) (v:Value) (B S:FP) (a':AV),Af Z η w a v B→Bm S A B→
 CH id o a=some a'→Af Z η w a' v S
 | .hole i,v,B,S,a',h,hj,hf=>by
   simp only[CH] at hf
   split at hf
   ·rename_i hb
    simp only[AS] at hf;subst hf
    have:=Cj hb;subst this
    simp only[Af] at h
    rw[h.1,FO (a6E hj h.2.2)];exact ho
   ·cases hf
 | .box i c,v,B,S,a',h,hj,hf=>by
   simp only[CH] at hf
   split at hf
   ·rename_i c' hc
    simp only[AS] at hf;subst hf
    simp only[Af] at h ⊢
    obtain⟨e0,b,arr,ty,S1,e,hb,hr,hj2⟩:=h
    obtain⟨E,h5,h6⟩:=Lj hj hj2
    exact⟨e0,b,arr,ty,E,e,hb,JC ho c _ S1 E _ hr h6 hc,h5⟩
   ·cases hf
 | .bv x c,v,B,S,a',h,hj,hf=>by
   simp only[CH] at hf
   split at hf
   ·rename_i c' hc
    simp only[AS] at hf;subst hf
    simp only[Af] at h ⊢
    obtain⟨e0,b,arr,ty,S1,e,hb,hr,hj2⟩:=h
    obtain⟨E,h5,h6⟩:=Lj hj hj2
    exact⟨e0,b,arr,ty,E,e,hb,JC ho c _ S1 E _ hr h6 hc,h5⟩
   ·cases hf
 | .hv _,v,B,S,a',h,hj,hf=>by simp [CH] at hf
 | .agg fs,v,B,S,a',h,hj,hf=>by
   simp only[CH] at hf
   split at hf
   ·rename_i c' hc
    simp only[AS] at hf;subst hf
    simp only[Af] at h ⊢
    obtain⟨cs,e,hr⟩:=h
    exact⟨cs,e,JC ho fs _ B S _ hr hj hc⟩
   ·cases hf
 | .tup fs,v,B,S,a',h,hj,hf=>by
   simp only[CH] at hf
   split at hf
   ·rename_i c' hc
    simp only[AS] at hf;subst hf
    simp only[Af] at h ⊢
    obtain⟨cs,e,hr⟩:=h
    exact⟨cs,e,JC ho fs _ B S _ hr hj hc⟩
   ·cases hf
 | .clo fn fs,v,B,S,a',h,hj,hf=>by
   simp only[CH] at hf
   split at hf
   ·rename_i c' hc
    simp only[AS] at hf;subst hf
    simp only[Af] at h ⊢
    obtain⟨cs,e,hr⟩:=h
    exact⟨cs,e,JC ho fs _ B S _ hr hj hc⟩
   ·cases hf
 | .sl own i sz α f xs,v,B,S,a',h,hj,hf=>by simp [CH] at hf
 | .int _ _,v,B,S,a',h,hj,hf=>by simp [CH] at hf
 | .bool _,v,B,S,a',h,hj,hf=>by simp [CH] at hf
 | .str _,v,B,S,a',h,hj,hf=>by simp [CH] at hf
 | .val _,v,B,S,a',h,hj,hf=>by simp [CH] at hf
 | .any,v,B,S,a',h,hj,hf=>by simp [CH] at hf
 | .top,v,B,S,a',h,hj,hf=>by simp [CH] at hf
 | .nil,v,B,S,a',h,hj,hf=>by simp [CH] at hf
 | .al _,v,B,S,a',h,hj,hf=>by simp [CH] at hf
 | .po _ _ _ _,v,B,S,a',h,hj,hf=>by simp [CH] at hf
 | .pf _,v,B,S,a',h,hj,hf=>by simp [CH] at hf
theorem JC{Z:FP}{η:Nat→Value}{w:World}{id:Nat}{o:AV}{A:FP}(ho:Af Z η w o (η id) A):∀(azs:List AV) (cs:List Value) (B S:FP) (as':List AV),Am Z η w azs cs B→Bm S A B→
 Fy id o azs=some as'→Am Z η w as' cs S
 |[],cs,B,S,as',h,hj,hf=>by simp [Fy] at hf
 |a::azs,cs,B,S,as',h,hj,hf=>by
  simp only[Am] at h
  obtain⟨v,cs',A1,B1,e,hj2,h1,h2⟩:=h
  simp only[Fy] at hf
  split at hf
  ·rename_i a1 ht
   simp only[AS] at hf;subst hf
   obtain⟨E,h5,h6⟩:=Nh hj hj2
   simp only[Am]
   exact⟨v,cs',E,B1,e,h5,b6B ho a v A1 E _ h1 h6 ht,h2⟩
  ·split at hf
   ·rename_i as1 ht
    simp only[AS] at hf;subst hf
    obtain⟨E,h5,h6⟩:=Lj hj hj2
    simp only[Am]
    exact⟨v,cs',A1,E,e,h5,h1,JC ho azs cs' B1 E _ h2 h6 ht⟩
   ·cases hf
end
mutual
theorem b6C{n id:Nat}{o:AV}(ho:Az n o):∀(a a':AV),Az n a→CH id o a=some a'→Az n a'
 | .hole i,a',h,hf=>by
   simp only[CH] at hf
   split at hf
   ·simp only[AS] at hf;subst hf;exact ho
   ·cases hf
 | .box i c,a',h,hf=>by
   simp only[CH] at hf
   split at hf
   ·rename_i c' hc
    simp only[AS] at hf;subst hf
    simp only[Az] at h ⊢;exact⟨h.1,JD ho c _ h.2 hc⟩
   ·cases hf
 | .bv _ c,a',h,hf=>by
   simp only[CH] at hf
   split at hf
   ·rename_i c' hc
    simp only[AS] at hf;subst hf
    simp only[Az] at h ⊢;exact JD ho c _ h hc
   ·cases hf
 | .hv _,a',h,hf=>by simp [CH] at hf
 | .agg fs,a',h,hf=>by
   simp only[CH] at hf
   split at hf
   ·rename_i c' hc
    simp only[AS] at hf;subst hf
    simp only[Az] at h ⊢;exact JD ho fs _ h hc
   ·cases hf
 | .tup fs,a',h,hf=>by
   simp only[CH] at hf
   split at hf
   ·rename_i c' hc
    simp only[AS] at hf;subst hf
    simp only[Az] at h ⊢;exact JD ho fs _ h hc
   ·cases hf
 | .clo fn fs,a',h,hf=>by
   simp only[CH] at hf
   split at hf
   ·rename_i c' hc
    simp only[AS] at hf;subst hf
    simp only[Az] at h ⊢;exact JD ho fs _ h hc
   ·cases hf
 | .sl own i sz α f xs,a',h,hf=>by simp [CH] at hf
 | .int _ _,a',h,hf=>by simp [CH] at hf
 | .bool _,a',h,hf=>by simp [CH] at hf
 | .str _,a',h,hf=>by simp [CH] at hf
 | .val _,a',h,hf=>by simp [CH] at hf
 | .any,a',h,hf=>by simp [CH] at hf
 | .top,a',h,hf=>by simp [CH] at hf
 | .nil,a',h,hf=>by simp [CH] at hf
 | .al _,a',h,hf=>by simp [CH] at hf
 | .po _ _ _ _,a',h,hf=>by simp [CH] at hf
 | .pf _,a',h,hf=>by simp [CH] at hf
theorem JD{n id:Nat}{o:AV}(ho:Az n o):∀(azs as':List AV),AN n azs→Fy id o azs=some as'→AN n as'
 |[],as',h,hf=>by simp [Fy] at hf
 |a::azs,as',h,hf=>by
  simp only[Fy] at hf
  split at hf
  ·rename_i a1 ht
   simp only[AS] at hf;subst hf
   exact⟨b6C ho a _ h.1 ht,h.2⟩
  ·split at hf
   ·rename_i as1 ht
    simp only[AS] at hf;subst hf
    exact⟨h.1,JD ho azs _ h.2 ht⟩
   ·cases hf
end
mutual
def CI:AV→Option (Value×List AV×AV)
 | .bv x c=>some (x,c,.hv x)
 | .box i c=>match JE c with|some (x,d,c')=>some (x,d,.box i c')|none=>none
 | .agg fs=>match JE fs with|some (x,d,c')=>some (x,d,.agg c')|none=>none
 | .tup fs=>match JE fs with|some (x,d,c')=>some (x,d,.tup c')|none=>none
 |_=>none
def JE:List AV→Option (Value×List AV×List AV)
 |[]=>none
 |a::azs=>match CI a with
  |some (x,d,a')=>some (x,d,a'::azs)
  |none=>match JE azs with|some (x,d,as')=>some (x,d,a::as')|none=>none
end
mutual
def CJ(c:List AV):AV→Option (Value×AV)
 | .hv x=>some (x,.bv x c)
 | .box i d=>match IA c d with|some (x,d')=>some (x,.box i d')|none=>none
 | .agg fs=>match IA c fs with|some (x,d')=>some (x,.agg d')|none=>none
 | .tup fs=>match IA c fs with|some (x,d')=>some (x,.tup d')|none=>none
 |_=>none
def IA(c:List AV):List AV→Option (Value×List AV)
 |[]=>none
 |a::azs=>match CJ c a with
  |some (x,a')=>some (x,a'::azs)
  |none=>match IA c azs with|some (x,as')=>some (x,a::as')|none=>none
end
mutual
theorem b6D{Z:FP}{η:Nat→Value}{w:World}:∀(a:AV) (v:Value) (S:FP) (x:Value) (c:List AV) (a':AV),Af Z η w a v S→CI a=some (x,c,a')→
 ∃A B,Bm S A B∧Af Z η w (.bv x c) x A∧Af Z η w a' v B
 | .bv y d,v,S,x,c,a',h,hf=>by
   simp only[CI,AS,BM] at hf
   obtain⟨rfl,rfl,rfl⟩:=hf
   have h':=h
   simp only[Af] at h'
   obtain⟨e0,b,arr,ty,S1,e,_⟩:=h'
   refine⟨S,fun _=>False,Me S,by rw[←e0];rw[←e0] at h;exact h,?_⟩
   simp only[Af,Aj];exact⟨e0,by rw[←e0,e];trivial,AI⟩
 | .box i d,v,S,x,c,a',h,hf=>by
   simp only[CI] at hf
   split at hf
   ·rename_i x' d' c' ht
    simp only[AS,BM] at hf;obtain⟨rfl,rfl,rfl⟩:=hf
    simp only[Af] at h
    obtain⟨e0,b,arr,ty,S1,e,hb,hr,hj⟩:=h
    obtain⟨A,B,hj2,h1,h2⟩:=QT d _ S1 _ _ _ hr ht
    obtain⟨E,h5,h6⟩:=Lj hj hj2
    refine⟨A,E,h5,h1,?_⟩
    simp only[Af]
    exact⟨e0,b,arr,ty,B,e,hb,h2,h6⟩
   ·cases hf
 | .agg fs,v,S,x,c,a',h,hf=>by
   simp only[CI] at hf
   split at hf
   ·rename_i x' d' c' ht
    simp only[AS,BM] at hf;obtain⟨rfl,rfl,rfl⟩:=hf
    simp only[Af] at h
    obtain⟨cs,e,hr⟩:=h
    obtain⟨A,B,hj2,h1,h2⟩:=QT fs _ S _ _ _ hr ht
    exact⟨A,B,hj2,h1,by simp only[Af];exact⟨cs,e,h2⟩⟩
   ·cases hf
 | .tup fs,v,S,x,c,a',h,hf=>by
   simp only[CI] at hf
   split at hf
   ·rename_i x' d' c' ht
    simp only[AS,BM] at hf;obtain⟨rfl,rfl,rfl⟩:=hf
    simp only[Af] at h
    obtain⟨cs,e,hr⟩:=h
    obtain⟨A,B,hj2,h1,h2⟩:=QT fs _ S _ _ _ hr ht
    exact⟨A,B,hj2,h1,by simp only[Af];exact⟨cs,e,h2⟩⟩
   ·cases hf
 | .clo _ _,v,S,x,c,a',h,hf=>by simp [CI] at hf
 | .sl _ _ _ _ _ _,v,S,x,c,a',h,hf=>by simp [CI] at hf
 | .int _ _,v,S,x,c,a',h,hf=>by simp [CI] at hf
 | .bool _,v,S,x,c,a',h,hf=>by simp [CI] at hf
 | .str _,v,S,x,c,a',h,hf=>by simp [CI] at hf
 | .val _,v,S,x,c,a',h,hf=>by simp [CI] at hf
 | .any,v,S,x,c,a',h,hf=>by simp [CI] at hf
 | .top,v,S,x,c,a',h,hf=>by simp [CI] at hf
 | .nil,v,S,x,c,a',h,hf=>by simp [CI] at hf
 | .hole _,v,S,x,c,a',h,hf=>by simp [CI] at hf
 | .hv _,v,S,x,c,a',h,hf=>by simp [CI] at hf
 | .al _,v,S,x,c,a',h,hf=>by simp [CI] at hf
 | .po _ _ _ _,v,S,x,c,a',h,hf=>by simp [CI] at hf
 | .pf _,v,S,x,c,a',h,hf=>by simp [CI] at hf
theorem QT{Z:FP}{η:Nat→Value}{w:World}:∀(azs:List AV) (cs:List Value) (S:FP) (x:Value) (c:List AV) (as':List AV),Am Z η w azs cs S→JE azs=some (x,c,as')→
 ∃A B,Bm S A B∧Af Z η w (.bv x c) x A∧Am Z η w as' cs B
 |[],cs,S,x,c,as',h,hf=>by simp [JE] at hf
 |a::azs,cs,S,x,c,as',h,hf=>by
  simp only[Am] at h
  obtain⟨v,cs',A,B,e,hj,h1,h2⟩:=h
  simp only[JE] at hf
  split at hf
  ·rename_i x' d' a' ht
   simp only[AS,BM] at hf;obtain⟨rfl,rfl,rfl⟩:=hf
   obtain⟨A1,B1,hj2,y,z⟩:=b6D a v A _ _ _ h1 ht
   obtain⟨E,h5,h6⟩:=a7h hj hj2
   refine⟨A1,E,h5,y,?_⟩
   simp only[Am];exact⟨v,cs',B1,B,e,h6,z,h2⟩
  ·split at hf
   ·rename_i x' d' c' ht
    simp only[AS,BM] at hf;obtain⟨rfl,rfl,rfl⟩:=hf
    obtain⟨A1,B1,hj2,y,z⟩:=QT azs cs' B _ _ _ h2 ht
    obtain⟨E,h5,h6⟩:=Lj hj hj2
    refine⟨A1,E,h5,y,?_⟩
    simp only[Am];exact⟨v,cs',A,B1,e,h6,h1,z⟩
   ·cases hf
end
mutual
theorem b6E{n:Nat}:∀(a:AV) (x:Value) (c:List AV) (a':AV),Az n a→CI a=some (x,c,a')→AN n c∧Az n a'
 | .bv y d,x,c,a',h,hf=>by
   simp only[CI,AS,BM] at hf
   obtain⟨rfl,rfl,rfl⟩:=hf
   simp only[Az] at h;exact⟨h,trivial⟩
 | .box i d,x,c,a',h,hf=>by
   simp only[CI] at hf
   split at hf
   ·rename_i x' d' c' ht
    simp only[AS,BM] at hf;obtain⟨rfl,rfl,rfl⟩:=hf
    simp only[Az] at h ⊢
    obtain⟨y,z⟩:=QU d _ _ _ h.2 ht
    exact⟨y,h.1,z⟩
   ·cases hf
 | .agg fs,x,c,a',h,hf=>by
   simp only[CI] at hf
   split at hf
   ·rename_i x' d' c' ht
    simp only[AS,BM] at hf;obtain⟨rfl,rfl,rfl⟩:=hf
    simp only[Az] at h ⊢;exact QU fs _ _ _ h ht
   ·cases hf
 | .tup fs,x,c,a',h,hf=>by
   simp only[CI] at hf
   split at hf
   ·rename_i x' d' c' ht
    simp only[AS,BM] at hf;obtain⟨rfl,rfl,rfl⟩:=hf
    simp only[Az] at h ⊢;exact QU fs _ _ _ h ht
   ·cases hf
 | .clo _ _,x,c,a',h,hf=>by simp [CI] at hf
 | .sl _ _ _ _ _ _,x,c,a',h,hf=>by simp [CI] at hf
 | .int _ _,x,c,a',h,hf=>by simp [CI] at hf
 | .bool _,x,c,a',h,hf=>by simp [CI] at hf
 | .str _,x,c,a',h,hf=>by simp [CI] at hf
 | .val _,x,c,a',h,hf=>by simp [CI] at hf
 | .any,x,c,a',h,hf=>by simp [CI] at hf
 | .top,x,c,a',h,hf=>by simp [CI] at hf
 | .nil,x,c,a',h,hf=>by simp [CI] at hf
 | .hole _,x,c,a',h,hf=>by simp [CI] at hf
 | .hv _,x,c,a',h,hf=>by simp [CI] at hf
 | .al _,x,c,a',h,hf=>by simp [CI] at hf
 | .po _ _ _ _,x,c,a',h,hf=>by simp [CI] at hf
 | .pf _,x,c,a',h,hf=>by simp [CI] at hf
theorem QU{n:Nat}:∀(azs:List AV) (x:Value) (c:List AV) (as':List AV),AN n azs→JE azs=some (x,c,as')→AN n c∧AN n as'
 |[],x,c,as',h,hf=>by simp [JE] at hf
 |a::azs,x,c,as',h,hf=>by
  simp only[JE] at hf
  split at hf
  ·rename_i x' d' a' ht
   simp only[AS,BM] at hf;obtain⟨rfl,rfl,rfl⟩:=hf
   obtain⟨y,z⟩:=b6E a _ _ _ h.1 ht
   exact⟨y,z,h.2⟩
  ·split at hf
   ·rename_i x' d' c' ht
    simp only[AS,BM] at hf;obtain⟨rfl,rfl,rfl⟩:=hf
    obtain⟨y,z⟩:=QU azs _ _ _ h.2 ht
    exact⟨y,h.1,z⟩
   ·cases hf
end
mutual
theorem b6F{Z:FP}{η:Nat→Value}{w:World}{c:List AV}{A:FP}:∀(a:AV) (v:Value) (B S:FP) (x:Value) (a':AV),Af Z η w a v B→Bm S A B→
 CJ c a=some (x,a')→Af Z η w (.bv x c) x A→Af Z η w a' v S
 | .hv y,v,B,S,x,a',h,hj,hf,ho=>by
   simp only[CJ,AS,BM] at hf
   obtain⟨rfl,rfl⟩:=hf
   simp only[Af,Aj] at h
   rw[h.1,FO (a6E hj h.2.2)];exact ho
 | .box i d,v,B,S,x,a',h,hj,hf,ho=>by
   simp only[CJ] at hf
   split at hf
   ·rename_i x' c' hc
    simp only[AS,BM] at hf;obtain⟨rfl,rfl⟩:=hf
    simp only[Af] at h ⊢
    obtain⟨e0,b,arr,ty,S1,e,hb,hr,hj2⟩:=h
    obtain⟨E,h5,h6⟩:=Lj hj hj2
    exact⟨e0,b,arr,ty,E,e,hb,TA d _ S1 E _ _ hr h6 hc ho,h5⟩
   ·cases hf
 | .agg fs,v,B,S,x,a',h,hj,hf,ho=>by
   simp only[CJ] at hf
   split at hf
   ·rename_i x' c' hc
    simp only[AS,BM] at hf;obtain⟨rfl,rfl⟩:=hf
    simp only[Af] at h ⊢
    obtain⟨cs,e,hr⟩:=h
    exact⟨cs,e,TA fs _ B S _ _ hr hj hc ho⟩
   ·cases hf
 | .tup fs,v,B,S,x,a',h,hj,hf,ho=>by
   simp only[CJ] at hf
   split at hf
   ·rename_i x' c' hc
    simp only[AS,BM] at hf;obtain⟨rfl,rfl⟩:=hf
    simp only[Af] at h ⊢
    obtain⟨cs,e,hr⟩:=h
    exact⟨cs,e,TA fs _ B S _ _ hr hj hc ho⟩
   ·cases hf
 | .bv _ _,v,B,S,x,a',h,hj,hf,ho=>by simp [CJ] at hf
 | .clo _ _,v,B,S,x,a',h,hj,hf,ho=>by simp [CJ] at hf
 | .sl _ _ _ _ _ _,v,B,S,x,a',h,hj,hf,ho=>by simp [CJ] at hf
 | .int _ _,v,B,S,x,a',h,hj,hf,ho=>by simp [CJ] at hf
 | .bool _,v,B,S,x,a',h,hj,hf,ho=>by simp [CJ] at hf
 | .str _,v,B,S,x,a',h,hj,hf,ho=>by simp [CJ] at hf
 | .val _,v,B,S,x,a',h,hj,hf,ho=>by simp [CJ] at hf
 | .any,v,B,S,x,a',h,hj,hf,ho=>by simp [CJ] at hf
 | .top,v,B,S,x,a',h,hj,hf,ho=>by simp [CJ] at hf
 | .nil,v,B,S,x,a',h,hj,hf,ho=>by simp [CJ] at hf
 | .hole _,v,B,S,x,a',h,hj,hf,ho=>by simp [CJ] at hf
 | .al _,v,B,S,x,a',h,hj,hf,ho=>by simp [CJ] at hf
 | .po _ _ _ _,v,B,S,x,a',h,hj,hf,ho=>by simp [CJ] at hf
 | .pf _,v,B,S,x,a',h,hj,hf,ho=>by simp [CJ] at hf
theorem TA{Z:FP}{η:Nat→Value}{w:World}{c:List AV}{A:FP}:∀(azs:List AV) (cs:List Value) (B S:FP) (x:Value) (as':List AV),Am Z η w azs cs B→Bm S A B→
 IA c azs=some (x,as')→Af Z η w (.bv x c) x A→Am Z η w as' cs S
 |[],cs,B,S,x,as',h,hj,hf,ho=>by simp [IA] at hf
 |a::azs,cs,B,S,x,as',h,hj,hf,ho=>by
  simp only[Am] at h
  obtain⟨v,cs',A1,B1,e,hj2,h1,h2⟩:=h
  simp only[IA] at hf
  split at hf
  ·rename_i x' a1 ht
   simp only[AS,BM] at hf;obtain⟨rfl,rfl⟩:=hf
   obtain⟨E,h5,h6⟩:=Nh hj hj2
   simp only[Am]
   exact⟨v,cs',E,B1,e,h5,b6F a v A1 E _ _ h1 h6 ht ho,h2⟩
  ·split at hf
   ·rename_i x' as1 ht
    simp only[AS,BM] at hf;obtain⟨rfl,rfl⟩:=hf
    obtain⟨E,h5,h6⟩:=Lj hj hj2
    simp only[Am]
    exact⟨v,cs',A1,E,e,h5,h1,TA azs cs' B1 E _ _ h2 h6 ht ho⟩
   ·cases hf
end
mutual
theorem b6G{n:Nat}{c:List AV}(hc:AN n c):∀(a:AV) (x:Value) (a':AV),Az n a→CJ c a=some (x,a')→Az n a'
 | .hv y,x,a',h,hf=>by
   simp only[CJ,AS,BM] at hf
   obtain⟨rfl,rfl⟩:=hf
   simp only[Az];exact hc
 | .box i d,x,a',h,hf=>by
   simp only[CJ] at hf
   split at hf
   ·rename_i x' c' ht
    simp only[AS,BM] at hf;obtain⟨rfl,rfl⟩:=hf
    simp only[Az] at h ⊢;exact⟨h.1,TB hc d _ _ h.2 ht⟩
   ·cases hf
 | .agg fs,x,a',h,hf=>by
   simp only[CJ] at hf
   split at hf
   ·rename_i x' c' ht
    simp only[AS,BM] at hf;obtain⟨rfl,rfl⟩:=hf
    simp only[Az] at h ⊢;exact TB hc fs _ _ h ht
   ·cases hf
 | .tup fs,x,a',h,hf=>by
   simp only[CJ] at hf
   split at hf
   ·rename_i x' c' ht
    simp only[AS,BM] at hf;obtain⟨rfl,rfl⟩:=hf
    simp only[Az] at h ⊢;exact TB hc fs _ _ h ht
   ·cases hf
 | .bv _ _,x,a',h,hf=>by simp [CJ] at hf
 | .clo _ _,x,a',h,hf=>by simp [CJ] at hf
 | .sl _ _ _ _ _ _,x,a',h,hf=>by simp [CJ] at hf
 | .int _ _,x,a',h,hf=>by simp [CJ] at hf
 | .bool _,x,a',h,hf=>by simp [CJ] at hf
 | .str _,x,a',h,hf=>by simp [CJ] at hf
 | .val _,x,a',h,hf=>by simp [CJ] at hf
 | .any,x,a',h,hf=>by simp [CJ] at hf
 | .top,x,a',h,hf=>by simp [CJ] at hf
 | .nil,x,a',h,hf=>by simp [CJ] at hf
 | .hole _,x,a',h,hf=>by simp [CJ] at hf
 | .al _,x,a',h,hf=>by simp [CJ] at hf
 | .po _ _ _ _,x,a',h,hf=>by simp [CJ] at hf
 | .pf _,x,a',h,hf=>by simp [CJ] at hf
theorem TB{n:Nat}{c:List AV}(hc:AN n c):∀(azs:List AV) (x:Value) (as':List AV),AN n azs→IA c azs=some (x,as')→AN n as'
 |[],x,as',h,hf=>by simp [IA] at hf
 |a::azs,x,as',h,hf=>by
  simp only[IA] at hf
  split at hf
  ·rename_i x' a1 ht
   simp only[AS,BM] at hf;obtain⟨rfl,rfl⟩:=hf
   exact⟨b6G hc a _ _ h.1 ht,h.2⟩
  ·split at hf
   ·rename_i x' as1 ht
    simp only[AS,BM] at hf;obtain⟨rfl,rfl⟩:=hf
    exact⟨h.1,TB hc azs _ _ h.2 ht⟩
   ·cases hf
end
mutual
def fz:AV→AV
 | .sl _ _ sz α f xs=> .sl false 0 sz α (fun x=>fzL (f x)) xs
 | .box _ _=> .any
 | .bv _ _=> .any
 | .hv _=> .any
 | .clo _ _=> .any
 | .agg fs=> .agg (fzL fs)
 | .tup fs=> .tup (fzL fs)
 |a=>a
def fzL:List AV→List AV
 |[]=>[]
 |a::azs=>fz a::fzL azs
end
theorem a0L{α:Type}{sz:Nat}{R R':α→List Value→FP→Prop}:∀(xs:List α) (cs:List Value) (S:FP),
 (∀x cs A,(∀b,A b→S b)→R x cs A→R' x cs (fun _=>False))→Rows sz R xs cs S→Rows sz R' xs cs (fun _=>False)
 |[],_,_,_,h=>AI
 |x::xs,cs,S,hr,h=>by
  obtain⟨A,B,hj,hl,h1,h2⟩:=h
  exact⟨_,_,Cu _,hl,hr _ _ _ (fun b hb=>(hj.1 b).2 (.inl hb)) h1,a0L xs _ B (fun x cs A' hA=>hr x cs A' (fun b hb=>(hj.1 b).2 (.inr (hA b hb)))) h2⟩
mutual
theorem a7j{Z Z':FP}{w:World}(hZ:∀b,¬Z b→¬Z' b):∀(a:AV) (v:Value) (S:FP),(∀b,S b→¬Z' b)→Aj Z w a v S→Aj Z' w (fz a) v (fun _=>False)
 | .int _ _,v,S,hS,h=>by simp only[Aj,fz] at h ⊢;exact⟨h.1,AI⟩
 | .bool _,v,S,hS,h=>by simp only[Aj,fz] at h ⊢;exact⟨h.1,AI⟩
 | .str _,v,S,hS,h=>by simp only[Aj,fz] at h ⊢;exact⟨h.1,AI⟩
 | .val _,v,S,hS,h=>by simp only[Aj,fz] at h ⊢;exact⟨h.1,h.2.1,AI⟩
 | .any,v,S,hS,h=>by simp only[Aj,fz] at h ⊢;exact⟨h.1,AI⟩
 | .top,v,S,hS,h=>by simp only[Aj,fz] at h ⊢;exact AI
 | .nil,v,S,hS,h=>by simp only[Aj,fz] at h ⊢;exact⟨h.1,AI⟩
 | .hole _,v,S,hS,h=>by simp only[Aj] at h
 | .al _,v,S,hS,h=>by simp only[Aj] at h
 | .po _ _ _ _,v,S,hS,h=>by simp only[Aj] at h
 | .agg fs,v,S,hS,h=>by simp only[Aj,fz] at h ⊢;obtain⟨cs,e,h⟩:=h;exact⟨cs,e,QV hZ fs cs S hS h⟩
 | .tup fs,v,S,hS,h=>by simp only[Aj,fz] at h ⊢;obtain⟨cs,e,h⟩:=h;exact⟨cs,e,QV hZ fs cs S hS h⟩
 | .clo _ _,v,S,hS,h=>by simp only[Aj,fz] at h ⊢;obtain⟨cs,e,h⟩:=h;exact⟨by rw[e];exact Tk,AI⟩
 | .box _ _,v,S,hS,h=>by simp only[Aj,fz] at h ⊢;obtain⟨b,arr,ty,S1,e,_⟩:=h;exact⟨by rw[e];trivial,AI⟩
 | .bv _ _,v,S,hS,h=>by simp only[Aj,fz] at h ⊢;obtain⟨_,b,arr,ty,S1,e,_⟩:=h;exact⟨by rw[e];trivial,AI⟩
 | .hv _,v,S,hS,h=>by simp only[Aj,fz] at h ⊢;exact⟨by rw[h.1];exact h.2.1,AI⟩
 | .pf c,v,S,hS,h=>by
   simp only[Aj,fz] at h ⊢
   obtain⟨he,b,off,arr,ty,fr,cs,rest,S1,e,hz,hb,hd,hr,h1⟩:=h
   exact⟨AI,b,off,arr,ty,fr,cs,rest,S1,e,hZ b hz,hb,hd,Ea (fun b hb _=>⟨hZ b hb,rfl⟩) _ _ _ (fun _ _=>rfl) hr,h1⟩
 | .sl own _ sz α f xs,v,S,hS,h=>by
   simp only[Aj,fz] at h ⊢
   obtain⟨a,n,c,e,hn,hc,h⟩:=h
   refine⟨a,n,c,e,hn,hc,.inr ⟨trivial,AI,?_⟩⟩
   rcases h with⟨ho,h⟩|⟨ho,he,h⟩
   ·rcases h with⟨ha,hc0,_⟩|⟨b,off,arr,ty,S1,ha,hb,hsz,hr,hj⟩
    ·left;cases xs with
     |nil=>rfl
     |cons x xs=>simp at hn;omega
    ·right
     refine⟨b,off,arr,ty,(0,0),ha,hS b ((hj.1 b).2 (.inl rfl)),hb,?_⟩
     exact a0L xs _ S1 (fun x cs A hA hx=>QV hZ (f x) cs A (fun b hb=>hS b ((hj.1 b).2 (.inr (hA b hb)))) hx) hr
   ·rcases h with h|⟨b,off,arr,ty,fr,ha,hz,hb,hr⟩
    ·exact .inl h
    ·refine .inr ⟨b,off,arr,ty,fr,ha,hZ b hz,hb,?_⟩
     exact a0L xs _ S (fun x cs A hA hx=>QV hZ (f x) cs A (fun b hb=>hS b (hA b hb)) hx) hr
theorem QV{Z Z':FP}{w:World}(hZ:∀b,¬Z b→¬Z' b):∀(azs:List AV) (cs:List Value) (S:FP),(∀b,S b→¬Z' b)→AU Z w azs cs S→AU Z' w (fzL azs) cs (fun _=>False)
 |[],cs,S,hS,h=>by simp only[AU,fzL] at h ⊢;exact⟨h.1,AI⟩
 |a::azs,cs,S,hS,h=>by
  simp only[AU,fzL] at h ⊢
  obtain⟨v,cs',A,B,e,hj,h1,h2⟩:=h
  exact⟨v,cs',_,_,e,Cu _,a7j hZ a v A (fun b hb=>hS b ((hj.1 b).2 (.inl hb))) h1,QV hZ azs cs' B (fun b hb=>hS b ((hj.1 b).2 (.inr hb))) h2⟩
end
mutual
def GG(id:Nat)(g:AV):AV→AV
 | .hole i=>match Nat.beq i id with|true=>g|false=> .hole i
 | .al i=>match Nat.beq i id with|true=>g|false=> .al i
 | .box i c=> .box i (JF id g c)
 | .bv x c=> .bv x (JF id g c)
 | .agg fs=> .agg (JF id g fs)
 | .tup fs=> .tup (JF id g fs)
 | .clo fn fs=> .clo fn (JF id g fs)
 |a=>a
def JF(id:Nat)(g:AV):List AV→List AV
 |[]=>[]
 |a::azs=>GG id g a::JF id g azs
end
mutual
theorem b6H{Z:FP}{η:Nat→Value}{w:World}{id:Nat}{g:AV}(hg:Af Z η w g (η id) (fun _=>False)):∀(a:AV) (v:Value) (S:FP),Af Z η w a v S→Af Z η w (GG id g a) v S
 | .hole i,v,S,h=>by
   simp only[GG];split
   ·rename_i hb;have:=Cj hb;subst this
    simp only[Af] at h;rw[h.1,Fx h.2.2];exact hg
   ·exact h
 | .al i,v,S,h=>by
   simp only[GG];split
   ·rename_i hb;have:=Cj hb;subst this
    simp only[Af] at h;rw[h.1,Fx h.2.2];exact hg
   ·exact h
 | .box i c,v,S,h=>by
   simp only[Af,GG] at h ⊢
   obtain⟨e0,b,arr,ty,S1,e,hb,hr,hj⟩:=h
   exact⟨e0,b,arr,ty,S1,e,hb,No hg c _ S1 hr,hj⟩
 | .bv x c,v,S,h=>by
   simp only[Af,GG] at h ⊢
   obtain⟨e0,b,arr,ty,S1,e,hb,hr,hj⟩:=h
   exact⟨e0,b,arr,ty,S1,e,hb,No hg c _ S1 hr,hj⟩
 | .hv _,v,S,h=>h
 | .agg fs,v,S,h=>by simp only[Af,GG] at h ⊢;obtain⟨cs,e,h⟩:=h;exact⟨cs,e,No hg fs cs S h⟩
 | .tup fs,v,S,h=>by simp only[Af,GG] at h ⊢;obtain⟨cs,e,h⟩:=h;exact⟨cs,e,No hg fs cs S h⟩
 | .clo fn fs,v,S,h=>by simp only[Af,GG] at h ⊢;obtain⟨cs,e,h⟩:=h;exact⟨cs,e,No hg fs cs S h⟩
 | .sl _ _ _ _ _ _,v,S,h=>h
 | .int _ _,v,S,h=>h
 | .bool _,v,S,h=>h
 | .str _,v,S,h=>h
 | .val _,v,S,h=>h
 | .any,v,S,h=>h
 | .top,v,S,h=>h
 | .nil,v,S,h=>h
 | .po _ _ _ _,v,S,h=>h
 | .pf _,v,S,h=>h
theorem No{Z:FP}{η:Nat→Value}{w:World}{id:Nat}{g:AV}(hg:Af Z η w g (η id) (fun _=>False)):∀(azs:List AV) (cs:List Value) (S:FP),Am Z η w azs cs S→Am Z η w (JF id g azs) cs S
 |[],cs,S,h=>h
 |a::azs,cs,S,h=>by
  simp only[Am,JF] at h ⊢
  obtain⟨v,cs',A,B,e,hj,h1,h2⟩:=h
  exact⟨v,cs',A,B,e,hj,b6H hg a v A h1,No hg azs cs' B h2⟩
end
mutual
theorem b6I{n id:Nat}{g:AV}(hg:Az n g):∀(a:AV),Az n a→Az n (GG id g a)
 | .hole i,h=>by simp only[GG];split<;>first|exact hg|exact h
 | .al i,h=>by simp only[GG];split<;>first|exact hg|exact h
 | .box i c,h=>by simp only[Az,GG] at h ⊢;exact⟨h.1,Np hg c h.2⟩
 | .bv _ c,h=>by simp only[Az,GG] at h ⊢;exact Np hg c h
 | .hv _,h=>h
 | .agg fs,h=>by simp only[Az,GG] at h ⊢;exact Np hg fs h
 | .tup fs,h=>by simp only[Az,GG] at h ⊢;exact Np hg fs h
 | .clo fn fs,h=>by simp only[Az,GG] at h ⊢;exact Np hg fs h
 | .sl _ _ _ _ _ _,h=>h
 | .int _ _,h=>h
 | .bool _,h=>h
 | .str _,h=>h
 | .val _,h=>h
 | .any,h=>h
 | .top,h=>h
 | .nil,h=>h
 | .po _ _ _ _,h=>h
 | .pf _,h=>h
theorem Np{n id:Nat}{g:AV}(hg:Az n g):∀(azs:List AV),AN n azs→AN n (JF id g azs)
 |[],h=>h
 |a::azs,h=>by simp only[AN,JF] at h ⊢;exact⟨b6I hg a h.1,Np hg azs h.2⟩
end
def a0M:AV→Bool
 | .int _ _=>true
 | .bool _=>true
 | .str _=>true
 | .val _=>true
 | .any=>true
 | .nil=>true
 | .pf _=>true
 | .sl _ _ _ _ _ _=>true
 |_=>false
def QW:List AV→Bool
 |[]=>true
 |a::azs=>match a0M a with
  |true=>QW azs
  |false=>false
theorem b6J{a:AV}(hp:a0M a=true)(h:Af Z η w a v S):Aj Z w a v S:=by
 cases a<;>simp only[a0M,Bl] at hp<;>simp only[Af] at h<;>first|exact h|exact h.2
theorem a7k{Z:FP}{η:Nat→Value}{w:World}:∀ {azs:List AV} {cs:List Value} {S:FP},QW azs=true→Am Z η w azs cs S→AU Z w azs cs S
 |[],cs,S,_,h=>by simp only[Am] at h;simp only[AU];exact h
 |a::azs,cs,S,hp,h=>by
  unfold QW at hp
  split at hp
  ·rename_i ha
   simp only[Am] at h
   obtain⟨v,cs',A,B,e,hj,h1,h2⟩:=h
   simp only[AU]
   exact⟨v,cs',A,B,e,hj,b6J ha h1,a7k hp h2⟩
  ·cases hp
theorem a7l{c:List AV}(hp:QW c=true)(h:Af Z η w (.box i c) v A):
 Aj (fun b=>Z b∧¬A b) w (.pf (fzL c)) v (fun _=>False):=by
 simp only[Af] at h
 obtain⟨e0,b,arr,ty,S1,e,hb,hr,hj⟩:=h
 have hr':=QV (Z':=fun b=>Z b∧¬A b) (fun b hb x=>hb x.1) c arr.toList S1 (fun x hx y=>y.2 ((hj.1 x).2 (.inr hx))) (a7k hp hr)
 simp only[Aj]
 exact⟨AI,b,0,arr,ty,_,arr.toList,[],_,e,fun x=>x.2 ((hj.1 b).2 (.inl rfl)),hb,by simp,hr',AI⟩
def TC:Fn→Fn→Bool
 | .func a,.func b=>Nat.beq a b
 | .yield a,.yield b=>Nat.beq a b
 |_,_=>false
theorem a0N{a b:Fn}(h:TC a b=true):a=b:=by
 cases a<;>cases b<;>simp only[TC,Bl] at h
 ·rw[Cj h]
 ·rw[Cj h]
mutual
def Fe(bw:Bool):AV→List AV→AV→(List AV→Prop)→Prop
 | .int k n,regs,a,K=>match a with
   | .int k' m=>match OG k k' with
     |true=>m=n∧K regs
     |false=>False
   |_=>False
 | .bool b,regs,a,K=>match a with
   | .bool c=>c=b∧K regs
   |_=>False
 | .str l,regs,a,K=>match a with
   | .str m=>m=l∧K regs
   |_=>False
 | .val v,regs,a,K=>match a with
   | .val u=>u=v∧K regs
   |_=>False
 | .nil,regs,a,K=>match a with
   | .nil=>K regs
   |_=>False
 | .any,regs,a,K=>match Kl a with
   |true=>K regs
   |false=>False
 | .top,regs,a,K=>K regs
 | .agg es,regs,a,K=>match a with
   | .agg azs=>Ff bw es regs azs K
   |_=>False
 | .tup es,regs,a,K=>match a with
   | .tup azs=>Ff bw es regs azs K
   |_=>False
 | .clo fn es,regs,a,K=>match a with
   | .clo fn' azs=>match TC fn' fn with
     |true=>Ff bw es regs azs K
     |false=>False
   |_=>False
 | .pf c,regs,a,K=>match a with
   | .pf c'=>AV.pf c'=AV.pf c∧K regs
   | .al id=>match bw with
     |true=>match Fd id regs with
      |some (.box _ c')=>match QW c' with
       |true=>AV.pf (fzL c')=AV.pf c∧K regs
       |false=>False
      |_=>False
     |false=>match EY id regs with
      |some (.box _ c',regs')=>match QW c' with
       |true=>AV.pf (fzL c')=AV.pf c∧K (JF id (.pf (fzL c')) regs')
       |false=>False
      |_=>False
   |_=>False
 | .box _ c,regs,a,K=>match a with
   | .box _ c'=>Ff bw c regs c' K
   | .al id=>match bw with
     |true=>False
     |false=>match EY id regs with
      |some (.box _ c',regs')=>Ff bw c regs' c' K
      |_=>False
   | .val v=>match bw with
     |true=>False
     |false=>match JE regs with
      |some (x,c',regs')=>x=v∧Ff bw c regs' c' K
      |none=>False
   |_=>False
 | .bv y c,regs,a,K=>match a with
   | .bv x c'=>x=y∧Ff bw c regs c' K
   | .val v=>match bw with
     |true=>False
     |false=>match JE regs with
      |some (x,c',regs')=>(x=v∧x=y)∧Ff bw c regs' c' K
      |none=>False
   |_=>False
 | .sl true _ sz α f xs,regs,a,K=>match a with
   | .nil=>xs=[]∧K regs
   | .sl true _ sz' α' f' xs'=>AV.sl true 0 sz' α' f' xs'=AV.sl true 0 sz α f xs∧K regs
   | .al id=>match bw with
     |true=>False
     |false=>match EY id regs with
      |some (.sl true _ sz' α' f' xs',regs')=>AV.sl true 0 sz' α' f' xs'=AV.sl true 0 sz α f xs∧K regs'
      |_=>False
   |_=>False
 | .sl false _ sz α f xs,regs,a,K=>match a with
   | .nil=>xs=[]∧K regs
   | .sl false _ sz' α' f' xs'=>AV.sl false 0 sz' α' f' xs'=AV.sl false 0 sz α f xs∧K regs
   | .sl true _ sz' α' f' xs'=>AV.sl false 0 sz' α' (fun x=>fzL (f' x)) xs'=AV.sl false 0 sz α f xs∧K regs
   | .al id=>match bw with
     |true=>match Fd id regs with
      |some (.sl true _ sz' α' f' xs')=>AV.sl false 0 sz' α' (fun x=>fzL (f' x)) xs'=AV.sl false 0 sz α f xs∧K regs
      |_=>False
     |false=>match EY id regs with
      |some (.sl true _ sz' α' f' xs',regs')=>AV.sl false 0 sz' α' (fun x=>fzL (f' x)) xs'=AV.sl false 0 sz α f xs∧
        K (JF id (.sl false 0 sz' α' (fun x=>fzL (f' x)) xs') regs')
      |_=>False
   |_=>False
 | .hole _,_,_,_=>False
 | .hv _,_,_,_=>False
 | .al _,_,_,_=>False
 | .po _ _ _ _,_,_,_=>False
def Ff(bw:Bool):List AV→List AV→List AV→(List AV→Prop)→Prop
 |[],regs,azs,K=>match azs with
  |[]=>K regs
  |_::_=>False
 |e::es,regs,azs,K=>match azs with
  |[]=>False
  |a::azs=>Fe bw e regs a (fun regs'=>Ff bw es regs' azs K)
end
theorem Mg{j sz':Nat}{α α':Type}{f:α→List AV}{f':α'→List AV}{xs:List α}{xs':List α'}
 (he:AV.sl own 0 sz' α' f' xs'=AV.sl own 0 sz α f xs) (h:Aj Z w (.sl own i sz' α' f' xs') v S):Aj Z w (.sl own j sz α f xs) v S:=by
 injection he with _ _ h1 h2 h3 h4
 subst h1;subst h2
 have h3:=eq_of_heq h3;have h4:=eq_of_heq h4
 subst h3;subst h4
 simpa only[Aj] using h
structure Handed (Z Z':FP) (S A B:FP):Prop where
 zz:∀b,Z' b→Z b
 gone:∀b,Z b→¬Z' b→S b
 part:∀b,A b∨B b→S b
 dis:∀b,A b→B b→False
 ownA:∀b,A b→Z b→Z' b
structure HOut (bw:Bool) (Z:FP) (η:Nat→Value) (w:World) (n:Nat) (vs:List Value) (S A:FP) (R:FP→FP→Prop) (K:List AV→Prop) (regs0:List AV)
 (Z' A' B':FP) (regs':List AV):Prop where
 rel:Am Z' η w regs' vs B'
 ids:AN n regs'
 got:R Z' A'
 zz:∀b,Z' b→Z b
 gone:∀b,Z b→¬Z' b→S b
 part:∀b,A' b∨B' b→S b
 dis:∀b,A' b→B' b→False
 ownA:∀b,A' b→Z b→Z' b
 ownB:bw=false→∀b,B' b→Z b→Z' b
 stay:bw=true→∀b,A' b→A b
 fix:bw=true→regs'=regs0
 k:K regs'
theorem JG{Z':FP}(h:∀b,Z' b→Z b):∀b,¬Z b→b<w.heap.size→¬Z' b∧w.heap[b]? =w.heap[b]? :=fun b hb _=>⟨fun x=>hb (h b x),rfl⟩
theorem HOut.same{bw:Bool}{R:FP→FP→Prop}{K:List AV→Prop}
 (hj:Bm S A B) (hR:Am Z η w regs vs B) (hI:AN n regs) {A':FP} (hA:∀b,A' b→A b) (hr:R Z A') (k:K regs):HOut bw Z η w n vs S A R K regs Z A' B regs:=
 ⟨hR,hI,hr,fun _ h=>h,fun _ h h'=>(h' h).elim,fun b h=>(hj.1 b).2 (h.imp (hA b) id),fun b x y=>hj.2 b (hA b x) y,fun _ _ h=>h,fun _ _ _ h=>h,fun _=>hA,fun _=>rfl,k⟩
theorem a0O{id:Nat}{α:Type}{f:α→List AV}{xs:List α}{own':Bool}
 (h:Af Z η w (.sl own i sz α f xs) v A):
 Aj (fun b=>Z b∧¬A b) w (.sl false 0 sz α (fun x=>fzL (f x)) xs) v (fun _=>False):=by
 simp only[Af] at h
 have:=a7j (Z:=Z) (Z':=fun b=>Z b∧¬A b) (fun b hb x=>hb x.1) _ _ _ (fun b hb x=>x.2 hb) h.2
 simpa only[fz] using this
mutual
theorem a7m{bw:Bool}{η:Nat→Value}{w:World}{n:Nat}:∀(e:AV) (regs:List AV) (a:AV) (K:List AV→Prop),Fe bw e regs a K→
 ∀(Z:FP) (vs:List Value) (v:Value) (B A S:FP),Am Z η w regs vs B→AN n regs→Af Z η w a v A→Az n a→Bm S A B→
 ∃Z' A' B' regs',HOut bw Z η w n vs S A (fun Z' A'=>Aj Z' w e v A') K regs Z' A' B' regs'
 | .int k m,regs,a,K,h,Z,vs,v,B,A,S,hR,hI,ha,hai,hj=>by
   unfold Fe at h;split at h
   ·rename_i k' m'
    split at h
    ·rename_i hk;have hk:=Tt hk;subst hk
     obtain⟨rfl,h⟩:=h
     exact⟨_,_,_,_,HOut.same hj hR hI (fun _ h=>h) (by simpa only[Af] using ha) h⟩
    ·exact h.elim
   ·exact h.elim
 | .bool b,regs,a,K,h,Z,vs,v,B,A,S,hR,hI,ha,hai,hj=>by
   unfold Fe at h;split at h
   ·obtain⟨rfl,h⟩:=h
    exact⟨_,_,_,_,HOut.same hj hR hI (fun _ h=>h) (by simpa only[Af] using ha) h⟩
   ·exact h.elim
 | .str l,regs,a,K,h,Z,vs,v,B,A,S,hR,hI,ha,hai,hj=>by
   unfold Fe at h;split at h
   ·obtain⟨rfl,h⟩:=h
    exact⟨_,_,_,_,HOut.same hj hR hI (fun _ h=>h) (by simpa only[Af] using ha) h⟩
   ·exact h.elim
 | .val x,regs,a,K,h,Z,vs,v,B,A,S,hR,hI,ha,hai,hj=>by
   unfold Fe at h;split at h
   ·obtain⟨rfl,h⟩:=h
    exact⟨_,_,_,_,HOut.same hj hR hI (fun _ h=>h) (by simpa only[Af] using ha) h⟩
   ·exact h.elim
 | .nil,regs,a,K,h,Z,vs,v,B,A,S,hR,hI,ha,hai,hj=>by
   unfold Fe at h;split at h
   ·exact⟨_,_,_,_,HOut.same hj hR hI (fun _ h=>h) (by simpa only[Af] using ha) h⟩
   ·exact h.elim
 | .any,regs,a,K,h,Z,vs,v,B,A,S,hR,hI,ha,hai,hj=>by
   unfold Fe at h;split at h
   ·rename_i hl
    refine⟨_,_,_,_,HOut.same hj hR hI (A':=fun _=>False) (fun _ h=>h.elim) ?_ h⟩
    simp only[Aj];exact⟨a0m ha hl,AI⟩
   ·exact h.elim
 | .top,regs,a,K,h,Z,vs,v,B,A,S,hR,hI,ha,hai,hj=>by
   unfold Fe at h
   refine⟨_,_,_,_,HOut.same hj hR hI (A':=fun _=>False) (fun _ h=>h.elim) ?_ h⟩
   simp only[Aj];exact AI
 | .agg es,regs,a,K,h,Z,vs,v,B,A,S,hR,hI,ha,hai,hj=>by
   unfold Fe at h;split at h
   ·rename_i azs
    simp only[Af] at ha
    simp only[Az] at hai
    obtain⟨cs,e,ha⟩:=ha
    obtain⟨Z',A',B',regs',ho⟩:=HT es regs azs K h Z vs cs B A S hR hI ha hai hj
    exact⟨Z',A',B',regs',⟨ho.rel,ho.ids,by simp only[Aj];exact⟨cs,e,ho.got⟩,ho.zz,ho.gone,ho.part,ho.dis,ho.ownA,ho.ownB,ho.stay,ho.fix,ho.k⟩⟩
   ·exact h.elim
 | .tup es,regs,a,K,h,Z,vs,v,B,A,S,hR,hI,ha,hai,hj=>by
   unfold Fe at h;split at h
   ·rename_i azs
    simp only[Af] at ha
    simp only[Az] at hai
    obtain⟨cs,e,ha⟩:=ha
    obtain⟨Z',A',B',regs',ho⟩:=HT es regs azs K h Z vs cs B A S hR hI ha hai hj
    exact⟨Z',A',B',regs',⟨ho.rel,ho.ids,by simp only[Aj];exact⟨cs,e,ho.got⟩,ho.zz,ho.gone,ho.part,ho.dis,ho.ownA,ho.ownB,ho.stay,ho.fix,ho.k⟩⟩
   ·exact h.elim
 | .clo fn es,regs,a,K,h,Z,vs,v,B,A,S,hR,hI,ha,hai,hj=>by
   unfold Fe at h;split at h
   ·rename_i fn' azs
    split at h
    rotate_left
    ·exact h.elim
    rename_i hfe
    obtain rfl:=a0N hfe
    simp only[Af] at ha
    simp only[Az] at hai
    obtain⟨cs,e,ha⟩:=ha
    obtain⟨Z',A',B',regs',ho⟩:=HT es regs azs K h Z vs cs B A S hR hI ha hai hj
    exact⟨Z',A',B',regs',⟨ho.rel,ho.ids,by simp only[Aj];exact⟨cs,e,ho.got⟩,ho.zz,ho.gone,ho.part,ho.dis,ho.ownA,ho.ownB,ho.stay,ho.fix,ho.k⟩⟩
   ·exact h.elim
 | .pf c,regs,a,K,h,Z,vs,v,B,A,S,hR,hI,ha,hai,hj=>by
   unfold Fe at h;split at h
   ·obtain⟨he,h⟩:=h
    rw[he] at ha
    exact⟨_,_,_,_,HOut.same hj hR hI (fun _ h=>h) (by simpa only[Af] using ha) h⟩
   ·rename_i id
    split at h
    ·split at h
     ·rename_i i c' ho
      split at h
      ·rename_i hp
       obtain⟨he,h⟩:=h
       obtain⟨A1,hA1,hio,hro⟩:=Gm regs vs B _ hR ho
       simp only[Af] at ha
       have hS:S=B:=FO (Hv hj ha.2.2)
       subst hS
       have hfr:=a7l hp hro
       have hzz:∀b,(Z b∧¬A1 b)→Z b:=fun b h=>h.1
       refine⟨fun b=>Z b∧¬A1 b,fun _=>False,S,regs,⟨Dj (JG hzz) (fun _ _=>rfl) _ _ _ hI (fun _ _=>rfl) hR,hI,?_,hzz,?_,?_,fun _ h=>h.elim,fun _ h=>h.elim,(fun hh=>by simp at hh),(fun _ _ h=>h.elim),(fun _=>rfl),h⟩⟩
       ·rw[ha.1,←he];exact hfr
       ·intro b h1 h2
        exact Classical.byContradiction fun hn=>h2 ⟨h1,fun x=>hn (hA1 b x)⟩
       ·intro b hb;exact hb.resolve_left (fun x=>x)
      ·exact h.elim
     ·exact h.elim
    ·split at h
     ·rename_i i c' regs' ht
      split at h
      ·rename_i hp
       obtain⟨he,h⟩:=h
       obtain⟨A1,B1,hj1,hio,hro,hrr⟩:=Gn regs vs B _ _ hR ht
       obtain⟨h1,h2,h3⟩:=Hb regs _ _ hI ht
       simp only[Af] at ha
       have hS:S=B:=FO (Hv hj ha.2.2)
       subst hS
       have hfr:=a7l hp hro
       have hzz:∀b,(Z b∧¬A1 b)→Z b:=fun b h=>h.1
       have hrr':=Dj (JG (w:=w) hzz) (fun _ _=>rfl) _ _ _ h3 (fun _ _=>rfl) hrr
       refine⟨fun b=>Z b∧¬A1 b,fun _=>False,B1,_,⟨No ?_ _ _ _ hrr',Np ?_ _ h3,?_,hzz,?_,?_,fun _ h=>h.elim,fun _ h=>h.elim,?_,(fun _ _ h=>h.elim),(fun hbw=>by cases hbw),h⟩⟩
       ·simp only[Af];exact hfr
       ·trivial
       ·rw[ha.1,←he];exact hfr
       ·intro b h1 h2
        refine(hj1.1 b).2 (.inl ?_)
        exact Classical.byContradiction fun hn=>h2 ⟨h1,hn⟩
       ·intro b hb;exact(hj1.1 b).2 (.inr (hb.resolve_left (fun x=>x)))
       ·intro _ b hb hz;exact⟨hz,fun x=>hj1.2 b x hb⟩
      ·exact h.elim
     ·exact h.elim
   ·exact h.elim
 | .box j c,regs,a,K,h,Z,vs,v,B,A,S,hR,hI,ha,hai,hj=>by
   have core:∀(regs:List AV) (c':List AV) (i:Nat) (v:Value) (B A S:FP),Ff bw c regs c' K→Am Z η w regs vs B→AN n regs→Af Z η w (.box i c') v A→Az n (.box i c')→Bm S A B→
    ∃Z' A' B' regs',HOut bw Z η w n vs S A (fun Z' A'=>Aj Z' w (.box j c) v A') K regs Z' A' B' regs':=by
    intro regs c' i v B A S h hR hI ha hai hj
    simp only[Af] at ha
    simp only[Az] at hai
    obtain⟨e0,b,arr,ty,S1,e,hb,hr,hj2⟩:=ha
    obtain⟨Z',A',B',regs',ho⟩:=HT c regs c' K h Z vs arr.toList B S1 (fun x=>S1 x∨B x) hR hI hr hai.2 ⟨fun _=>Cg,fun x p q=>hj.2 x ((hj2.1 x).2 (.inr p)) q⟩
    have hbA:A b:=(hj2.1 b).2 (.inl rfl)
    have hnot:¬(S1 b∨B b):=fun x=>x.elim (fun x=>hj2.2 b rfl x) (fun x=>hj.2 b hbA x)
    refine⟨Z',fun x=>x=b∨A' x,B',regs',⟨ho.rel,ho.ids,?_,ho.zz,?_,?_,?_,?_,ho.ownB,?_,ho.fix,ho.k⟩⟩
    ·simp only[Aj]
     exact⟨b,arr,ty,A',e,hb,ho.got,⟨fun x=>Cg,fun x p q=>hnot (by have:=ho.part x (.inl q);rw[p] at this;exact this)⟩⟩
    ·intro x hx hx'
     have:=ho.gone x hx hx'
     exact(hj.1 x).2 (this.imp (fun p=>(hj2.1 x).2 (.inr p)) id)
    ·intro x hx
     rcases hx with(hx|hx)|hx
     ·subst hx;exact(hj.1 x).2 (.inl hbA)
     ·exact(hj.1 x).2 ((ho.part x (.inl hx)).imp (fun p=>(hj2.1 x).2 (.inr p)) id)
     ·exact(hj.1 x).2 ((ho.part x (.inr hx)).imp (fun p=>(hj2.1 x).2 (.inr p)) id)
    ·intro x hx hy
     rcases hx with hx|hx
     ·subst hx;exact hnot (ho.part x (.inr hy))
     ·exact ho.dis x hx hy
    ·intro x hx hz
     rcases hx with hx|hx
     ·subst hx
      exact Classical.byContradiction fun hn=>hnot (ho.gone x hz hn)
     ·exact ho.ownA x hx hz
    ·intro hbw x hx
     rcases hx with hx|hx
     ·subst hx;exact hbA
     ·exact(hj2.1 x).2 (.inr (ho.stay hbw x hx))
   have coreV:∀(regs:List AV) (c':List AV) (x:Value) (v:Value) (B A S:FP),Ff bw c regs c' K→Am Z η w regs vs B→AN n regs→Af Z η w (.bv x c') v A→AN n c'→Bm S A B→
    ∃Z' A' B' regs',HOut bw Z η w n vs S A (fun Z' A'=>Aj Z' w (.box j c) v A') K regs Z' A' B' regs':=by
    intro regs c' x v B A S h hR hI ha hai hj
    simp only[Af] at ha
    obtain⟨e0,b,arr,ty,S1,e,hb,hr,hj2⟩:=ha
    obtain⟨Z',A',B',regs',ho⟩:=HT c regs c' K h Z vs arr.toList B S1 (fun x=>S1 x∨B x) hR hI hr hai ⟨fun _=>Cg,fun x p q=>hj.2 x ((hj2.1 x).2 (.inr p)) q⟩
    have hbA:A b:=(hj2.1 b).2 (.inl rfl)
    have hnot:¬(S1 b∨B b):=fun x=>x.elim (fun x=>hj2.2 b rfl x) (fun x=>hj.2 b hbA x)
    refine⟨Z',fun x=>x=b∨A' x,B',regs',⟨ho.rel,ho.ids,?_,ho.zz,?_,?_,?_,?_,ho.ownB,?_,ho.fix,ho.k⟩⟩
    ·simp only[Aj]
     exact⟨b,arr,ty,A',e,hb,ho.got,⟨fun x=>Cg,fun x p q=>hnot (by have:=ho.part x (.inl q);rw[p] at this;exact this)⟩⟩
    ·intro x hx hx'
     have:=ho.gone x hx hx'
     exact(hj.1 x).2 (this.imp (fun p=>(hj2.1 x).2 (.inr p)) id)
    ·intro x hx
     rcases hx with(hx|hx)|hx
     ·subst hx;exact(hj.1 x).2 (.inl hbA)
     ·exact(hj.1 x).2 ((ho.part x (.inl hx)).imp (fun p=>(hj2.1 x).2 (.inr p)) id)
     ·exact(hj.1 x).2 ((ho.part x (.inr hx)).imp (fun p=>(hj2.1 x).2 (.inr p)) id)
    ·intro x hx hy
     rcases hx with hx|hx
     ·subst hx;exact hnot (ho.part x (.inr hy))
     ·exact ho.dis x hx hy
    ·intro x hx hz
     rcases hx with hx|hx
     ·subst hx
      exact Classical.byContradiction fun hn=>hnot (ho.gone x hz hn)
     ·exact ho.ownA x hx hz
    ·intro hbw x hx
     rcases hx with hx|hx
     ·subst hx;exact hbA
     ·exact(hj2.1 x).2 (.inr (ho.stay hbw x hx))
   unfold Fe at h;split at h
   ·rename_i i c'
    exact core regs c' i v B A S h hR hI ha hai hj
   ·rename_i id
    split at h
    ·exact h.elim
    ·split at h
     ·rename_i i c' regs' ht
      obtain⟨A1,B1,hj1,hio,hro,hrr⟩:=Gn regs vs B _ _ hR ht
      obtain⟨h1,h2,h3⟩:=Hb regs _ _ hI ht
      simp only[Af] at ha
      have hro':=hro
      simp only[Af] at hro'
      obtain⟨_,b,arr,ty,S1,e,_⟩:=hro'
      have hv:v=η id:=ha.1
      rw[←hv] at hro
      obtain⟨Z',A',B',regs2,ho⟩:=core regs' c' i v B1 A1 S h hrr h3 hro h2 (by
       rw[show S=B from FO (Hv hj ha.2.2)];exact hj1)
      exact⟨Z',A',B',regs2,ho.rel,ho.ids,ho.got,ho.zz,ho.gone,ho.part,ho.dis,ho.ownA,ho.ownB,(fun hbw=>by cases hbw),(fun hbw=>by cases hbw),ho.k⟩
     ·exact h.elim
   ·rename_i u
    split at h
    ·exact h.elim
    ·split at h
     ·rename_i x c' regs' ht
      obtain⟨hxv,h⟩:=h
      obtain⟨A1,B1,hj1,hro,hrr⟩:=QT regs vs B _ _ _ hR ht
      obtain⟨h2,h3⟩:=QU regs _ _ _ hI ht
      simp only[Af,Aj] at ha
      have hv:v=x:=by rw[ha.1,hxv]
      rw[←hv] at hro
      obtain⟨Z',A',B',regs2,ho⟩:=coreV regs' c' v v B1 A1 S h hrr h3 hro h2 (by
       rw[show S=B from FO (Hv hj ha.2.2)];exact hj1)
      exact⟨Z',A',B',regs2,ho.rel,ho.ids,ho.got,ho.zz,ho.gone,ho.part,ho.dis,ho.ownA,ho.ownB,(fun hbw=>by cases hbw),(fun hbw=>by cases hbw),ho.k⟩
     ·exact h.elim
   ·exact h.elim
 | .bv y c,regs,a,K,h,Z,vs,v,B,A,S,hR,hI,ha,hai,hj=>by
   have core:∀(regs:List AV) (c':List AV) (v:Value) (B A S:FP),Ff bw c regs c' K→Am Z η w regs vs B→AN n regs→Af Z η w (.bv y c') v A→AN n c'→Bm S A B→
    ∃Z' A' B' regs',HOut bw Z η w n vs S A (fun Z' A'=>Aj Z' w (.bv y c) v A') K regs Z' A' B' regs':=by
    intro regs c' v B A S h hR hI ha hai hj
    simp only[Af] at ha
    obtain⟨e0,b,arr,ty,S1,e,hb,hr,hj2⟩:=ha
    obtain⟨Z',A',B',regs',ho⟩:=HT c regs c' K h Z vs arr.toList B S1 (fun x=>S1 x∨B x) hR hI hr hai ⟨fun _=>Cg,fun x p q=>hj.2 x ((hj2.1 x).2 (.inr p)) q⟩
    have hbA:A b:=(hj2.1 b).2 (.inl rfl)
    have hnot:¬(S1 b∨B b):=fun x=>x.elim (fun x=>hj2.2 b rfl x) (fun x=>hj.2 b hbA x)
    refine⟨Z',fun x=>x=b∨A' x,B',regs',⟨ho.rel,ho.ids,?_,ho.zz,?_,?_,?_,?_,ho.ownB,?_,ho.fix,ho.k⟩⟩
    ·simp only[Aj]
     exact⟨e0,b,arr,ty,A',e,hb,ho.got,⟨fun x=>Cg,fun x p q=>hnot (by have:=ho.part x (.inl q);rw[p] at this;exact this)⟩⟩
    ·intro x hx hx'
     have:=ho.gone x hx hx'
     exact(hj.1 x).2 (this.imp (fun p=>(hj2.1 x).2 (.inr p)) id)
    ·intro x hx
     rcases hx with(hx|hx)|hx
     ·subst hx;exact(hj.1 x).2 (.inl hbA)
     ·exact(hj.1 x).2 ((ho.part x (.inl hx)).imp (fun p=>(hj2.1 x).2 (.inr p)) id)
     ·exact(hj.1 x).2 ((ho.part x (.inr hx)).imp (fun p=>(hj2.1 x).2 (.inr p)) id)
    ·intro x hx hy
     rcases hx with hx|hx
     ·subst hx;exact hnot (ho.part x (.inr hy))
     ·exact ho.dis x hx hy
    ·intro x hx hz
     rcases hx with hx|hx
     ·subst hx
      exact Classical.byContradiction fun hn=>hnot (ho.gone x hz hn)
     ·exact ho.ownA x hx hz
    ·intro hbw x hx
     rcases hx with hx|hx
     ·subst hx;exact hbA
     ·exact(hj2.1 x).2 (.inr (ho.stay hbw x hx))
   unfold Fe at h;split at h
   ·rename_i x c'
    obtain⟨rfl,h⟩:=h
    exact core regs c' v B A S h hR hI ha (by simpa only[Az] using hai) hj
   ·rename_i u
    split at h
    ·exact h.elim
    ·split at h
     ·rename_i x c' regs' ht
      obtain⟨⟨hxv,rfl⟩,h⟩:=h
      obtain⟨A1,B1,hj1,hro,hrr⟩:=QT regs vs B _ _ _ hR ht
      obtain⟨h2,h3⟩:=QU regs _ _ _ hI ht
      simp only[Af,Aj] at ha
      have hv:v=x:=by rw[ha.1,hxv]
      have hro':Af Z η w (.bv x c') v A1:=by rw[hv];exact hro
      obtain⟨Z',A',B',regs2,ho⟩:=core regs' c' v B1 A1 S h hrr h3 hro' h2 (by
       rw[show S=B from FO (Hv hj ha.2.2)];exact hj1)
      exact⟨Z',A',B',regs2,ho.rel,ho.ids,ho.got,ho.zz,ho.gone,ho.part,ho.dis,ho.ownA,ho.ownB,(fun hbw=>by cases hbw),(fun hbw=>by cases hbw),ho.k⟩
     ·exact h.elim
   ·exact h.elim
 | .hv _,regs,a,K,h,Z,vs,v,B,A,S,hR,hI,ha,hai,hj=>by unfold Fe at h;exact h.elim
 | .sl true j sz α f xs,regs,a,K,h,Z,vs,v,B,A,S,hR,hI,ha,hai,hj=>by
   unfold Fe at h;split at h
   ·obtain⟨rfl,h⟩:=h
    refine⟨_,_,_,_,HOut.same hj hR hI (fun _ h=>h) ?_ h⟩
    simp only[Af,Aj] at ha ⊢
    refine⟨none,0,0,ha.1,rfl,Bu _,.inl ⟨trivial,.inl ⟨rfl,rfl,ha.2⟩⟩⟩
   ·obtain⟨he,h⟩:=h
    refine⟨_,_,_,_,HOut.same hj hR hI (fun _ h=>h) ?_ h⟩
    simp only[Af] at ha
    exact Mg he ha.2
   ·rename_i id
    split at h
    ·exact h.elim
    ·split at h
     ·rename_i i sz' α' f' xs' regs' ht
      obtain⟨he,h⟩:=h
      obtain⟨A1,B1,hj1,hio,hro,hrr⟩:=Gn regs vs B _ _ hR ht
      obtain⟨h1,h2,h3⟩:=Hb regs _ _ hI ht
      simp only[Af] at ha hro
      have hS:S=B:=FO (Hv hj ha.2.2)
      subst hS
      have hg:Aj Z w (.sl true j sz α f xs) v A1:=by rw[ha.1];exact Mg he hro.2
      have ho:=HOut.same (bw:=false) (R:=fun Z' A'=>Aj Z' w (.sl true j sz α f xs) v A') (K:=K) hj1 hrr h3 (fun _ h=>h) hg h
      exact⟨Z,A1,B1,regs',ho.rel,ho.ids,ho.got,ho.zz,ho.gone,ho.part,ho.dis,ho.ownA,ho.ownB,(fun hbw=>by cases hbw),(fun hbw=>by cases hbw),ho.k⟩
     ·exact h.elim
   ·exact h.elim
 | .sl false j sz α f xs,regs,a,K,h,Z,vs,v,B,A,S,hR,hI,ha,hai,hj=>by
   unfold Fe at h;split at h
   ·obtain⟨rfl,h⟩:=h
    refine⟨_,_,_,_,HOut.same hj hR hI (fun _ h=>h) ?_ h⟩
    simp only[Af,Aj] at ha ⊢
    refine⟨none,0,0,ha.1,rfl,Bu _,.inr ⟨trivial,ha.2,.inl trivial⟩⟩
   ·obtain⟨he,h⟩:=h
    refine⟨_,_,_,_,HOut.same hj hR hI (fun _ h=>h) ?_ h⟩
    simp only[Af] at ha
    exact Mg he ha.2
   ·obtain⟨he,h⟩:=h
    have hfr:=a0O (id:=0) (own':=true) ha
    have hzz:∀b,(Z b∧¬A b)→Z b:=fun b h=>h.1
    refine⟨fun b=>Z b∧¬A b,fun _=>False,B,regs,⟨Dj (JG hzz) (fun _ _=>rfl) _ _ _ hI (fun _ _=>rfl) hR,hI,Mg he hfr,hzz,?_,?_,fun _ h=>h.elim,fun _ h=>h.elim,?_,(fun _ _ h=>h.elim),(fun _=>rfl),h⟩⟩
    ·intro b h1 h2
     refine(hj.1 b).2 (.inl ?_)
     exact Classical.byContradiction fun hn=>h2 ⟨h1,hn⟩
    ·intro b hb;exact(hj.1 b).2 (.inr (hb.resolve_left id))
    ·intro _ b hb hz;exact⟨hz,fun x=>hj.2 b x hb⟩
   ·rename_i id
    split at h
    ·split at h
     ·rename_i i sz' α' f' xs' ho
      obtain⟨he,h⟩:=h
      obtain⟨A1,hA1,hio,hro⟩:=Gm regs vs B _ hR ho
      simp only[Af] at ha
      have hS:S=B:=FO (Hv hj ha.2.2)
      subst hS
      have hfr:=a0O (id:=0) (own':=true) hro
      have hzz:∀b,(Z b∧¬A1 b)→Z b:=fun b h=>h.1
      refine⟨fun b=>Z b∧¬A1 b,fun _=>False,S,regs,⟨Dj (JG hzz) (fun _ _=>rfl) _ _ _ hI (fun _ _=>rfl) hR,hI,?_,hzz,?_,?_,fun _ h=>h.elim,fun _ h=>h.elim,(fun hh=>by simp at hh),(fun _ _ h=>h.elim),(fun _=>rfl),h⟩⟩
      ·rw[ha.1];exact Mg he hfr
      ·intro b h1 h2
       exact Classical.byContradiction fun hn=>h2 ⟨h1,fun x=>hn (hA1 b x)⟩
      ·intro b hb;exact hb.resolve_left (fun x=>x)
     ·exact h.elim
    ·split at h
     ·rename_i i sz' α' f' xs' regs' ht
      obtain⟨he,h⟩:=h
      obtain⟨A1,B1,hj1,hio,hro,hrr⟩:=Gn regs vs B _ _ hR ht
      obtain⟨h1,h2,h3⟩:=Hb regs _ _ hI ht
      simp only[Af] at ha
      have hS:S=B:=FO (Hv hj ha.2.2)
      subst hS
      have hfr:=a0O (id:=0) (own':=true) hro
      have hzz:∀b,(Z b∧¬A1 b)→Z b:=fun b h=>h.1
      have hrr':=Dj (JG (w:=w) hzz) (fun _ _=>rfl) _ _ _ h3 (fun _ _=>rfl) hrr
      refine⟨fun b=>Z b∧¬A1 b,fun _=>False,B1,_,⟨No ?_ _ _ _ hrr',Np ?_ _ h3,?_,hzz,?_,?_,fun _ h=>h.elim,fun _ h=>h.elim,?_,(fun _ _ h=>h.elim),(fun hbw=>by cases hbw),h⟩⟩
      ·simp only[Af];exact⟨(fun o=>by cases o),hfr⟩
      ·simp only[Az];intro o;cases o
      ·rw[ha.1];exact Mg he hfr
      ·intro b h1 h2
       refine(hj1.1 b).2 (.inl ?_)
       exact Classical.byContradiction fun hn=>h2 ⟨h1,hn⟩
      ·intro b hb;exact(hj1.1 b).2 (.inr (hb.resolve_left (fun x=>x)))
      ·intro _ b hb hz;exact⟨hz,fun x=>hj1.2 b x hb⟩
     ·exact h.elim
   ·exact h.elim
 | .hole _,regs,a,K,h,Z,vs,v,B,A,S,hR,hI,ha,hai,hj=>by unfold Fe at h;exact h.elim
 | .al _,regs,a,K,h,Z,vs,v,B,A,S,hR,hI,ha,hai,hj=>by unfold Fe at h;exact h.elim
 | .po _ _ _ _,regs,a,K,h,Z,vs,v,B,A,S,hR,hI,ha,hai,hj=>by unfold Fe at h;exact h.elim
theorem HT{bw:Bool}{η:Nat→Value}{w:World}{n:Nat}:∀(es:List AV) (regs:List AV) (azs:List AV) (K:List AV→Prop),Ff bw es regs azs K→
 ∀(Z:FP) (vs:List Value) (us:List Value) (B A S:FP),Am Z η w regs vs B→AN n regs→Am Z η w azs us A→AN n azs→Bm S A B→
 ∃Z' A' B' regs',HOut bw Z η w n vs S A (fun Z' A'=>AU Z' w es us A') K regs Z' A' B' regs'
 |[],regs,azs,K,h,Z,vs,us,B,A,S,hR,hI,ha,hai,hj=>by
  unfold Ff at h
  split at h
  ·simp only[Am] at ha
   refine⟨_,_,_,_,HOut.same hj hR hI (fun _ h=>h) ?_ h⟩
   simp only[AU];exact ha
  ·exact h.elim
 |e::es,regs,azs,K,h,Z,vs,us,B,A,S,hR,hI,ha,hai,hj=>by
  unfold Ff at h
  split at h
  ·exact h.elim
  ·rename_i a azs
   simp only[Am] at ha
   simp only[AN] at hai
   obtain⟨v,us',A1,A2,eu,hj2,ha1,ha2⟩:=ha
   obtain⟨Z1,A1',B1',regs1,h1⟩:=a7m e regs a _ h Z vs v B A1 (fun x=>A1 x∨B x) hR hI ha1 hai.1
    ⟨fun _=>Cg,fun x p q=>hj.2 x ((hj2.1 x).2 (.inl p)) q⟩
   have ha2':=Dj (JG (w:=w) h1.zz) (fun _ _=>rfl) _ _ _ hai.2 (fun _ _=>rfl) ha2
   have hd:∀x,A2 x→¬(A1 x∨B x):=fun x p q=>q.elim (fun q=>hj2.2 x q p) (fun q=>hj.2 x ((hj2.1 x).2 (.inr p)) q)
   obtain⟨Z2,A2',B2',regs2,h2⟩:=HT es regs1 azs K h1.k Z1 vs us' B1' A2 (fun x=>A2 x∨B1' x) h1.rel h1.ids ha2' hai.2
    ⟨fun _=>Cg,fun x p q=>hd x p (h1.part x (.inr q))⟩
   have hsub:∀x,A1 x∨B x→S x:=fun x p=>(hj.1 x).2 (p.imp (fun p=>(hj2.1 x).2 (.inl p)) id)
   have hsub2:∀x,A2 x∨B1' x→S x:=fun x p=>p.elim (fun p=>(hj.1 x).2 (.inl ((hj2.1 x).2 (.inr p)))) (fun p=>hsub x (h1.part x (.inr p)))
   have hx:∀x,A1' x→¬(A2 x∨B1' x):=fun x p q=>q.elim (fun q=>hd x q (h1.part x (.inl p))) (fun q=>h1.dis x p q)
   refine⟨Z2,fun x=>A1' x∨A2' x,B2',regs2,⟨h2.rel,h2.ids,?_,fun b hb=>h1.zz b (h2.zz b hb),?_,?_,?_,?_,?_,?_,(fun hbw=>by rw[h2.fix hbw,h1.fix hbw]),h2.k⟩⟩
   ·simp only[AU]
    refine⟨v,us',A1',A2',eu,⟨fun _=>Cg,fun x p q=>hx x p (h2.part x (.inl q))⟩,?_,h2.got⟩
    exact Hw (JG h2.zz) _ _ _ (fun _ _=>rfl) h1.got
   ·intro b hz hz2
    by_cases hz1:Z1 b
    ·exact hsub2 b (h2.gone b hz1 hz2)
    ·exact hsub b (h1.gone b hz hz1)
   ·intro b hb
    rcases hb with(hb|hb)|hb
    ·exact hsub b (h1.part b (.inl hb))
    ·exact hsub2 b (h2.part b (.inl hb))
    ·exact hsub2 b (h2.part b (.inr hb))
   ·intro b hb hc
    rcases hb with hb|hb
    ·exact hx b hb (h2.part b (.inr hc))
    ·exact h2.dis b hb hc
   ·intro b hb hz
    rcases hb with hb|hb
    ·have hz1:=h1.ownA b hb hz
     exact Classical.byContradiction fun hn=>hx b hb (h2.gone b hz1 hn)
    ·have hz1:Z1 b:=Classical.byContradiction fun hn=>by
      have:=h1.gone b hz hn
      rcases Bool.eq_false_or_eq_true bw with hbw|hbw
      ·exact hd b (h2.stay hbw b hb) this
      ·rcases h2.part b (.inl hb) with hq|hq
       ·exact hd b hq this
       ·exact hn (h1.ownB hbw b hq hz)
     exact h2.ownA b hb hz1
   ·intro hbw b hb hz
    have hz1:Z1 b:=Classical.byContradiction fun hn=>by
     have:=h1.gone b hz hn
     rcases h2.part b (.inr hb) with hq|hq
     ·exact hd b hq this
     ·exact hn (h1.ownB hbw b hq hz)
    exact h2.ownB hbw b hb hz1
   ·intro hbw b hb
    rcases hb with hb|hb
    ·exact(hj2.1 b).2 (.inl (h1.stay hbw b hb))
    ·exact(hj2.1 b).2 (.inr (h2.stay hbw b hb))
end
mutual
def FR(n:Nat):AV→AV×Nat
 | .sl true _ sz α f xs=>(.sl true n sz α f xs,n+1)
 | .box _ c=>(.box n (CO (n+1) c).1,(CO (n+1) c).2)
 | .bv x c=>(.bv x (CO n c).1,(CO n c).2)
 | .agg fs=>(.agg (CO n fs).1,(CO n fs).2)
 | .tup fs=>(.tup (CO n fs).1,(CO n fs).2)
 | .clo fn fs=>(.clo fn (CO n fs).1,(CO n fs).2)
 |a=>(a,n)
def CO(n:Nat):List AV→List AV×Nat
 |[]=>([],n)
 |a::azs=>((FR n a).1::(CO (FR n a).2 azs).1,(CO (FR n a).2 azs).2)
end
mutual
theorem a7n{Z:FP}{w:World}:∀(a:AV) (n:Nat) (v:Value) (S:FP) (η:Nat→Value),Aj Z w a v S→
 n≤(FR n a).2∧Az (FR n a).2 (FR n a).1∧∃η':Nat→Value,(∀i,i<n→η' i=η i)∧(∀η'',(∀i,i<(FR n a).2→η'' i=η' i)→Af Z η'' w (FR n a).1 v S)
 | .sl true j sz α f xs,n,v,S,η,h=>by
   refine⟨Nf n,fun _=>Ng n,fun i=>if i=n then v else η i,fun i hi=>if_neg (by omega),fun η'' hη=> ?_⟩
   simp only[FR,Af]
   refine⟨fun _=> ?_,by simpa only[Aj] using h⟩
   rw[hη n (Ng n)];simp
 | .sl false j sz α f xs,n,v,S,η,h=>by
   refine⟨Bu n,(fun o=>by cases o),η,fun _ _=>rfl,fun η'' hη=> ?_⟩
   simp only[FR,Af]
   exact⟨(fun o=>by cases o),h⟩
 | .box j c,n,v,S,η,h=>by
   simp only[Aj] at h
   obtain⟨b,arr,ty,S1,e,hb,hr,hj⟩:=h
   obtain⟨h1,h2,η',h3,h4⟩:=Lk c (n+1) arr.toList S1 (fun i=>if i=n then v else η i) hr
   simp only[FR,Az]
   refine⟨by omega,⟨by omega,h2⟩,η',fun i hi=>by rw[h3 i (by omega),if_neg (by omega)],fun η'' hη=> ?_⟩
   simp only[Af]
   refine⟨?_,b,arr,ty,S1,e,hb,h4 η'' hη,hj⟩
   rw[hη n (by omega),h3 n (by omega)];simp
 | .bv x c,n,v,S,η,h=>by
   simp only[Aj] at h
   obtain⟨e0,b,arr,ty,S1,e,hb,hr,hj⟩:=h
   obtain⟨h1,h2,η',h3,h4⟩:=Lk c n arr.toList S1 η hr
   simp only[FR,Az]
   refine⟨h1,h2,η',h3,fun η'' hη=> ?_⟩
   simp only[Af];exact⟨e0,b,arr,ty,S1,e,hb,h4 η'' hη,hj⟩
 | .hv _,n,v,S,η,h=>⟨Bu n,trivial,η,fun _ _=>rfl,fun _ _=>h⟩
 | .agg fs,n,v,S,η,h=>by
   simp only[Aj] at h
   obtain⟨cs,e,hr⟩:=h
   obtain⟨h1,h2,η',h3,h4⟩:=Lk fs n cs S η hr
   simp only[FR,Az]
   refine⟨h1,h2,η',h3,fun η'' hη=> ?_⟩
   simp only[Af];exact⟨cs,e,h4 η'' hη⟩
 | .tup fs,n,v,S,η,h=>by
   simp only[Aj] at h
   obtain⟨cs,e,hr⟩:=h
   obtain⟨h1,h2,η',h3,h4⟩:=Lk fs n cs S η hr
   simp only[FR,Az]
   refine⟨h1,h2,η',h3,fun η'' hη=> ?_⟩
   simp only[Af];exact⟨cs,e,h4 η'' hη⟩
 | .clo fn fs,n,v,S,η,h=>by
   simp only[Aj] at h
   obtain⟨cs,e,hr⟩:=h
   obtain⟨h1,h2,η',h3,h4⟩:=Lk fs n cs S η hr
   simp only[FR,Az]
   refine⟨h1,h2,η',h3,fun η'' hη=> ?_⟩
   simp only[Af];exact⟨cs,e,h4 η'' hη⟩
 | .int _ _,n,v,S,η,h=>⟨Bu n,trivial,η,fun _ _=>rfl,fun _ _=>h⟩
 | .bool _,n,v,S,η,h=>⟨Bu n,trivial,η,fun _ _=>rfl,fun _ _=>h⟩
 | .str _,n,v,S,η,h=>⟨Bu n,trivial,η,fun _ _=>rfl,fun _ _=>h⟩
 | .val _,n,v,S,η,h=>⟨Bu n,trivial,η,fun _ _=>rfl,fun _ _=>h⟩
 | .any,n,v,S,η,h=>⟨Bu n,trivial,η,fun _ _=>rfl,fun _ _=>h⟩
 | .top,n,v,S,η,h=>⟨Bu n,trivial,η,fun _ _=>rfl,fun _ _=>h⟩
 | .nil,n,v,S,η,h=>⟨Bu n,trivial,η,fun _ _=>rfl,fun _ _=>h⟩
 | .pf _,n,v,S,η,h=>⟨Bu n,trivial,η,fun _ _=>rfl,fun _ _=>h⟩
 | .hole _,n,v,S,η,h=>h.elim
 | .al _,n,v,S,η,h=>h.elim
 | .po _ _ _ _,n,v,S,η,h=>h.elim
theorem Lk{Z:FP}{w:World}:∀(azs:List AV) (n:Nat) (cs:List Value) (S:FP) (η:Nat→Value),AU Z w azs cs S→
 n≤(CO n azs).2∧AN (CO n azs).2 (CO n azs).1∧∃η':Nat→Value,(∀i,i<n→η' i=η i)∧(∀η'',(∀i,i<(CO n azs).2→η'' i=η' i)→Am Z η'' w (CO n azs).1 cs S)
 |[],n,cs,S,η,h=>⟨Bu n,trivial,η,fun _ _=>rfl,fun _ _=>h⟩
 |a::azs,n,cs,S,η,h=>by
  simp only[AU] at h
  obtain⟨v,cs',A,B,e,hj,h1,h2⟩:=h
  obtain⟨a1,a2,η1,a3,a4⟩:=a7n a n v A η h1
  obtain⟨b1,b2,η2,b3,b4⟩:=Lk azs (FR n a).2 cs' B η1 h2
  simp only[CO,AN]
  refine⟨by omega,⟨a6G b1 _ a2,b2⟩,η2,fun i hi=>by rw[b3 i (by omega),a3 i hi],fun η'' hη=> ?_⟩
  simp only[Am]
  exact⟨v,cs',A,B,e,hj,a4 η'' (fun i hi=>by rw[hη i (by omega),b3 i hi]),b4 η'' hη⟩
end
mutual
def Nq:AV→Prop
 | .sl true _ _ _ f _=>∀x,Kn (f x)
 | .sl false _ _ _ _ _=>False
 | .pf _=>False
 | .box _ c=>Kn c
 | .bv _ c=>Kn c
 | .agg fs=>Kn fs
 | .tup fs=>Kn fs
 | .clo _ fs=>Kn fs
 |_=>True
def Kn:List AV→Prop
 |[]=>True
 |a::azs=>Nq a∧Kn azs
end
mutual
theorem b6K{Z Z':FP}{w:World}:∀(a:AV) (v:Value) (S:FP),Nq a→Aj Z w a v S→Aj Z' w a v S
 | .sl true j sz α f xs,v,S,hc,h=>by
   simp only[Aj] at h ⊢
   simp only[Nq] at hc
   obtain⟨a,n,c,e,hn,hcc,h⟩:=h
   refine⟨a,n,c,e,hn,hcc,?_⟩
   rcases h with⟨ho,h⟩|⟨ho,_⟩
   ·refine .inl ⟨ho,?_⟩
    rcases h with h|⟨b,off,arr,ty,S1,ha,hb,hsz,hr,hj⟩
    ·exact .inl h
    ·exact .inr ⟨b,off,arr,ty,S1,ha,hb,hsz,Lh xs _ S1 (fun x cs A hA hx=>Nr (f x) cs A (hc x) hx) hr,hj⟩
   ·cases ho
 | .sl false j sz α f xs,v,S,hc,h=>hc.elim
 | .pf _,v,S,hc,h=>hc.elim
 | .box j c,v,S,hc,h=>by
   simp only[Aj] at h ⊢
   simp only[Nq] at hc
   obtain⟨b,arr,ty,S1,e,hb,hr,hj⟩:=h
   exact⟨b,arr,ty,S1,e,hb,Nr c _ S1 hc hr,hj⟩
 | .bv _ c,v,S,hc,h=>by
   simp only[Aj] at h ⊢
   simp only[Nq] at hc
   obtain⟨e0,b,arr,ty,S1,e,hb,hr,hj⟩:=h
   exact⟨e0,b,arr,ty,S1,e,hb,Nr c _ S1 hc hr,hj⟩
 | .hv _,v,S,hc,h=>h
 | .agg fs,v,S,hc,h=>by
   simp only[Aj] at h ⊢;simp only[Nq] at hc
   obtain⟨cs,e,hr⟩:=h;exact⟨cs,e,Nr fs cs S hc hr⟩
 | .tup fs,v,S,hc,h=>by
   simp only[Aj] at h ⊢;simp only[Nq] at hc
   obtain⟨cs,e,hr⟩:=h;exact⟨cs,e,Nr fs cs S hc hr⟩
 | .clo fn fs,v,S,hc,h=>by
   simp only[Aj] at h ⊢;simp only[Nq] at hc
   obtain⟨cs,e,hr⟩:=h;exact⟨cs,e,Nr fs cs S hc hr⟩
 | .int _ _,v,S,hc,h=>h
 | .bool _,v,S,hc,h=>h
 | .str _,v,S,hc,h=>h
 | .val _,v,S,hc,h=>h
 | .any,v,S,hc,h=>h
 | .top,v,S,hc,h=>h
 | .nil,v,S,hc,h=>h
 | .hole _,v,S,hc,h=>h
 | .al _,v,S,hc,h=>h
 | .po _ _ _ _,v,S,hc,h=>h
theorem Nr{Z Z':FP}{w:World}:∀(azs:List AV) (cs:List Value) (S:FP),Kn azs→AU Z w azs cs S→AU Z' w azs cs S
 |[],cs,S,hc,h=>h
 |a::azs,cs,S,hc,h=>by
  simp only[AU] at h ⊢;simp only[Kn] at hc
  obtain⟨v,cs',A,B,e,hj,h1,h2⟩:=h
  exact⟨v,cs',A,B,e,hj,b6K a v A hc.1 h1,Nr azs cs' B hc.2 h2⟩
end
structure Sig:Type 1 where
 X:Type
 args:X→List AV
 pre:X→Prop
 Y:Type
 post:X→Y→Prop
 res:X→Y→AV
 outs:X→Y→List AV
 keep:Bool
 fixed:List Nat:=[]
 caps:List (Nat×Fn×Nat):=[]
def Ns:List (Nat×Fn×Nat)→List Value→Prop
 |[],_=>True
 |(p,fn,j)::l,vs=>(∃v,vs[p]? =some (HS fn [v])∧vs[j]? =some v)∧Ns l vs
structure After (Z:FP) (w:World) (A:FP) (Z':FP) (w':World) (A':FP):Prop where
 os:w'.os=w.os
 tape:w'.tape=w.tape
 output:w'.output=w.output
 size:w.heap.size≤w'.heap.size
 old:∀b,b<w.heap.size→¬A b→w'.heap[b]? =w.heap[b]? ∧(Z' b↔Z b)
 own:∀b,A' b→Z' b∧b<w'.heap.size∧(b<w.heap.size→A b)
def a0P(keep:Bool)(p:Prop):Prop:=match keep with
 |true=>True
 |false=>p
def b6L(S:Sig):Prop:=∀x y,S.pre x→S.post x y→a0P S.keep (Kn (S.res x y::S.outs x y))
def Eb(G:GInv)(P:Program)(f:FuncId)(S:Sig):Prop:=
 ((∃fn,P.funcs[f]? =some fn∧(fn.name== "runtime.NumGoroutine")=false∧fn.body.isNone=false)∧b6L S)∧
 ∀x,S.pre x→∀Z w vals A,G.p Z w→AU Z w (S.args x) vals A→(∀b,A b→Z b∧b<w.heap.size)→Ns S.caps vals→
  Calls P f vals.toArray w fun e w'=>∃y v Z' A',S.post x y∧e= .returned v∧AU Z' w' (S.res x y::S.outs x y) (v::vals) A'∧After Z w A Z' w' A'
def b6M:AV→Bool
 | .sl true _ _ _ _ _=>true
 |_=>false
def b6N:List AV→Bool
 |[]=>false
 |a::_=>b6M a
def a0Q:AV→Bool
 | .sl true _ _ _ _ _=>true
 | .box _ _=>true
 | .bv _ _=>true
 | .agg l=>b6N l
 |_=>false
def a0R(e:AV):AV:=match a0Q e with|true=>e|false=> .top
def a0S(e:AV):AV:=match a0Q e with|true=> .top|false=>e
theorem a7o{Z:FP}{w:World}:∀(es:List AV) (cs:List Value) (A B S:FP),AU Z w (es.map a0R) cs A→AU Z w (es.map a0S) cs B→Bm S A B→AU Z w es cs S
 |[],cs,A,B,S,h1,h2,hs=>by
  simp only[List.map,AU] at h1 h2 ⊢
  exact⟨h1.1,fun b hb=>((hs.1 b).1 hb).elim (h1.2 b) (h2.2 b)⟩
 |e::es,cs,A,B,S,h1,h2,hs=>by
  simp only[List.map,AU] at h1 h2 ⊢
  obtain⟨v,cs',A1,B1,e1,hj,h3,h4⟩:=h1
  obtain⟨v',cs'',A2,B2,e2,hj2,h5,h6⟩:=h2
  rw[e1] at e2
  simp only[HQ] at e2
  obtain⟨rfl,rfl⟩:=e2
  have hd:∀b,A1 b∨B1 b→¬(A2 b∨B2 b):=fun b x y=>hs.2 b ((hj.1 b).2 x) ((hj2.1 b).2 y)
  refine⟨v,cs',fun b=>A1 b∨A2 b,fun b=>B1 b∨B2 b,e1,⟨fun b=> ?_,fun b x y=> ?_⟩,?_,a7o es cs' B1 B2 _ h4 h6 ⟨fun _=>Cg,fun b x y=>hd b (.inr x) (.inr y)⟩⟩
  ·rw[hs.1 b,hj.1 b,hj2.1 b]
   exact⟨fun h=>h.elim (fun h=>h.elim (fun h=> .inl (.inl h)) (fun h=> .inr (.inl h))) (fun h=>h.elim (fun h=> .inl (.inr h)) (fun h=> .inr (.inr h))),
    fun h=>h.elim (fun h=>h.elim (fun h=> .inl (.inl h)) (fun h=> .inr (.inl h))) (fun h=>h.elim (fun h=> .inl (.inr h)) (fun h=> .inr (.inr h)))⟩
  ·rcases x with x|x<;>rcases y with y|y
   ·exact hj.2 b x y
   ·exact hd b (.inl x) (.inr y)
   ·exact hd b (.inr y) (.inl x)
   ·exact hj2.2 b x y
  ·unfold a0R a0S at*
   cases hm:a0Q e
   ·rw[hm] at h3 h5
    simp only[Aj] at h3
    have:(fun b=>A1 b∨A2 b)=A2:=FO (fun b=>⟨fun h=>h.elim (fun h=>(h3 b h).elim) id,.inr⟩)
    rw[this];exact h5
   ·rw[hm] at h3 h5
    simp only[Aj] at h5
    have:(fun b=>A1 b∨A2 b)=A1:=FO (fun b=>⟨fun h=>h.elim id (fun h=>(h5 b h).elim),.inl⟩)
    rw[this];exact h3
def Nt(regs:List AV):List AV→List AV→(List AV→Prop)→Prop
 |[],[],K=>K regs
 |a::azs,o::os,K=>match o with
  | .top=>Nt regs azs os K
  | .sl true _ sz α f xs=>match a with
    | .al id=>match Fy id (.sl true id sz α f xs) regs with
      |some regs'=>Nt regs' azs os K
      |none=>False
    |_=>False
  |_=>False
 |_,_,_=>False
theorem a0T{Z:FP}{w:World}{η:Nat→Value}{vs:List Value}{nx:Nat}{K:List AV→Prop}:∀(azs os:List AV) (regs:List AV),Nt regs azs os K→
 ∀(us:List Value) (B A S:FP),Am Z η w regs vs B→AN nx regs→Am Z η w azs us (fun _=>False)→AN nx azs→
 AU Z w os us A→Bm S A B→∃regs',K regs'∧AN nx regs'∧Am Z η w regs' vs S
 |[],[],regs,h,us,B,A,S,hR,hI,ha,hai,ho,hj=>by
  simp only[Nt] at h
  simp only[AU] at ho
  exact⟨regs,h,hI,by rw[show S=B from FO (Hv hj ho.2)];exact hR⟩
 |[],_::_,regs,h,us,B,A,S,hR,hI,ha,hai,ho,hj=>by simp [Nt] at h
 |_::_,[],regs,h,us,B,A,S,hR,hI,ha,hai,ho,hj=>by simp [Nt] at h
 |a::azs,o::os,regs,h,us,B,A,S,hR,hI,ha,hai,ho,hj=>by
  simp only[AU] at ho
  obtain⟨v,us',A1,A2,eu,hj2,ho1,ho2⟩:=ho
  subst eu
  simp only[AN] at hai
  simp only[Am] at ha
  obtain⟨v0,us0,B1,B2,eu0,hj0,ha1,ha2⟩:=ha
  simp only[HQ] at eu0
  obtain⟨rfl,rfl⟩:=eu0
  rw[Fx (Jv hj0 AI).1] at ha1
  rw[Fx (Jv hj0 AI).2] at ha2
  have hjj:Bm S A2 (fun x=>A1 x∨B x):=by
   refine⟨fun x=> ?_,fun x p q=>q.elim (fun q=>hj2.2 x q p) (fun q=>hj.2 x ((hj2.1 x).2 (.inr p)) q)⟩
   rw[hj.1 x,hj2.1 x]
   exact⟨fun h=>h.elim (fun h=>h.elim (fun h=> .inr (.inl h)) .inl) (fun h=> .inr (.inr h)),fun h=>h.elim (fun h=> .inl (.inr h)) (fun h=>h.elim (fun h=> .inl (.inl h)) .inr)⟩
  have hjB:Bm (fun x=>A1 x∨B x) A1 B:=⟨fun _=>Cg,fun x p q=>hj.2 x ((hj2.1 x).2 (.inl p)) q⟩
  unfold Nt at h
  split at h
  ·simp only[Aj] at ho1
   exact a0T azs os regs h us' B A S hR hI ha2 hai.2 (by rw[show A=A2 from FO (Hv hj2 ho1)];exact ho2) hj
  ·rename_i j sz α f xs
   split at h
   ·rename_i id
    split at h
    ·rename_i regs1 hpl
     have hid:id<nx:=hai.1
     have hv:v=η id:=by simp only[Af] at ha1;exact ha1.1
     have hown:Af Z η w (.sl true id sz α f xs) (η id) A1:=by
      simp only[Af]
      refine⟨fun _=>trivial,?_⟩
      rw[←hv];exact ho1
     have hpg:=JC hown regs vs B (fun x=>A1 x∨B x) regs1 hR hjB hpl
     have hids1:AN nx regs1:=JD (by simp only[Az];exact fun _=>hid) _ _ hI hpl
     exact a0T azs os regs1 h us' _ A2 S hpg hids1 ha2 hai.2 ho2 hjj
    ·exact h.elim
   ·exact h.elim
  ·exact h.elim
def IB(regs:List AV)(nx:Nat):List AV→List AV→(List AV→Nat→Prop)→Prop
 |[],[],K=>K regs nx
 |a::azs,o::os,K=>match o with
  | .top=>IB regs nx azs os K
  | .box _ c=>match a with
    | .al id=>match Fy id (.box id (CO nx c).1) regs with
      |some regs'=>IB regs' (CO nx c).2 azs os K
      |none=>False
    | .val v=>match IA (CO nx c).1 regs with
      |some (x,regs')=>x=v∧IB regs' (CO nx c).2 azs os K
      |none=>False
    |_=>False
  | .bv _ c=>match a with
    | .val v=>match IA (CO nx c).1 regs with
      |some (x,regs')=>x=v∧IB regs' (CO nx c).2 azs os K
      |none=>False
    |_=>False
  | .sl true _ sz α f xs=>match a with
    | .al id=>match Fy id (.sl true id sz α f xs) regs with
      |some regs'=>IB regs' nx azs os K
      |none=>False
    |_=>False
  | .agg c=>match a with
    | .agg c'=>Nt regs c' c fun regs'=>IB regs' nx azs os K
    |_=>False
  |_=>False
 |_,_,_=>False
theorem QX{Z:FP}{w:World}{K:List AV→Nat→Prop}:∀(azs os:List AV) (regs:List AV) (nx:Nat),IB regs nx azs os K→
 ∀(η:Nat→Value) (vs us:List Value) (B A S:FP),Am Z η w regs vs B→AN nx regs→Am Z η w azs us (fun _=>False)→AN nx azs→
 AU Z w os us A→Bm S A B→
 ∃regs' nx',K regs' nx'∧nx≤nx'∧AN nx' regs'∧∃η':Nat→Value,(∀i,i<nx→η' i=η i)∧Am Z η' w regs' vs S
 |[],[],regs,nx,h,η,vs,us,B,A,S,hR,hI,ha,hai,ho,hj=>by
  simp only[IB] at h
  simp only[AU] at ho
  refine⟨regs,nx,h,Bu _,hI,η,fun _ _=>rfl,?_⟩
  rw[show S=B from FO (Hv hj ho.2)];exact hR
 |[],_::_,regs,nx,h,η,vs,us,B,A,S,hR,hI,ha,hai,ho,hj=>by simp [IB] at h
 |_::_,[],regs,nx,h,η,vs,us,B,A,S,hR,hI,ha,hai,ho,hj=>by simp [IB] at h
 |a::azs,o::os,regs,nx,h,η,vs,us,B,A,S,hR,hI,ha,hai,ho,hj=>by
  simp only[AU] at ho
  obtain⟨v,us',A1,A2,eu,hj2,ho1,ho2⟩:=ho
  subst eu
  simp only[AN] at hai
  simp only[Am] at ha
  obtain⟨v0,us0,B1,B2,eu0,hj0,ha1,ha2⟩:=ha
  simp only[HQ] at eu0
  obtain⟨rfl,rfl⟩:=eu0
  rw[Fx (Jv hj0 AI).1] at ha1
  rw[Fx (Jv hj0 AI).2] at ha2
  have hjj:Bm S A2 (fun x=>A1 x∨B x):=by
   refine⟨fun x=> ?_,fun x p q=>q.elim (fun q=>hj2.2 x q p) (fun q=>hj.2 x ((hj2.1 x).2 (.inr p)) q)⟩
   rw[hj.1 x,hj2.1 x]
   exact⟨fun h=>h.elim (fun h=>h.elim (fun h=> .inr (.inl h)) .inl) (fun h=> .inr (.inr h)),fun h=>h.elim (fun h=> .inl (.inr h)) (fun h=>h.elim (fun h=> .inl (.inl h)) .inr)⟩
  have hjB:Bm (fun x=>A1 x∨B x) A1 B:=⟨fun _=>Cg,fun x p q=>hj.2 x ((hj2.1 x).2 (.inl p)) q⟩
  have vcase:∀(c:List AV) (u x:Value) (regs1:List AV),a= .val u→(∃b arr ty S1,v= .pointer (some ⟨b,0,none⟩)∧w.heap[b]? =some (.cells arr ty (0,0))∧AU Z w c arr.toList S1∧Bm A1 (one b) S1)→
   IA (CO nx c).1 regs=some (x,regs1)→x=u→IB regs1 (CO nx c).2 azs os K→
   ∃regs' nx',K regs' nx'∧nx≤nx'∧AN nx' regs'∧∃η':Nat→Value,(∀i,i<nx→η' i=η i)∧Am Z η' w regs' vs S:=by
   intro c u x regs1 hau hbx hpl hxu hk
   subst hau;subst hxu
   obtain⟨b,arr,ty,S1,e,hb,hr,hj3⟩:=hbx
   obtain⟨h1,h2,η1,h3,h4⟩:=Lk c nx arr.toList S1 η hr
   have hv:v=x:=by simp only[Af,Aj] at ha1;exact ha1.1
   have hbox:Af Z η1 w (.bv x (CO nx c).1) x A1:=by
    simp only[Af]
    refine⟨trivial,b,arr,ty,S1,?_,hb,h4 η1 (fun _ _=>rfl),hj3⟩
    rw[←hv];exact e
   have hR1:=Dj (n:=nx) (Z':=Z) (w':=w) (fun b hb _=>⟨hb,rfl⟩) h3 _ _ _ hI (fun _ _=>rfl) hR
   have hpg:=TA regs vs B (fun x=>A1 x∨B x) x regs1 hR1 hjB hpl hbox
   have hids1:AN (CO nx c).2 regs1:=TB h2 _ _ _ (GZ h1 _ hI) hpl
   obtain⟨regs',nx',g0,g1,g2,η2,g3,g4⟩:=QX azs os regs1 _ hk η1 vs us' _ A2 S hpg hids1 (Dj (n:=nx) (Z':=Z) (w':=w) (fun b hb _=>⟨hb,rfl⟩) h3 _ _ _ hai.2 (fun _ _=>rfl) ha2) (GZ h1 _ hai.2) ho2 hjj
   exact⟨regs',nx',g0,by omega,g2,η2,fun i hi=>by rw[g3 i (by omega),h3 i hi],g4⟩
  unfold IB at h
  split at h
  ·simp only[Aj] at ho1
   exact QX azs os regs nx h η vs us' B A S hR hI ha2 hai.2 (by rw[show A=A2 from FO (Hv hj2 ho1)];exact ho2) hj
  ·rename_i j c
   split at h
   ·rename_i id
    split at h
    ·rename_i regs1 hpl
     simp only[Aj] at ho1
     obtain⟨b,arr,ty,S1,e,hb,hr,hj3⟩:=ho1
     obtain⟨h1,h2,η1,h3,h4⟩:=Lk c nx arr.toList S1 η hr
     have hid:id<nx:=hai.1
     have hv:v=η id:=by simp only[Af] at ha1;exact ha1.1
     have hbox:Af Z η1 w (.box id (CO nx c).1) (η1 id) A1:=by
      simp only[Af]
      refine⟨trivial,b,arr,ty,S1,?_,hb,h4 η1 (fun _ _=>rfl),hj3⟩
      rw[h3 id hid,←hv];exact e
     have hR1:=Dj (n:=nx) (Z':=Z) (w':=w) (fun b hb _=>⟨hb,rfl⟩) h3 _ _ _ hI (fun _ _=>rfl) hR
     have hpg:=JC hbox regs vs B (fun x=>A1 x∨B x) regs1 hR1 hjB hpl
     have hids1:AN (CO nx c).2 regs1:=JD (by simp only[Az];exact⟨by omega,h2⟩) _ _ (GZ h1 _ hI) hpl
     obtain⟨regs',nx',g0,g1,g2,η2,g3,g4⟩:=QX azs os regs1 _ h η1 vs us' _ A2 S hpg hids1 (Dj (n:=nx) (Z':=Z) (w':=w) (fun b hb _=>⟨hb,rfl⟩) h3 _ _ _ hai.2 (fun _ _=>rfl) ha2) (GZ h1 _ hai.2) ho2 hjj
     exact⟨regs',nx',g0,by omega,g2,η2,fun i hi=>by rw[g3 i (by omega),h3 i hi],g4⟩
    ·exact h.elim
   ·rename_i u
    split at h
    ·rename_i x regs1 hpl
     simp only[Aj] at ho1
     exact vcase c u x regs1 rfl ho1 hpl h.1 h.2
    ·exact h.elim
   ·exact h.elim
  ·rename_i y c
   split at h
   ·rename_i u
    split at h
    ·rename_i x regs1 hpl
     simp only[Aj] at ho1
     exact vcase c u x regs1 rfl ho1.2 hpl h.1 h.2
    ·exact h.elim
   ·exact h.elim
  ·rename_i j sz α f xs
   split at h
   ·rename_i id
    split at h
    ·rename_i regs1 hpl
     have hid:id<nx:=hai.1
     have hv:v=η id:=by simp only[Af] at ha1;exact ha1.1
     have hown:Af Z η w (.sl true id sz α f xs) (η id) A1:=by
      simp only[Af]
      refine⟨fun _=>trivial,?_⟩
      rw[←hv];exact ho1
     have hpg:=JC hown regs vs B (fun x=>A1 x∨B x) regs1 hR hjB hpl
     have hids1:AN nx regs1:=JD (by simp only[Az];exact fun _=>hid) _ _ hI hpl
     exact QX azs os regs1 nx h η vs us' _ A2 S hpg hids1 ha2 hai.2 ho2 hjj
    ·exact h.elim
   ·exact h.elim
  ·rename_i c
   split at h
   ·rename_i c'
    simp only[Aj] at ho1
    simp only[Af] at ha1
    obtain⟨cs,e1,ho1⟩:=ho1
    obtain⟨cs',e2,ha1⟩:=ha1
    rw[e1] at e2
    cases e2
    obtain⟨regs1,hk,hids1,hpg⟩:=a0T c' c regs h cs B A1 _ hR hI ha1 hai.1 ho1 hjB
    exact QX azs os regs1 nx hk η vs us' _ A2 S hpg hids1 ha2 hai.2 ho2 hjj
   ·exact h.elim
  ·exact h.elim
theorem Wd{Z:FP}{η:Nat→Value}{w:World}:∀(azs:List AV) (vs:List Value) (A:FP) (p:Nat) (a:AV),Am Z η w azs vs A→azs[p]? =some a→∃v B,vs[p]? =some v∧Af Z η w a v B
 |[],vs,A,p,a,h,ha=>by simp at ha
 |x::azs,vs,A,p,a,h,ha=>by
  simp only[Am] at h
  obtain⟨v,cs',A1,B1,rfl,hj,h1,h2⟩:=h
  cases p with
  |zero=>simp at ha;subst ha;exact⟨v,A1,by simp,h1⟩
  |succ p=>
   simp only[List.getElem?_cons_succ] at ha ⊢
   exact Wd azs cs' B1 p a h2 ha
def We:List (Nat×Fn×Nat)→List AV→Prop
 |[],_=>True
 |(p,fn,j)::l,azs=>(match azs[p]?,azs[j]? with
    |some (.clo fn' [.al id]),some (.al id')=>match TC fn' fn,Nat.beq id id' with
     |true,true=>True
     |_,_=>False
    |_,_=>False)∧We l azs
theorem a7p{Z:FP}{η:Nat→Value}{w:World}{azs:List AV}{us:List Value}{A:FP}(hr:Am Z η w azs us A):∀l,We l azs→Ns l us
 |[],_=>trivial
 |(p,fn,j)::l,h=>by
  obtain⟨h1,h2⟩:=h
  refine⟨?_,a7p hr l h2⟩
  split at h1
  ·rename_i fn' id id' e1 e2
   split at h1
   ·rename_i q1 q2
    have q1:=a0N q1;have q2:=Cj q2
    subst q1;subst q2
    obtain⟨v,B,g1,g2⟩:=Wd _ _ _ _ _ hr e1
    obtain⟨u,B',g3,g4⟩:=Wd _ _ _ _ _ hr e2
    simp only[Af,Am] at g2 g4
    obtain⟨cs,rfl,v',cs',A',B'',rfl,_,⟨rfl,_,_⟩,rfl,_⟩:=g2
    obtain⟨rfl,_,_⟩:=g4
    exact⟨_,g1,g3⟩
   ·exact h1.elim
  ·exact h1.elim
def a0U(S:Sig)(s:St)(dst:Option Nat)(args:List AV)(K:St→Prop):Prop:=
 ∃x:S.X,S.pre x∧Ff false ((S.args x).map a0R) s.regs args fun r1=>
  Ff (!S.keep) ((S.args x).map a0S) r1 args fun r2=>
   ∀y,S.post x y→IB r2 s.nx args (S.outs x y) fun r3 n3=>K ⟨setR r3 dst (FR n3 (S.res x y)).1,(FR n3 (S.res x y)).2⟩
def TD(S:Sig)(s:St)(dst:Option Nat)(args:List AV)(K:St→Prop):Prop:=match S.caps with
 |[]=>a0U S s dst args K
 |c::cs=>We (c::cs) args∧a0U S s dst args K
theorem b6O{S:Sig}{s:St}{dst:Option Nat}{args:List AV}{K:St→Prop}(h:TD S s dst args K):(match S.caps with|[]=>True|c::cs=>We (c::cs) args)∧a0U S s dst args K:=by
 unfold TD at h
 cases hc:S.caps with
 |nil=>rw[hc] at h;exact⟨trivial,h⟩
 |cons c cs=>rw[hc] at h;exact h
theorem a7q{f:FuncId}{S:Sig}{C:Ctx}(hc:Eb C.G P f S){s:St}{dst:Option Nat}{args:List AV}{K:St→Prop}(h:TD S s dst args K)
    {T:FP} (hi:Inst C s a w η Z T) {us:List Value} (ha:Am Z η w args us (fun _=>False)) (hai:AN s.nx args):
 Calls P f us.toArray w fun e w'=>∃v s',e= .returned v∧K s'∧Rel C s' (a.put dst v) w':=by
 obtain⟨hcaps,x,hpre,h⟩:=b6O h
 have hcaps:Ns S.caps us:=by
  refine a7p ha _ ?_
  cases hcc:S.caps with
  |nil=>trivial
  |cons c cs=>rw[hcc] at hcaps;exact hcaps
 obtain⟨Z1,A1,B1,r1,h1⟩:=HT _ s.regs args _ h Z a.tmps.toList us T (fun _=>False) T hi.rel hi.ids ha hai (Cu T)
 have ha1:=Dj (JG (w:=w) h1.zz) (fun _ _=>rfl) _ _ _ hai (fun _ _=>rfl) ha
 obtain⟨Z2,A2,B2,r2,h2⟩:=HT _ r1 args _ h1.k Z1 a.tmps.toList us B1 (fun _=>False) B1 h1.rel h1.ids ha1 hai (Cu B1)
 have h12:=Ea (JG (w:=w) h2.zz) _ _ _ (fun _ _=>rfl) h1.got
 have hTZ:∀b,T b→Z b:=fun b hb=>(hi.own b hb).1
 have hA1T:∀b,A1 b→T b:=fun b hb=>h1.part b (.inl hb)
 have hB1T:∀b,B1 b→T b:=fun b hb=>h1.part b (.inr hb)
 have hA2B:∀b,A2 b→B1 b:=fun b hb=>h2.part b (.inl hb)
 have hB2B:∀b,B2 b→B1 b:=fun b hb=>h2.part b (.inr hb)
 have hB1Z:∀b,B1 b→Z1 b:=fun b hb=>h1.ownB rfl b hb (hTZ b (hB1T b hb))
 have hA1Z1:∀b,A1 b→Z1 b:=fun b hb=>h1.ownA b hb (hTZ b (hA1T b hb))
 have hA1Z:∀b,A1 b→Z2 b:=fun b hb=>Classical.byContradiction fun hn=>h1.dis b hb (h2.gone b (hA1Z1 b hb) hn)
 have hA2Z:∀b,A2 b→Z2 b:=fun b hb=>h2.ownA b hb (hB1Z b (hA2B b hb))
 have hjA:Bm (fun b=>A1 b∨A2 b) A1 A2:=⟨fun _=>Cg,fun b x y=>h1.dis b x (hA2B b y)⟩
 have hargs:=a7o _ _ _ _ _ h12 h2.got hjA
 have hAZ:∀b,A1 b∨A2 b→Z2 b∧b<w.heap.size:=fun b hb=>
  ⟨hb.elim (hA1Z b) (hA2Z b),(hi.own b (hb.elim (hA1T b) (fun h=>hB1T b (hA2B b h)))).2.1⟩
 refine(hc.2 x hpre Z2 w us _ (C.G.mono _ _ _ _ (fun b hb _=>⟨fun x=>hb (h1.zz b (h2.zz b x)),rfl⟩) hi.ok.glob) hargs hAZ hcaps).mono ?_
 rintro e w' ⟨y,v,Z',A',hpost,rfl,hres,haft⟩
 have hk:=h2.k y hpost;have hkeep:=hc.1.2 x y hpre hpost
 obtain⟨Zr,B,hrB,hrI,hZr,hBA,hBT,hBB⟩:∃Zr B,Am Zr η w r2 a.tmps.toList B∧AN s.nx r2∧(∀b,¬Zr b→b<w.heap.size→¬(A1 b∨A2 b)∧¬B b∧¬Z2 b)∧
  (∀b,B b→¬(A1 b∨A2 b))∧(∀b,B b→T b)∧(S.keep=true→∀b,B b→Z2 b):=by
  rcases Bool.eq_false_or_eq_true S.keep with hk|hk
  ·refine⟨Z2,B2,h2.rel,h2.ids,fun b hz hb=>⟨fun x=>hz (hAZ b x).1,fun x=> ?_,hz⟩,fun b hb x=> ?_,fun b hb=>hB1T b (hB2B b hb),fun _ b hb=> ?_⟩
   ·exact hz (h2.ownB (by simp [hk]) b x (hB1Z b (hB2B b x)))
   ·exact x.elim (fun x=>h1.dis b x (hB2B b hb)) (fun x=>h2.dis b x hb)
   ·exact h2.ownB (by simp [hk]) b hb (hB1Z b (hB2B b hb))
  ·have hfix:=h2.fix (by simp [hk])
   have hA2e:∀b,¬A2 b:=fun b hb=>h2.stay (by simp [hk]) b hb
   refine⟨Z1,B1,by rw[hfix];exact h1.rel,h2.ids,fun b hz hb=>⟨fun x=>hz (h2.zz b (hAZ b x).1),fun x=>hz (hB1Z b x),fun x=>hz (h2.zz b x)⟩,fun b hb x=> ?_,hB1T,fun hh=> ?_⟩
   ·exact x.elim (fun x=>h1.dis b x hb) (hA2e b)
   ·rw[hk] at hh;cases hh
 let Zc:FP:=fun b=>Z' b∨B b
 have hold:∀b,b<w.heap.size→¬(A1 b∨A2 b)→w'.heap[b]? =w.heap[b]? ∧(Z' b↔Z2 b):=haft.old
 have hr2:Am Zc η w' r2 a.tmps.toList B:=by
  refine Dj (n:=s.nx) (fun b hz hb=> ?_) (fun _ _=>rfl) _ _ _ hrI (fun b hb=> ?_) hrB
  ·obtain⟨g1,g2,g3⟩:=hZr b hz hb
   obtain⟨g4,g5⟩:=hold b hb g1
   exact⟨fun x=>x.elim (fun x=>g3 (g5.1 x)) g2,g4⟩
  ·exact(hold b (hi.own b (hBT b hb)).2.1 (hBA b hb)).1
 have hargs':Am Zc η w' args us (fun _=>False):=by
  refine Dj (n:=s.nx) (fun b hz hb=> ?_) (fun _ _=>rfl) _ _ _ hai (fun b hb=>hb.elim) ha
  have g1:¬(A1 b∨A2 b):=fun x=>hz (h1.zz b (h2.zz b (hAZ b x).1))
  obtain⟨g4,g5⟩:=hold b hb g1
  exact⟨fun x=>x.elim (fun x=>hz (h1.zz b (h2.zz b (g5.1 x)))) (fun x=>hz (hTZ b (hBT b x))),g4⟩
 have hres':AU Zc w' (S.res x y::S.outs x y) (v::us) A':=by
  rcases Bool.eq_false_or_eq_true S.keep with hk|hk
  ·refine Ea (fun b hz hb=>⟨fun x=>x.elim hz (fun x=>hz ?_),rfl⟩) _ _ _ (fun _ _=>rfl) hres
   exact(hold b (hi.own b (hBT b x)).2.1 (hBA b x)).2.2 (hBB hk b x)
  ·rw[hk] at hkeep
   exact Nr _ _ _ hkeep hres
 have hA'own:=haft.own
 simp only[AU] at hres'
 obtain⟨v',us',Ar,Ao,e1,hjr,hr1,hr3⟩:=hres'
 simp only[HQ] at e1
 obtain⟨rfl,rfl⟩:=e1
 have hBA':∀b,B b→¬A' b:=fun b hb x=>hBA b hb ((hA'own b x).2.2 (hi.own b (hBT b hb)).2.1)
 ·obtain⟨r3,n3,hk,p1,p2,η1,p3,p4⟩:=QX args _ r2 s.nx hk η a.tmps.toList us B Ao (fun b=>Ao b∨B b) hr2 hrI hargs' hai hr3
   ⟨fun _=>Cg,fun b x y=>hBA' b y ((hjr.1 b).2 (.inr x))⟩
  obtain⟨q1,q2,η2,q3,q4⟩:=a7n (S.res x y) n3 v Ar η1 hr1
  have hv:=q4 η2 (fun _ _=>rfl)
  have p5:=Dj (n:=n3) (Z':=Zc) (w':=w') (fun b hb _=>⟨hb,rfl⟩) q3 _ _ _ p2 (fun _ _=>rfl) p4
  refine⟨v,_,rfl,hk,?_⟩
  obtain⟨S',hS',hfin⟩:∃S',(∀b,S' b→A' b∨B b)∧Am Zc η2 w' (setR r3 dst (FR n3 (S.res x y)).1) (a.put dst v).tmps.toList S':=by
   cases dst with
   |none=>exact⟨_,fun b hb=>hb.elim (fun h=> .inl ((hjr.1 b).2 (.inr h))) .inr,p5⟩
   |some d=>
    rw[QJ]
    simp only[setR]
    rcases Ju d r3.length with hd|hd
    ·obtain⟨S',hs,hr⟩:=Tn p5 hd hv (fun b x y=>y.elim (fun y=>hjr.2 b x y) (fun y=>hBA' b y ((hjr.1 b).2 (.inl x))))
     exact⟨S',fun b hb=>(hs b hb).elim (fun h=>h.elim (fun h=> .inl ((hjr.1 b).2 (.inr h))) .inr) (fun h=> .inl ((hjr.1 b).2 (.inl h))),hr⟩
    ·rw[Nc hd,Nc (by rw[GF _ _ _ p5];exact hd)]
     exact⟨_,fun b hb=>hb.elim (fun h=> .inl ((hjr.1 b).2 (.inr h))) .inr,p5⟩
  refine⟨η2,Zc,S',⟨by rw[QK];exact hi.defers,hfin,?_,fun b hb=> ?_,?_⟩⟩
  ·cases dst with
   |none=>exact GZ q1 _ p2
   |some d=>exact Iy _ _ _ (GZ q1 _ p2) q2
  ·rcases hS' b hb with hb|hb
   ·obtain⟨g1,g2,g3⟩:=hA'own b hb
    refine⟨.inl g1,g2,fun h0=> ?_⟩
    have hTb:T b:=(g3 (Ev h0 hi.ok.size)).elim (hA1T b) (fun h=>hB1T b (hA2B b h))
    exact(hi.own b hTb).2.2 h0
   ·exact⟨.inr hb,Ev (hi.own b (hBT b hb)).2.1 haft.size,fun h0=>(hi.own b (hBT b hb)).2.2 h0⟩
  ·refine⟨haft.os.trans hi.ok.os,haft.tape.trans hi.ok.tape,haft.output.trans hi.ok.output,Jt hi.ok.size haft.size,fun b h0 hs=> ?_⟩
   have hnT:¬T b:=fun x=>hs ((hi.own b x).2.2 h0)
   have hnA:¬(A1 b∨A2 b):=fun x=>hnT (x.elim (hA1T b) (fun h=>hB1T b (hA2B b h)))
   obtain⟨g1,g2⟩:=hold b (Ev h0 hi.ok.size) hnA
   obtain⟨g3,g4⟩:=hi.ok.old b h0 hs
   refine⟨g1.trans g3,⟨fun x=> ?_,fun x=> ?_⟩⟩
   ·rcases x with x|x
    ·exact g4.1 (h1.zz b (h2.zz b (g2.1 x)))
    ·exact(hnT (hBT b x)).elim
   ·refine .inl (g2.2 ?_)
    have z0:=g4.2 x
    have z1:Z1 b:=Classical.byContradiction fun hn=>hnT (h1.gone b z0 hn)
    exact Classical.byContradiction fun hn=>hnT (hB1T b (h2.gone b z1 hn))
end Go.Eng
end
