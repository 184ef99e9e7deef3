/- joined -/
import Derived.Test.YtblmpjljedglaaaGreatDoorQC
import Derived.Deep.Quiet
import Derived.Orders
import Derived.OrdersHeld
set_option linter.unusedSimpArgs false
set_option linter.unusedVariables false
section
namespace Go.Eng
variable {C:Ctx}{K:St→Prop}{P:Program}{Q:Exit→Act→World→Prop}{T Z:FP}{a a0:Act}{fn:Func}{id n:Nat}{js:List Nat}{o:Oper}{ops:Array Oper}{ov:Bool}{s:St}{w w':World}{Γ:FuncId→Nat→Option Sig}{η:Nat→Value}
def GA(js:List Nat):Option Nat→Bool
 |some d=> !(js.elem d)
 |none=>true
def DE(js:List Nat)(a0 a:Act):Prop:=a.tmps.size=a0.tmps.size∧∀j,js.elem j=true→a.tmps[j]? =a0.tmps[j]?
theorem DE.put(h:DE js a0 a){d:Option Nat}(hd:GA js d=true)(v:Value):DE js a0 (a.put d v):=by
 refine⟨by cases d<;>simp [Act.put,h.1],?_⟩
 intro j hj
 cases d with
 |none=>exact h.2 j hj
 |some d=>
  simp only[GA,Bool.not_eq_true'] at hd
  have:d≠j:=fun e=>by rw[e,hj] at hd;cases hd
  simp only[Act.put]
  rw[Array.getElem?_setIfInBounds_ne this]
  exact h.2 j hj
def FM(want c:Bool)(p q:Prop):Prop:=match want,c with
 |true,true=>p
 |false,false=>p
 |_,_=>q
def NI(P:Program)(Γ:FuncId→Nat→Option Sig)(ops:Array Oper)(o:Oper):List Nat→Bool
 |i1::i2::_=>match ops[i1]?,ops[i2]? with
  |some o1,some o2=>a2V P Γ o o1 o2
  |_,_=>false
 |_=>false
def DU(P:Program)(Γ:FuncId→Nat→Option Sig)(E:TypeId→Option ES)(ov:Bool)(ops:Array Oper):List Nat→St→(St→Prop)→Prop
 |[],s,K=>K s
 |i::rest,s,K=>match ops[i]? with
  |none=>DU P Γ E ov ops rest s K
  |some o=>match o.guard with
   |none=>match NI P Γ ops o rest with
    |true=>match rest with
     |i1::i2::rest'=>match ops[i1]?,ops[i2]? with
      |some o1,some o2=>Xe P Γ o o1 o2 s fun s'=>DU P Γ E ov ops rest' s' K
      |_,_=>False
     |_=>False
    |false=>Ip P Γ E ov o s fun s'=>DU P Γ E ov ops rest s' K
   |some (j,want)=>match(ops[j]?).bind (·.dst) with
    |none=>False
    |some d=>match s.regs[d]? with
     |some (.tup _)=>DU P Γ E ov ops rest ⟨setR s.regs o.dst (.tup []),s.nx⟩ K
     |some (.bool c)=>Aa c
       (FM want true (Ip P Γ E ov o ⟨s.regs.set d (.bool true),s.nx⟩ fun s'=>DU P Γ E ov ops rest s' K)
         (DU P Γ E ov ops rest ⟨setR (s.regs.set d (.bool true)) o.dst (.tup []),s.nx⟩ K))
       (FM want false (Ip P Γ E ov o ⟨s.regs.set d (.bool false),s.nx⟩ fun s'=>DU P Γ E ov ops rest s' K)
         (DU P Γ E ov ops rest ⟨setR (s.regs.set d (.bool false)) o.dst (.tup []),s.nx⟩ K))
     |_=>False
theorem a2X(Z:FP)(η:Nat→Value)(w:World):Ad Z η w (.tup []) undef (fun _=>False):=by
 simp only[Ad,Am];exact⟨[],rfl,rfl,AW⟩
theorem Rel.skip(h:Rel C s a w)(dst:Option Nat):Rel C ⟨setR s.regs dst (.tup []),s.nx⟩ (a.put dst undef) w:=by
 obtain⟨η,Z,T,hi⟩:=h
 exact hi.put dst (a2X Z η w) trivial
theorem Rel.know(h:Rel C s a w){d:Nat}{c:Bool}(hd:s.regs[d]? =some (.bool c)):
 Rel C ⟨s.regs.set d (.bool c),s.nx⟩ a w∧a.tmps[d]? =some (.bool c):=by
 have e:s.regs.set d (.bool c)=s.regs:=by
  apply List.ext_getElem?
  intro i
  rw[List.getElem?_set]
  split
  ·rename_i h1;subst h1
   split
   ·exact hd.symm
   ·rename_i h2;simp at h2;rw[List.getElem?_eq_none h2] at hd;cases hd
  ·rfl
 obtain⟨η,Z,T,hi⟩:=h
 obtain⟨v,A,B,hv,hr,_⟩:=Ff s.regs _ T d _ hi.rel hd
 simp only[Ad,Aj] at hr
 refine⟨by rw[e];exact⟨η,Z,T,hi⟩,?_⟩
 rw[←Array.getElem?_toList,hv,hr.1]
theorem NJ{P:Program}{Γ:FuncId→Nat→Option Sig}{C:Ctx}(hΓ:∀f k S,Γ f k=some S→Ai C.G P f S){E:TypeId→Option ES}{ov:Bool}{ops:Array Oper}{js:List Nat}{a0:Act}
 (hjs:∀(i:Nat) (o:Oper),ops[i]? =some o→GA js o.dst=true) {Q:Exit→Act→World→Prop}:∀(l:List Nat) (s:St) (K:St→Prop) (a:Act) (w:World),DU P Γ E ov ops l s K→
 Rel C s a w→DE js a0 a→(∀s' a' w',K s'→Rel C s' a' w'→DE js a0 a'→Q .normal a' w')→wpOps P ops Q l a w
 |[],s,K,a,w,h,hr,hf,hQ=>hQ s a w h hr hf
 |i::rest,s,K,a,w,h,hr,hf,hQ=>by
  unfold DU at h
  unfold wpOps
  split at h
  ·rename_i ho
   simp only[ho]
   exact NJ hΓ hjs rest s K a w h hr hf hQ
  ·rename_i o ho
   simp only[ho]
   have hav:=hjs i o ho
   have run:∀(s1:St),Rel C s1 a w→Ip P Γ E ov o s1 (fun s'=>DU P Γ E ov ops rest s' K)→o.wp P a w (wpOps P ops Q rest) Q:=by
    intro s1 hr1 h1
    have:=Xc hΓ h1 hr1 Q
    refine Oper_wp_mono this ?_
    rintro a' w' ⟨s',hk,hr',v,rfl⟩
    exact NJ hΓ hjs rest s' K _ w' hk hr' (hf.put hav v) hQ
   have skip:∀(s1:St),Rel C s1 a w→DU P Γ E ov ops rest ⟨setR s1.regs o.dst (.tup []),s1.nx⟩ K→wpOps P ops Q rest (a.put o.dst undef) w:=by
    intro s1 hr1 h1
    exact NJ hΓ hjs rest _ K _ w h1 (hr1.skip o.dst) (hf.put hav undef) hQ
   split at h
   ·rename_i hg
    have hw:Region.wanted o (yielded ops a.tmps)=true:=by simp [Region.wanted,hg]
    rw[if_pos hw]
    split at h
    ·rename_i hn
     split at h
     ·rename_i i1 i2 rest'
      split at h
      ·rename_i o1 o2 ho1 ho2
       have hg12:o1.guard=none∧o2.guard=none:=by
        simp only[NI,ho1,ho2,a2V] at hn
        split at hn
        ·rename_i h1 h2 h3;exact⟨h2,h3⟩
        ·cases hn
       obtain⟨v,v1,e1,e2,e3⟩:=b1u hΓ h hr Q
       refine .inl ?_
       unfold Oper.wp
       rw[e1,Oper.upon_value]
       unfold wpOps
       simp only[ho1]
       have hw1:∀t,Region.wanted o1 (yielded ops t)=true:=fun t=>by simp [Region.wanted,hg12.1]
       rw[if_pos (hw1 _)]
       refine .inl ?_
       unfold Oper.wp
       rw[e2,Oper.upon_value]
       unfold wpOps
       simp only[ho2]
       have hw2:∀t,Region.wanted o2 (yielded ops t)=true:=fun t=>by simp [Region.wanted,hg12.2]
       rw[if_pos (hw2 _)]
       refine .inl ?_
       refine Oper_wp_mono e3 ?_
       rintro a' w' ⟨s',hk,hr',v2,rfl⟩
       exact NJ hΓ hjs rest' s' K _ w' hk hr' (((hf.put hav v).put (hjs i1 o1 ho1) v1).put (hjs i2 o2 ho2) v2) hQ
      ·exact h.elim
     ·exact h.elim
    ·exact .inl (run s hr h)
   ·rename_i j want hg
    split at h
    ·exact h.elim
    ·rename_i d hd
     have hy:yielded ops a.tmps j=(match a.tmps[d]? with|some (.bool b)=>some b|_=>none):=by
      simp only[yielded,hd];rfl
     split at h
     ·rename_i fs hreg
      have hnone:yielded ops a.tmps j=none:=by
       obtain⟨η,Z,T,hi⟩:=hr
       obtain⟨v,A,B,hv,hrr,_⟩:=Ff s.regs _ T d _ hi.rel hreg
       simp only[Ad] at hrr
       obtain⟨cs,e,_⟩:=hrr
       have:a.tmps[d]? =some v:=by rw[←Array.getElem?_toList,hv]
       rw[hy,this,e]
      have hw:¬Region.wanted o (yielded ops a.tmps)=true:=by simp [Region.wanted,hg,hnone]
      rw[if_neg hw]
      exact skip s hr h
     ·rename_i c hreg
      obtain⟨hr1,ht⟩:=hr.know hreg
      have hyc:yielded ops a.tmps j=some c:=by rw[hy,ht]
      have hw:Region.wanted o (yielded ops a.tmps)=(c==want):=by simp [Region.wanted,hg,hyc]
      rw[hw]
      unfold Aa at h
      cases c
      ·cases want
       ·simp only[FM] at h
        rw[if_pos (by rfl)];exact .inl (run _ hr1 h)
       ·simp only[FM] at h
        rw[if_neg (by decide)];exact skip _ hr1 h
      ·cases want
       ·simp only[FM] at h
        rw[if_neg (by decide)];exact skip _ hr1 h
       ·simp only[FM] at h
        rw[if_pos (by rfl)];exact .inl (run _ hr1 h)
     ·exact h.elim
where
 Oper_wp_mono {P:Program} {o:Oper} {a:Act} {w:World} {N N':Act→World→Prop} {Q:Exit→Act→World→Prop} (h:o.wp P a w N Q) (hn:∀a' w',N a' w'→N' a' w'):o.wp P a w N' Q:=by
  unfold Oper.wp Oper.upon at*
  split at h
  ·exact hn _ _ h
  ·exact hn _ _ h
  ·exact hn _ _ h
  ·refine h.mono ?_
   intro e w' he
   cases e with
   |returned v=>exact hn _ _ he
   |panicked c=>exact he
   |outgrown=>exact he
  ·exact h.mono fun v w' hh=>hn _ _ hh
  ·exact h
  ·exact h.elim
structure Ext (w w':World):Prop where
 os:w'.os=w.os
 tape:w'.tape=w.tape
 output:w'.output=w.output
 sees:Sees w w'
theorem Rel.ext(h:Rel C s a w)(he:Ext w w'):Rel C s a w':=by
 obtain⟨η,Z,T,hi⟩:=h
 refine⟨η,Z,T,hi.defers,?_,hi.ids,fun b hb=>⟨(hi.own b hb).1,Nat.lt_of_lt_of_le (hi.own b hb).2.1 he.sees.size,(hi.own b hb).2.2⟩,?_⟩
 ·exact CO (n:=s.nx) (fun b hz hb=>⟨hz,he.sees.old b hb⟩) (fun _ _=>rfl) _ _ _ hi.ids (fun b hb=>he.sees.old b (hi.own b hb).2.1) hi.rel
 ·refine⟨he.os.trans hi.ok.os,he.tape.trans hi.ok.tape,he.output.trans hi.ok.output,Nat.le_trans hi.ok.size he.sees.size,fun b hb hn=> ?_⟩
  obtain⟨g1,g2⟩:=hi.ok.old b hb hn
  exact⟨(he.sees.old b (Nat.lt_of_lt_of_le hb hi.ok.size)).trans g1,g2⟩
def NK(P:Program)(Γ:FuncId→Nat→Option Sig)(ov:Bool)(o:Oper)(s:St)(K:AV→Prop):Prop:=
 match o.op with
 | .call ⟨.value f,args,ts⟩=>match Bi s.regs f with
   | .clo (.func g) caps=>match Γ g (Sh (args.toList.map (Bi s.regs)++caps)) with
     |some S=>match S.caps with
      |[]=>∃x:S.X,S.pre x∧Ej true (S.args x) s.regs (args.toList.map (Bi s.regs)++caps) fun _=>
       ∃y0,(∀y,S.post x y→S.res x y=S.res x y0)∧PY (S.res x y0)=true∧K (S.res x y0)
      |_::_=>False
     |none=>False
   |_=>False
 |op=>DT P ov s.regs op K
theorem b1v(hΓ:∀f k S,Γ f k=some S→Ai C.G P f S){K:AV→Prop}(h:NK P Γ ov o s K)
   (hr:Rel C s a w) {N:Act→Prop} (hN:∀v r,K r→Rel C ⟨setR s.regs o.dst r,s.nx⟩ (a.put o.dst v) w→N (a.put o.dst v)):o.quiet P a (Ext w) N:=by
  obtain⟨η,Z,T,hi⟩:=hr
  have hop:=EM hi.rel
  have hid:=GS hi.ids
  unfold NK at h
  split at h
  ·rename_i f args ts heq
   split at h
   ·rename_i g caps hf
    split at h
    ·rename_i S hS
     have hc:=hΓ g _ S hS
     have hcap0:S.caps=[]:=by
      cases hcc:S.caps with
      |nil=>rfl
      |cons c cs=>rw[hcc] at h;exact h.elim
     rw[hcap0] at h
     obtain⟨x,hpre,h⟩:=h
     have hfv:=hop f
     have hfi:=hid f
     rw[hf] at hfv hfi
     simp only[Ad] at hfv
     simp only[AR] at hfi
     obtain⟨cs,hfe,hcs⟩:=hfv
     have hargs:=KH _ _ _ _ _ _ _ (PN (a:=a) hi.rel args.toList) hcs (BS _)
     have happ:∀(l1 l2:List AV),AX s.nx l1→AX s.nx l2→AX s.nx (l1++l2):=by
      intro l1
      induction l1 with
      |nil=>intro l2 _ h2;simpa using h2
      |cons x l1 ih=>intro l2 h1 h2;exact⟨h1.1,ih l2 h1.2 h2⟩
     obtain⟨Z1,A1,B1,r1,ho⟩:=Gz (S.args x) s.regs _ _ h Z a.tmps.toList _ T (fun _=>False) T hi.rel hi.ids hargs (happ _ _ (PO hi.ids args.toList) hfi) (BS T)
     obtain⟨y0,hy0,hsc,hk⟩:=ho.k
     have hA1:A1=fun _=>False:=EB fun b hb=>ho.stay rfl b hb
     have hgot:=ho.got
     rw[hA1] at hgot
     obtain⟨⟨⟨fn,hfn,hnm,hbody⟩,_⟩,hcc⟩:=hc
     refine⟨scV (S.res x y0),fun w' hw'=> ?_,hN _ _ hk ?_⟩
     ·unfold Oper.quietAt
      have he:(execOp a.eval o).run P w'= .ok (.enter g (args.toList.map a.eval++cs).toArray) w':=by
       simp only[execOp,heq,resolve,hfe,Gy,Deferred.ofValue]
       rw[AU (Ce P _ w')]
       simp only[invoke,callFunc,program]
       rw[AU (x:=P) (w':=w') rfl]
       simp only[hfn,hnm,Bool.false_eq_true,if_false,hbody]
       simp only[Ce]
       congr 2
       apply Array.ext';simp
      rw[he]
      refine⟨rfl,?_⟩
      have hgot':=Dt (Z':=Z1) (w':=w') (fun b hz hb=>⟨hz,hw'.sees.old b hb⟩) _ _ _ (fun b hb=>hb.elim) hgot
      refine(hcc x hpre Z1 w' _ _ (C.G.mono _ _ _ _ (fun b hb hlt=>⟨fun x=>hb (ho.zz b x),hw'.sees.old b hlt⟩) hi.ok.glob) hgot' (fun b hb=>hb.elim) (by rw[hcap0];trivial)).mono ?_
      rintro e w'' ⟨y,v,Z',A',hpost,rfl,hres,haft⟩
      simp only[AZ] at hres
      obtain⟨v',us',Ar,Ao,e1,hjr,hr1,hr3⟩:=hres
      simp only[List.cons.injEq] at e1
      obtain⟨rfl,rfl⟩:=e1
      rw[hy0 y hpost] at hr1
      refine⟨by rw[b1r hr1 hsc],haft.os.trans hw'.os,haft.tape.trans hw'.tape,haft.output.trans hw'.output,Nat.le_trans hw'.sees.size haft.size,fun b hb=> ?_⟩
      exact(haft.old b (Nat.lt_of_lt_of_le hb hw'.sees.size) id).1.trans (hw'.sees.old b hb)
     ·exact hi.put o.dst (a2T hsc Z η w s.nx).1 (a2T hsc Z η w s.nx).2
    ·exact h.elim
   ·exact h.elim
  ·obtain⟨v,r,h1,h2,h3,h4⟩:=Wy h hi.rel hi.ids
   refine⟨v,fun w' hw'=> ?_,hN v r h4 (hi.put o.dst h2 h3)⟩
   unfold Oper.quietAt
   rw[h1 w' hw'.sees]
   exact⟨rfl,rfl⟩
def vcQ(P:Program)(Γ:FuncId→Nat→Option Sig)(ov:Bool)(ops:Array Oper):List Oper→St→(St→Prop)→Prop
 |[],s,K=>K s
 |o::rest,s,K=>match o.guard with
  |none=>NK P Γ ov o s fun r=>vcQ P Γ ov ops rest ⟨setR s.regs o.dst r,s.nx⟩ K
  |some (j,want)=>match(ops[j]?).bind (·.dst) with
   |none=>False
   |some d=>match s.regs[d]? with
    |some (.tup _)=>vcQ P Γ ov ops rest ⟨setR s.regs o.dst (.tup []),s.nx⟩ K
    |some (.bool c)=>Aa c
      (FM want true (NK P Γ ov o ⟨s.regs.set d (.bool true),s.nx⟩ fun r=>vcQ P Γ ov ops rest ⟨setR (s.regs.set d (.bool true)) o.dst r,s.nx⟩ K)
        (vcQ P Γ ov ops rest ⟨setR (s.regs.set d (.bool true)) o.dst (.tup []),s.nx⟩ K))
      (FM want false (NK P Γ ov o ⟨s.regs.set d (.bool false),s.nx⟩ fun r=>vcQ P Γ ov ops rest ⟨setR (s.regs.set d (.bool false)) o.dst r,s.nx⟩ K)
        (vcQ P Γ ov ops rest ⟨setR (s.regs.set d (.bool false)) o.dst (.tup []),s.nx⟩ K))
    |_=>False
theorem Xh{P:Program}{Γ:FuncId→Nat→Option Sig}{C:Ctx}(hΓ:∀f k S,Γ f k=some S→Ai C.G P f S){ov:Bool}{ops:Array Oper}{js:List Nat}{a0:Act}{w:World}:
 ∀(l:List Oper) (s:St) (K:St→Prop) (a:Act),(∀o∈l,GA js o.dst=true)→vcQ P Γ ov ops l s K→Rel C s a w→DE js a0 a→
 wpQuiet P ops (Ext w) (fun a'=>∃s',K s'∧Rel C s' a' w∧DE js a0 a') l a
 |[],s,K,a,hjs,h,hr,hf=>⟨s,h,hr,hf⟩
 |o::rest,s,K,a,hjs,h,hr,hf=>by
  unfold vcQ at h
  unfold wpQuiet
  have hav:=hjs o (by simp)
  have hjs':∀o∈rest,GA js o.dst=true:=fun o ho=>hjs o (by simp [ho])
  have run:∀(s1:St),Rel C s1 a w→NK P Γ ov o s1 (fun r=>vcQ P Γ ov ops rest ⟨setR s1.regs o.dst r,s1.nx⟩ K)→
   o.quiet P a (Ext w) (wpQuiet P ops (Ext w) (fun a'=>∃s',K s'∧Rel C s' a' w∧DE js a0 a') rest):=by
   intro s1 hr1 h1
   exact b1v hΓ h1 hr1 fun v r hk hr'=>Xh hΓ rest _ K _ hjs' hk hr' (hf.put hav v)
  have skip:∀(s1:St),Rel C s1 a w→vcQ P Γ ov ops rest ⟨setR s1.regs o.dst (.tup []),s1.nx⟩ K→
   wpQuiet P ops (Ext w) (fun a'=>∃s',K s'∧Rel C s' a' w∧DE js a0 a') rest (a.put o.dst undef):=by
   intro s1 hr1 h1
   exact Xh hΓ rest _ K _ hjs' h1 (hr1.skip o.dst) (hf.put hav undef)
  split at h
  ·rename_i hg
   have hw:Region.wanted o (yielded ops a.tmps)=true:=by simp [Region.wanted,hg]
   rw[if_pos hw]
   exact run s hr h
  ·rename_i j want hg
   split at h
   ·exact h.elim
   ·rename_i d hd
    have hy:yielded ops a.tmps j=(match a.tmps[d]? with|some (.bool b)=>some b|_=>none):=by
     simp only[yielded,hd];rfl
    split at h
    ·rename_i fs hreg
     have hnone:yielded ops a.tmps j=none:=by
      obtain⟨η,Z,T,hi⟩:=hr
      obtain⟨v,A,B,hv,hrr,_⟩:=Ff s.regs _ T d _ hi.rel hreg
      simp only[Ad] at hrr
      obtain⟨cs,e,_⟩:=hrr
      have:a.tmps[d]? =some v:=by rw[←Array.getElem?_toList,hv]
      rw[hy,this,e]
     have hw:¬Region.wanted o (yielded ops a.tmps)=true:=by simp [Region.wanted,hg,hnone]
     rw[if_neg hw]
     exact skip s hr h
    ·rename_i c hreg
     obtain⟨hr1,ht⟩:=hr.know hreg
     have hyc:yielded ops a.tmps j=some c:=by rw[hy,ht]
     have hw:Region.wanted o (yielded ops a.tmps)=(c==want):=by simp [Region.wanted,hg,hyc]
     rw[hw]
     unfold Aa at h
     cases c
     ·cases want
      ·simp only[FM] at h
       rw[if_pos (by rfl)];exact run _ hr1 h
      ·simp only[FM] at h
       rw[if_neg (by decide)];exact skip _ hr1 h
     ·cases want
      ·simp only[FM] at h
       rw[if_neg (by decide)];exact skip _ hr1 h
      ·simp only[FM] at h
       rw[if_pos (by rfl)];exact run _ hr1 h
    ·exact h.elim
theorem b1w(hΓ:∀f k S,Γ f k=some S→Ai C.G P f S)
     (hm:P.follows .mixedOrders=true) (hB:Region.lexB .any ops=true) (h:vcQ P Γ ov ops ops.toList s K) (hjs:∀o∈ops.toList,GA js o.dst=true)
 (hr:Rel C s a w) (hf:DE js a0 a) (hQ:∀s' a' w',K s'→Rel C s' a' w'→DE js a0 a'→Q .normal a' w'):(Code.region id ops true).wp P Q a w:=by
 refine wp_region_quiet (C:=Ext w) hm hB ⟨rfl,rfl,rfl,Nat.le_refl _,fun _ _=>rfl⟩ ?_
 have:=Xh hΓ (a0:=a0) ops.toList s K a hjs h hr hf
 refine wpQuiet_mono' ?_ ops.toList a this
 rintro a' ⟨s',hk,hr',hf'⟩ w' hw'
 exact hQ s' a' w' hk (hr'.ext hw') hf'
where
 wpQuiet_mono' {P:Program} {ops:Array Oper} {C:World→Prop} {R R':Act→Prop} (h:∀a,R a→R' a):∀(l:List Oper) (a:Act),wpQuiet P ops C R l a→wpQuiet P ops C R' l a
  |[],a,hh=>h a hh
  |o::l,a,hh=>by
   unfold wpQuiet at hh ⊢
   split at hh
   ·rename_i hw;rw[if_pos hw];exact Oper.quiet_mono (wpQuiet_mono' h l) hh
   ·rename_i hw;rw[if_neg hw];exact wpQuiet_mono' h l _ hh
theorem b1x{L:List Value}{sz off:Nat}{v:Value}(h:off<sz)(hle:n+sz≤L.length):over L n (((L.drop n).take sz).set off v)=L.set (n+off) v:=by
 have e:L=L.take n++((L.drop n).take sz++L.drop (n+sz)):=by rw[←List.drop_drop,List.take_append_drop,List.take_append_drop]
 have hn:(L.take n).length=n:=by simp;omega
 have hs:((L.drop n).take sz).length=sz:=by simp;omega
 have e2:L.set (n+off) v=(L.take n++((L.drop n).take sz++L.drop (n+sz))).set (n+off) v:=by rw[←e]
 rw[e2,List.set_append_right _ _ (by omega),List.set_append_left _ _ (by omega)]
 unfold over
 rw[List.length_set,hs,List.append_assoc,hn,show n+off-n=off by omega]
theorem b1y{j sz:Nat}{α:Type}{f:α→List AV}{xs:List α}{A:FP}(h:Ad Z η w (.sl true j sz α f xs) (η id) A)(hji:j=id)
 {k off:Nat} {z:α} {c:AV} (hz:xs[k]? =some z) (hc:(f z)[off]? =some c):
 ∃b boff arr ty v Ac Ar,Fe (η id)=⟨b,boff,none⟩∧w.heap[b]? =some (.cells arr ty (0,0))∧arr.toList[boff+(k*sz+off)]? =some v∧Aj Z w c v Ac∧join A Ac Ar∧
  Ar b∧∀(Z':FP) (η':Nat→Value) (w':World) (o':AV) (z':α) (Ac':FP) (v':Value) (i':Nat),η' i'=η id→(∀x,Ar x→x≠b→w'.heap[x]? =w.heap[x]?)→w'.heap[b]? =some (.cells (arr.toList.set (boff+(k*sz+off)) v').toArray ty (0,0))→
   (∀x,¬Z x→x<w.heap.size→¬Z' x∧w'.heap[x]? =w.heap[x]?)→
   Aj Z' w' o' v' Ac'→(∀x,Ac' x→¬Ar x)→f z'=(f z).set off o'→∃A',join A' Ac' Ar∧Ad Z' η' w' (.sl true i' sz α f (xs.set k z')) (η' i') A':=by
 subst hji
 simp only[Ad,Aj] at h
 obtain⟨_,ad0,n0,c0,hη,hn0,hc0,hrow0⟩:=h
 rcases hrow0 with⟨_,hrow0⟩|⟨hx,_⟩
 rotate_left
 ·cases hx
 have hk:k<xs.length:=(List.getElem?_eq_some_iff.1 hz).1
 rcases hrow0 with⟨_,hcz,_⟩|⟨b,boff,arr,ty,S1,hab,hb,hfit,hrows,hjb⟩
 ·omega
 subst hab
 obtain⟨A2,B2,hj2,hR,hle,hset⟩:=Xf xs _ S1 k z hrows hz
 obtain⟨A3,A4,hj3,hl3,hl4⟩:=PV off _ _ _ hR
 rw[a2W hc] at hl4
 simp only[AZ] at hl4
 obtain⟨v,cs',A5,A6,hseg,hj5,hv5,hl6⟩:=hl4
 have hcell:arr.toList[boff+(k*sz+off)]? =some v:=by
  have h1:((((arr.toList.drop boff).drop (k*sz)).take sz).drop off)[0]? =some v:=by rw[hseg];rfl
  rw[List.getElem?_drop,List.getElem?_take] at h1
  split at h1
  ·rw[List.getElem?_drop,List.getElem?_drop] at h1;simpa [Nat.add_assoc] using h1
  ·cases h1
 let Ar:FP:=fun x=>x=b∨A3 x∨A6 x∨B2 x
 have hAr:join A A5 Ar:=by
  refine⟨fun x=> ?_,fun x p q=> ?_⟩
  ·rw[hjb.1 x,hj2.1 x,hj3.1 x,hj5.1 x]
   simp only[Ar,one]
   constructor
   ·rintro(h|(h|(h|h))|h)
    ·exact .inr (.inl h)
    ·exact .inr (.inr (.inl h))
    ·exact .inl h
    ·exact .inr (.inr (.inr (.inl h)))
    ·exact .inr (.inr (.inr (.inr h)))
   ·rintro(h|h|h|h|h)
    ·exact .inr (.inl (.inr (.inl h)))
    ·exact .inl h
    ·exact .inr (.inl (.inl h))
    ·exact .inr (.inl (.inr (.inr h)))
    ·exact .inr (.inr h)
  ·have p4:A4 x:=(hj5.1 x).2 (.inl p)
   have p2:A2 x:=(hj3.1 x).2 (.inr p4)
   rcases q with q|q|q|q
   ·exact hjb.2 x q ((hj2.1 x).2 (.inl p2))
   ·exact hj3.2 x q p4
   ·exact hj5.2 x p q
   ·exact hj2.2 x p2 q
 have nb:∀y,S1 y→y≠b:=fun y hy e=>hjb.2 y e hy
 have nA3:∀x,A3 x→x≠b:=fun x hx=>nb x ((hj2.1 x).2 (.inl ((hj3.1 x).2 (.inl hx))))
 have nA6:∀x,A6 x→x≠b:=fun x hx=>nb x ((hj2.1 x).2 (.inl ((hj3.1 x).2 (.inr ((hj5.1 x).2 (.inr hx))))))
 have nB2:∀x,B2 x→x≠b:=fun x hx=>nb x ((hj2.1 x).2 (.inr hx))
 refine⟨b,boff,arr,ty,v,A5,Ar,by rw[hη];rfl,hb,hcell,hv5,hAr,.inl rfl,?_⟩
 intro Z' η' w' o' z' Ac' v' i' hη' hw hb' hZ ho hdis hf
 have hA3':=Dt hZ _ _ A3 (fun x hx=>hw x (.inr (.inl hx)) (nA3 x hx)) hl3
 have hA6':=Dt hZ _ _ A6 (fun x hx=>hw x (.inr (.inr (.inl hx))) (nA6 x hx)) hl6
 have hseg0:((arr.toList.drop boff).drop (k*sz)).take sz=(((arr.toList.drop boff).drop (k*sz)).take sz).take off++v::cs':=by
  rw[←hseg,List.take_append_drop]
 have hoff:off<(((arr.toList.drop boff).drop (k*sz)).take sz).length:=by
  have:((((arr.toList.drop boff).drop (k*sz)).take sz).drop off).length=(v::cs').length:=by rw[hseg]
  simp only[List.length_drop,List.length_cons] at this
  omega
 have hseg2:(((arr.toList.drop boff).drop (k*sz)).take sz).set off v'=(((arr.toList.drop boff).drop (k*sz)).take sz).take off++v'::cs':=by
  rw[List.set_eq_take_append_cons_drop,if_pos hoff]
  congr 2
  have:((((arr.toList.drop boff).drop (k*sz)).take sz).drop off).drop 1=cs':=by rw[hseg];rfl
  rw[List.drop_drop] at this;exact this
 have hnew:AZ Z' w' (f z') ((((arr.toList.drop boff).drop (k*sz)).take sz).set off v') (fun x=>A3 x∨(Ac' x∨A6 x)):=by
  rw[hf,set_eq hc,hseg2]
  have hd1:join (fun x=>Ac' x∨A6 x) Ac' A6:=⟨fun _=>Iff.rfl,fun x p q=>hdis x p (.inr (.inr (.inl q)))⟩
  refine PW _ _ _ _ A3 (fun x=>Ac' x∨A6 x) _ hA3' ?_ ⟨fun _=>Iff.rfl,fun x p q=>q.elim (fun q=>hdis x q (.inr (.inl p))) (fun q=>hj3.2 x p ((hj5.1 x).2 (.inr q)))⟩
  simp only[AZ]
  exact⟨v',cs',Ac',A6,rfl,hd1,ho,hA6'⟩
 have hlen:((((arr.toList.drop boff).drop (k*sz)).take sz).set off v').length=sz:=by rw[List.length_set];simp at hle ⊢;omega
 have hrows':=hset (fun x cs A=>AZ Z' w' (f x) cs A) (fun y cs A hA hx=>Dt hZ _ _ A (fun x hx=>hw x (.inr (.inr (.inr (hA x hx)))) (nB2 x (hA x hx))) hx) z' _ _ hlen hnew
  (fun x p q=>by
    rcases p with p|p|p
    ·exact hj2.2 x ((hj3.1 x).2 (.inl p)) q
    ·exact hdis x p (.inr (.inr (.inr q)))
    ·exact hj2.2 x ((hj3.1 x).2 (.inr ((hj5.1 x).2 (.inr p)))) q)
 have hover:over (arr.toList.drop boff) (k*sz) ((((arr.toList.drop boff).drop (k*sz)).take sz).set off v')=(arr.toList.set (boff+(k*sz+off)) v').drop boff:=by
  have hl:off<sz:=by rw[List.length_set] at hlen;omega
  rw[b1x hl hle,List.drop_set,if_neg (by omega),show boff+(k*sz+off)-boff=k*sz+off by omega]
 rw[hover] at hrows'
 refine⟨fun x=>Ac' x∨Ar x,⟨fun _=>Iff.rfl,hdis⟩,?_⟩
 simp only[Ad,Aj]
 refine⟨fun _=>trivial,some ⟨b,boff,none⟩,n0,c0,by rw[hη',hη],by simpa using hn0,hc0,.inl ⟨trivial,.inr ⟨b,boff,_,ty,_,rfl,hb',by simpa using hfit,hrows',?_⟩⟩⟩
 refine⟨fun x=> ?_,fun x p q=> ?_⟩
 ·simp only[Ar,one]
  constructor
  ·rintro(h|h|h|h|h)
   ·exact .inr (.inl (.inr (.inl h)))
   ·exact .inl h
   ·exact .inr (.inl (.inl h))
   ·exact .inr (.inl (.inr (.inr h)))
   ·exact .inr (.inr h)
  ·rintro(h|(h|h|h)|h)
   ·exact .inr (.inl h)
   ·exact .inr (.inr (.inl h))
   ·exact .inl h
   ·exact .inr (.inr (.inr (.inl h)))
   ·exact .inr (.inr (.inr (.inr h)))
 ·have p:x=b:=p
  subst p
  rcases q with(q|q|q)|q
  ·exact nb x ((hj2.1 x).2 (.inl ((hj3.1 x).2 (.inl q)))) rfl
  ·exact hdis x q (.inl rfl)
  ·exact nb x ((hj2.1 x).2 (.inl ((hj3.1 x).2 (.inr ((hj5.1 x).2 (.inr q)))))) rfl
  ·exact nb x ((hj2.1 x).2 (.inr q)) rfl
def Sj(id:Nat):List AV→Nat→Option Nat
 |[],_=>none
 |a::azs,n=>match a with
  | .sl true j _ _ _ _=>match Nat.beq j id with
    |true=>some n
    |false=>Sj id azs (n+1)
  |_=>Sj id azs (n+1)
def Xi:Op→Bool
 | .call ⟨.builtin .append,_,_⟩=>true
 | .slice _ _ _ _ none=>true
 | .buildSlice _ _ _=>true
 | .binOp _ _ _ _ _=>true
 | .move _=>true
 |_=>false
def Sk(q c0:Nat):List Oper→Bool
 |[]=>true
 |o::l=>match o.guard,o.dst with
  |none,some e=>Xi o.op&&(!Nat.beq q e&& !Nat.beq c0 e)&&Sk q c0 l
  |_,_=>false
def a2Y(l:List Oper)(a a':Act):Prop:=a'.tmps.size=a.tmps.size∧∀n,(∀o∈l,o.dst≠some n)→a'.tmps[n]? =a.tmps[n]?
def NL(P:Program)(Q:Exit→Act→World→Prop):List Oper→(Act→World→Prop)→Act→World→Prop
 |[],N,a,w=>N a w
 |o::l,N,a,w=>o.wp P a w (NL P Q l N) Q
def Xj(P:Program)(Γ:FuncId→Nat→Option Sig)(E:TypeId→Option ES)(ov:Bool):List Oper→St→(St→Prop)→Prop
 |[],s,K=>K s
 |o::l,s,K=>Ip P Γ E ov o s fun s'=>Xj P Γ E ov l s' K
def Sl(P:Program)(o o2:Oper):Bool:=match o.op,o2.op with
 | .load t (.tmp p),.store t2 (.tmp q) (.tmp r)=>match o.guard,o2.guard,o.dst,o2.dst with
   |none,none,some d,none=>match P.underlying t,P.info? t2 with
    |some (.slice _),some i=>Nat.beq i.size 1&& !Nat.beq q d
    |_,_=>false
   |_,_,_,_=>false
 |_,_=>false
def Xk(P:Program)(Γ:FuncId→Nat→Option Sig)(E:TypeId→Option ES)(ov:Bool)(o:Oper)(ms:List Oper)(o2:Oper)(s:St)(K:St→Prop):Prop:=
 match o.op,o.dst,o2.op with
 | .load t (.tmp p),some d,.store t2 (.tmp q) (.tmp r)=>match s.regs[p]?,s.regs[q]? with
   |some (.po id k sz off),some (.po id2 k2 sz2 off2)=>match Nat.beq id id2,Nat.beq sz sz2,Nat.beq off off2,Sj id s.regs 0 with
    |true,true,true,some c0=>match Nat.beq c0 d,Sk q c0 ms,Nat.blt d s.regs.length with
     |false,true,true=>match s.regs[c0]? with
      |some (.sl true j sz' α f xs)=>match Nat.beq j id,Nat.beq sz sz' with
       |true,true=>k2=k∧k<xs.length∧∀z,xs[k]? =some z→match(f z)[off]? with
        |some (.sl true i0 sa β ga l)=>Xj P Γ E ov ms ⟨(s.regs.set c0 (.al id)).set d (.sl true s.nx sa β ga l),s.nx+1⟩ fun s1=>match s1.regs[r]?,s1.regs[c0]? with
         |some (.sl true i3 sd δ gd l'),some (.al id3)=>match Nat.beq id3 id with
          |true=>∃z':α,f z'=(f z).set off (.sl true 0 sd δ gd l')∧K ⟨(s1.regs.set r .top).set c0 (.sl true id sz' α f (xs.set k z')),s1.nx⟩
          |false=>False
         |_,_=>False
        |_=>False
       |_,_=>False
      |_=>False
     |_,_,_=>False
    |_,_,_,_=>False
   |_,_=>False
 |_,_,_=>False
theorem Sm{N N':Act→World→Prop}(h:o.wp P a w N Q)(hn:∀a' w',N a' w'→N' a' w'):o.wp P a w N' Q:=by
 unfold Oper.wp Oper.upon at*
 split at h
 ·exact hn _ _ h
 ·exact hn _ _ h
 ·exact hn _ _ h
 ·refine h.mono ?_
  intro e w' he
  cases e with
  |returned v=>exact hn _ _ he
  |panicked c=>exact he
  |outgrown=>exact he
 ·exact h.mono fun v w' hh=>hn _ _ hh
 ·exact h
 ·exact h.elim
theorem Xl{P:Program}{Q:Exit→Act→World→Prop}{N N':Act→World→Prop}(hn:∀a' w',N a' w'→N' a' w'):∀(l:List Oper) (a:Act) (w:World),NL P Q l N a w→NL P Q l N' a w
 |[],a,w,h=>hn a w h
 |o::l,a,w,h=>Sm h fun a' w' h'=>Xl hn l a' w' h'
theorem Xm{q c0:Nat}:∀ {l:List Oper},Sk q c0 l=true→∀o∈l,o.dst≠some q∧o.dst≠some c0
 |[],_,o,ho=>by cases ho
 |o'::l,hm,o,ho=>by
  unfold Sk at hm
  split at hm
  rotate_left
  ·cases hm
  rename_i e hg he
  simp only[Bool.and_eq_true,Bool.not_eq_true'] at hm
  obtain⟨⟨_,h1,h2⟩,hm⟩:=hm
  have h1:=Nat.ne_of_beq_eq_false h1;have h2:=Nat.ne_of_beq_eq_false h2
  rcases List.mem_cons.1 ho with rfl|ho
  ·rw[he];exact⟨fun x=>h1 (Option.some.inj x).symm,fun x=>h2 (Option.some.inj x).symm⟩
  ·exact Xm hm o ho
theorem a2Z{P:Program}{Γ:FuncId→Nat→Option Sig}{C:Ctx}(hΓ:∀f k S,Γ f k=some S→Ai C.G P f S){E:TypeId→Option ES}{ov:Bool}{Q:Exit→Act→World→Prop}:∀(l:List Oper) (s:St) (K:St→Prop) (a:Act) (w:World),
 Xj P Γ E ov l s K→Rel C s a w→NL P Q l (fun a' w'=>∃s',K s'∧Rel C s' a' w'∧a2Y l a a') a w
 |[],s,K,a,w,h,hr=>⟨s,h,hr,rfl,fun _ _=>rfl⟩
 |o::l,s,K,a,w,h,hr=>by
  refine Sm (Xc hΓ h hr Q) ?_
  rintro a' w' ⟨s',hk,hr',u,rfl⟩
  refine Xl ?_ l _ w' (a2Z hΓ l s' K _ w' hk hr')
  rintro a2 w2 ⟨s2,hk2,hr2,hsz,hf⟩
  refine⟨s2,hk2,hr2,?_,fun n hn=>(hf n fun o ho=>hn o (by simp [ho])).trans ?_⟩
  ·rw[hsz];cases o.dst<;>simp [Act.put]
  ·cases hd:o.dst with
   |none=>rfl
   |some e=>
    simp only[Act.put]
    rw[Array.getElem?_setIfInBounds_ne fun x=>hn o (by simp) (by rw[hd,x])]
theorem b1z(hΓ:∀f k S,Γ f k=some S→Ai C.G P f S){E:TypeId→Option ES}{ms:List Oper}{o2:Oper}
 (hn:Sl P o o2=true) (h:Xk P Γ E ov o ms o2 s K)   (hr:Rel C s a w) (Q:Exit→Act→World→Prop):
 ∃v,(execOp a.eval o).run P w= .ok (.value v) w∧NL P Q ms (fun a1 w1=>a2Y ms (a.put o.dst v) a1∧o2.wp P a1 w1 (PX C K a1 o2.dst) Q) (a.put o.dst v) w:=by
 unfold Xk at h
 split at h
 rotate_left
 ·exact h.elim
 rename_i t p d t2 q r hop hdst hop2
 unfold Sl at hn
 rw[hop,hop2] at hn
 simp only at hn
 split at hn
 rotate_left
 ·cases hn
 rename_i dd hg hg2 hdd hdst2
 split at hn
 rotate_left
 ·cases hn
 rename_i et inf hu hinf
 simp only[Bool.and_eq_true,Bool.not_eq_true'] at hn
 obtain⟨hsz1,hqd⟩:=hn
 rw[hdst] at hdd
 simp only[Option.some.injEq] at hdd
 subst hdd
 have hsz1:=Nat.eq_of_beq_eq_true hsz1
 have hqd:=Nat.ne_of_beq_eq_false hqd
 split at h
 rotate_left
 ·exact h.elim
 rename_i id k sz off id2 k2 sz2 off2 hregp hregq
 split at h
 rotate_left
 ·exact h.elim
 rename_i c0 hid2 hszz hoff2 hfind
 have hid2:=Nat.eq_of_beq_eq_true hid2;have hszz:=Nat.eq_of_beq_eq_true hszz;have hoff2:=Nat.eq_of_beq_eq_true hoff2
 subst hid2;subst hszz;subst hoff2
 split at h
 rotate_left
 ·exact h.elim
 rename_i hc0d hc0r hdl
 have hc0d:=Nat.ne_of_beq_eq_false hc0d
 have hdl:=Nat.lt_of_succ_le (Nat.le_of_ble_eq_true hdl)
 split at h
 rotate_left
 ·exact h.elim
 rename_i j sz' α f xs hregc
 split at h
 rotate_left
 ·exact h.elim
 rename_i hj hsz'
 have hj:=Nat.eq_of_beq_eq_true hj;have hsz':=Nat.eq_of_beq_eq_true hsz'
 subst hj;subst hsz'
 obtain⟨hkk,hk,h⟩:=h
 subst hkk
 have hz:xs[k2]? =some xs[k2]:=by simp
 have h:=h _ hz
 generalize hzz:xs[k2]=z at h hz
 split at h
 rotate_left
 ·exact h.elim
 rename_i i0 sa β ga l hfz
 obtain⟨η,Z,T,hi⟩:=hr
 have tmpsAt:∀(n:Nat) (v:Value),a.tmps.toList[n]? =some v→a.tmps[n]? =some v:=fun n v hv=>by rw[←Array.getElem?_toList];exact hv
 have ev:∀(a':Act) (n:Nat) (v:Value),a'.tmps[n]? =some v→a'.eval (.tmp n)=v:=fun a' n v hv=>by simp [Act.eval,Array.getD_eq_getD_getElem?,hv]
 obtain⟨pv,_,_,hpv,hpr,_⟩:=Ff s.regs _ T p _ hi.rel hregp
 obtain⟨qv,_,_,hqv,hqr2,_⟩:=Ff s.regs _ T q _ hi.rel hregq
 simp only[Ad] at hpr hqr2
 obtain⟨vo,A,B,hvo,hown,hjAB,hput0⟩:=Ff s.regs _ T c0 _ hi.rel hregc
 have hvoη:vo=η j:=by simp only[Ad] at hown;exact hown.1 trivial
 rw[hvoη] at hown
 obtain⟨b,boff,arr,ty,v,Ac,Ar,hbase,hb,hcell,hvrel,hjA,hArb,hback⟩:=b1y hown rfl hz hfz
 have hvc:CV v:=LD hvrel
 have hvoc:CV vo:=by rw[hvoη];simp only[Ad] at hown;exact LD hown.2
 have hlt:∀x,T x→x<w.heap.size:=fun x hx=>(hi.own x hx).2.1
 have hAT:∀x,A x→T x:=fun x hx=>(hjAB.1 x).2 (.inl hx)
 have hBT:∀x,B x→T x:=fun x hx=>(hjAB.1 x).2 (.inr hx)
 have hAcA:∀x,Ac x→A x:=fun x hx=>(hjA.1 x).2 (.inl hx)
 have hArA:∀x,Ar x→A x:=fun x hx=>(hjA.1 x).2 (.inr hx)
 have hjid:j<s.nx:=by have:=Nm _ _ _ hi.ids hregc;simp only[AR] at this;exact this trivial
 refine⟨v,?_,?_⟩
 ·have hl:(Instr.loadAt t (.pointer (some ⟨b,boff+(k2*sz+off),none⟩))).run P w= .ok v w:=by
   show(loadVar t ⟨b,boff+(k2*sz+off),none⟩).run P w= .ok v w
   simp only[loadVar]
   rw[AU (Ij hu w)]
   simp only[Hw,Bool.false_eq_true,if_false]
   refine PC ?_
   have:=LE (off:=boff+(k2*sz+off)) hb
   unfold ad at this
   rw[this]
   simpa [Array.getElem?_toList] using hcell
  have he:execOp a.eval o=(do pure (.value (←Instr.loadAt t (a.eval (.tmp p))))):=by simp [execOp,hop]
  rw[he,ev a p pv (tmpsAt p pv hpv),hpr.1,hbase]
  exact Gh hl
 have ssame:∀(l:List Value) (n:Nat) (v:Value),l[n]? =some v→l.set n v=l:=fun l n v hv=>by
  apply List.ext_getElem?
  intro m
  rw[List.getElem?_set]
  split
  ·rename_i h1;subst h1
   split
   ·exact hv.symm
   ·rename_i h2;simp at h2;rw[List.getElem?_eq_none h2] at hv;cases hv
  ·rfl
 have hS1':∀x,B x∨Ac x→T x:=fun x hx=>hx.elim (hBT x) fun hx=>hAT x (hAcA x hx)
 let η1:Nat→Value:=fun i=>if i=s.nx then v else η i
 have hrest:=hput0 (.al j) vo (fun _=>False) B (by simp only[Ad];exact⟨hvoη,hvoc,AW⟩) (BS B)
 rw[ssame _ _ _ hvo] at hrest
 have hids1:AX s.nx (s.regs.set c0 (.al j)):=GR _ _ _ hi.ids (by simp only[AR];exact hjid)
 have hrest1:=CO (Z':=Z) (η':=η1) (w':=w) (n:=s.nx) (fun b hb hl=>⟨hb,rfl⟩) (fun i hi=>if_neg (by omega)) _ _ B hids1 (fun _ _=>rfl) hrest
 have hnest:Ad Z η1 w (.sl true s.nx sa β ga l) v Ac:=by
  simp only[Ad]
  exact⟨fun _=>(if_pos rfl).symm,by simpa only[Aj] using hvrel⟩
 obtain⟨S1,hS1,hrel1⟩:=PB hrest1 (i:=d) (by rw[List.length_set];exact hdl) hnest (fun x hx hB=>hjAB.2 x (hAcA x hx) hB)
 have hS1T:∀x,S1 x→T x:=fun x hx=>hS1' x (hS1 x hx)
 let C1:Ctx:=⟨w,Z,S1,C.G,hi.ok.glob,fun x hx=>(hi.own x (hS1T x hx)).1⟩
 have hi1:Inst C1 ⟨(s.regs.set c0 (.al j)).set d (.sl true s.nx sa β ga l),s.nx+1⟩ (a.put (some d) v) w η1 Z S1:=by
  refine⟨by rw[Nq];exact hi.defers,by rw[Np];exact hrel1,?_,fun x hx=>⟨(hi.own x (hS1T x hx)).1,hlt x (hS1T x hx),fun _=>hx⟩,⟨rfl,rfl,rfl,Nat.le_refl _,fun b _ _=>⟨rfl,Iff.rfl⟩⟩⟩
  refine GR _ _ _ (FJ (Nat.le_succ _) _ hids1) ?_
  simp only[AR];intro _;exact Nat.lt_succ_self _
 have hop1:=a2Z (C:=C1) hΓ (Q:=Q) ms _ _ _ _ h ⟨η1,Z,S1,hi1⟩
 rw[hdst]
 refine Xl ?_ ms _ w hop1
 rintro a1 w1 ⟨s1,hk1,⟨η2,Z2,T2,hi2⟩,hleave⟩
 refine⟨hleave,?_⟩
 split at hk1
 rotate_left
 ·exact hk1.elim
 rename_i i3 sd δ gd l' id3 hr3 hc3
 split at hk1
 rotate_left
 ·exact hk1.elim
 rename_i hid3
 have hid3:=Nat.eq_of_beq_eq_true hid3
 subst hid3
 obtain⟨z',hfz',hK⟩:=hk1
 have hkeep:∀(n:Nat),n≠d→(n=q∨n=c0)→a1.tmps[n]? =a.tmps[n]? :=fun n h1 h2=>by
  rw[hleave.2 n (fun o ho=>by rcases h2 with rfl|rfl;exact(Xm hc0r o ho).1;exact(Xm hc0r o ho).2)]
  simp only[Act.put]
  rw[Array.getElem?_setIfInBounds_ne (Ne.symm h1)]
 have hvo1:a1.tmps.toList[c0]? =some vo:=by rw[Array.getElem?_toList,hkeep c0 hc0d (.inr rfl)];exact tmpsAt c0 vo hvo
 have hq1:a1.tmps[q]? =some qv:=by rw[hkeep q hqd (.inl rfl)];exact tmpsAt q qv hqv
 obtain⟨vr,D,E0,hvr,hDrel,hjDE,hputr⟩:=Ff s1.regs _ T2 r _ hi2.rel hr3
 have hregsr:=hputr .top vr (fun _=>False) E0 (by simp only[Ad,Aj];exact AW) (BS _)
 rw[ssame _ _ _ hvr] at hregsr
 obtain⟨vc,_,_,hvc1,hvcr,_⟩:=Ff s1.regs _ T2 c0 _ hi2.rel hc3
 rw[hvo1] at hvc1
 simp only[Option.some.injEq] at hvc1
 subst hvc1
 simp only[Ad] at hvcr
 have hη2:η2 id3=η id3:=hvcr.1.symm.trans hvoη
 have hArS:∀x,Ar x→¬S1 x:=fun x hx h1=>(hS1 x h1).elim (fun hB=>hjAB.2 x (hArA x hx) hB) (fun hA=>hjA.2 x hA hx)
 have hTZ:∀x,T x→Z x:=fun x hx=>(hi.own x hx).1
 have hArw:∀x,Ar x→w1.heap[x]? =w.heap[x]? ∧(Z2 x↔Z x):=fun x hx=>hi2.ok.old x (hlt x (hAT x (hArA x hx))) (hArS x hx)
 have hT2Ar:∀x,T2 x→¬Ar x:=fun x h2 hx=>hArS x hx ((hi2.own x h2).2.2 (hlt x (hAT x (hArA x hx))))
 have hDT:∀x,D x→T2 x:=fun x hx=>(hjDE.1 x).2 (.inl hx)
 have hET:∀x,E0 x→T2 x:=fun x hx=>(hjDE.1 x).2 (.inr hx)
 have hneb:∀x,T2 x→x≠b:=fun x hx e=>hT2Ar x hx (by rw[e];exact hArb)
 have hbZ2:Z2 b:=(hArw b hArb).2.2 (hTZ b (hAT b (hArA b hArb)))
 have hb1:w1.heap[b]? =some (.cells arr ty (0,0)):=(hArw b hArb).1.trans hb
 simp only[Ad] at hDrel
 have hvrc:CV vr:=LD hDrel.2
 have hil:boff+(k2*sz+off)<arr.toList.length:=(List.getElem?_eq_some_iff.1 hcell).1
 obtain⟨w2,hrun,hwr⟩:=WZ (v:=vr) hinf hb1 (off:=boff+(k2*sz+off)) (by rw[Ns hvrc];simp at hil ⊢;omega) (by rw[Ns hvrc,hsz1];rfl) (fun c hc=>by rw[Ns hvrc] at hc;simp at hc;subst hc;exact hvrc)
 have hov:over arr.toList (boff+(k2*sz+off)) vr.cells.toList=arr.toList.set (boff+(k2*sz+off)) vr:=by
  rw[Ns hvrc]
  unfold over
  rw[List.set_eq_take_append_cons_drop,if_pos hil];simp
 have hw2b:w2.heap[b]? =some (.cells (arr.toList.set (boff+(k2*sz+off)) vr).toArray ty (0,0)):=by rw[hwr.blk,hov]
 have hZ2:∀x,¬Z2 x→x<w1.heap.size→¬Z2 x∧w2.heap[x]? =w1.heap[x]? :=fun x hx _=>⟨hx,hwr.oth x fun e=>hx (by rw[e];exact hbZ2)⟩
 have hD2:Aj Z2 w2 (.sl true 0 sd δ gd l') vr D:=by
  have:=Ge hZ2 _ _ D (fun x hx=>hwr.oth x (hneb x (hDT x hx))) hDrel.2
  simpa only[Aj] using this
 have hZ':∀x,¬Z x→x<w.heap.size→¬Z2 x∧w2.heap[x]? =w.heap[x]? :=fun x hx hl=>by
  obtain⟨g1,g2⟩:=hi2.ok.old x hl (fun h1=>hx (hTZ x (hS1T x h1)))
  exact⟨fun h2=>hx (g2.1 h2),(hwr.oth x fun e=>hx (by rw[e];exact hTZ b (hAT b (hArA b hArb)))).trans g1⟩
 obtain⟨A',hjA',hown'⟩:=hback Z2 η2 w2 (.sl true 0 sd δ gd l') z' D vr id3 hη2 (fun x hx hne=>(hwr.oth x hne).trans (hArw x hx).1) hw2b hZ' hD2 (fun x hx=>hT2Ar x (hDT x hx)) hfz'
 have hidr:AX s1.nx (s1.regs.set r .top):=GR _ _ _ hi2.ids trivial
 have hE:=CO (n:=s1.nx) hZ2 (fun _ _=>rfl) _ _ E0 hidr (fun x hx=>hwr.oth x (hneb x (hET x hx))) hregsr
 have hc0l:c0<(s1.regs.set r .top).length:=by rw[List.length_set];exact(List.getElem?_eq_some_iff.1 hc3).1
 have hA'or:∀x,A' x→D x∨Ar x:=fun x hx=>(hjA'.1 x).1 hx
 obtain⟨S3,hS3,hrel3⟩:=PB hE hc0l hown' (fun x hx hE0=>(hA'or x hx).elim (fun hD=>hjDE.2 x hD hE0) (fun hA=>hT2Ar x (hET x hE0) hA))
 rw[←hvcr.1,ssame _ _ _ hvo1] at hrel3
 have hS3':∀x,S3 x→T2 x∨Ar x:=fun x hx=>(hS3 x hx).elim (fun h1=> .inl (hET x h1)) (fun h1=>(hA'or x h1).elim (fun h2=> .inl (hDT x h2)) .inr)
 have hsz2:w.heap.size≤w2.heap.size:=by rw[hwr.size];exact hi2.ok.size
 unfold Oper.wp
 have he:execOp a1.eval o2=(do Instr.storeAt t2 (a1.eval (.tmp q)) (a1.eval (.tmp r));pure .skip):=by simp [execOp,hop2]
 have hqe:a1.eval (.tmp q)= .pointer (some (ad b (boff+(k2*sz+off)))):=by
  rw[ev a1 q qv hq1,hqr2.1,hbase];rfl
 have hre:a1.eval (.tmp r)=vr:=ev a1 r vr (by rw[←Array.getElem?_toList];exact hvr)
 rw[he,hqe,hre,AU hrun]
 refine⟨_,hK,?_,undef,rfl⟩
 rw[hdst2]
 refine⟨η2,Z2,S3,hi2.defers,hrel3,GR _ _ _ hidr ?_,fun x hx=> ?_,?_⟩
 ·have:=Nm _ _ _ hi2.ids hc3
  simp only[AR] at this ⊢
  exact fun _=>this
 ·rcases hS3' x hx with h2|h2
  ·obtain⟨g1,g2,g3⟩:=hi2.own x h2
   exact⟨g1,by rw[hwr.size];exact g2,fun h0=>(hi.own x (hS1T x (g3 (Nat.lt_of_lt_of_le h0 hi.ok.size)))).2.2 h0⟩
  ·have hx':=hAT x (hArA x h2)
   exact⟨(hArw x h2).2.2 (hTZ x hx'),Nat.lt_of_lt_of_le (hlt x hx') hsz2,(hi.own x hx').2.2⟩
 ·refine⟨hwr.os.trans (hi2.ok.os.trans hi.ok.os),hwr.tape.trans (hi2.ok.tape.trans hi.ok.tape),hwr.output.trans (hi2.ok.output.trans hi.ok.output),Nat.le_trans hi.ok.size hsz2,fun x h0 hs=> ?_⟩
  have hnT:¬T x:=fun h1=>hs ((hi.own x h1).2.2 h0)
  obtain⟨g1,g2⟩:=hi2.ok.old x (Nat.lt_of_lt_of_le h0 hi.ok.size) (fun h1=>hnT (hS1T x h1))
  obtain⟨g3,g4⟩:=hi.ok.old x h0 hs
  exact⟨(hwr.oth x fun e=>hnT (by rw[e];exact hAT b (hArA b hArb))).trans (g1.trans g3),g2.trans g4⟩
def PZ(P:Program)(o o1:Oper):Bool:=match o.op,o1.op with
 | .load t (.tmp p),.call ⟨.builtin .len,args,ts⟩=>match o.guard,o1.guard,o.dst,o1.dst with
   |none,none,some d,some _=>match P.underlying t,args.toList,ts[0]? with
    |some (.slice _),[.tmp e],some t1=>Nat.beq e d&&Nat.beq t1 t
    |_,_,_=>false
   |_,_,_,_=>false
 |_,_=>false
def Xn(o o1:Oper)(s:St)(K:St→Prop):Prop:=
 match o.op,o.dst,o1.dst with
 | .load t (.tmp p),some d,some e=>match s.regs[p]? with
   |some (.po id k sz off)=>match Sj id s.regs 0,Nat.blt d s.regs.length with
    |some c0,true=>match s.regs[c0]? with
     |some (.sl true j sz' α f xs)=>match Nat.beq j id,Nat.beq sz sz' with
      |true,true=>k<xs.length∧∀z,xs[k]? =some z→match(f z)[off]? with
       |some (.sl true i0 sa β ga l)=>K ⟨(s.regs.set d .any).set e (.int .i64 l.length),s.nx⟩
       |_=>False
      |_,_=>False
     |_=>False
    |_,_=>False
   |_=>False
 |_,_,_=>False
theorem b1A{o1:Oper}(hn:PZ P o o1=true)(h:Xn o o1 s K)(hr:Rel C s a w):
 ∃v u,(execOp a.eval o).run P w= .ok (.value v) w∧(execOp (a.put o.dst v).eval o1).run P w= .ok (.value u) w∧∃s',K s'∧Rel C s' ((a.put o.dst v).put o1.dst u) w:=by
 unfold Xn at h
 split at h
 rotate_left
 ·exact h.elim
 rename_i t p d e hop hdst hdst1
 unfold PZ at hn
 rw[hop] at hn
 split at hn
 rotate_left
 ·cases hn
 rename_i t' p' args ts ht hop1
 simp only[Op.load.injEq,Operand.tmp.injEq] at ht
 obtain⟨rfl,rfl⟩:=ht
 rw[hdst,hdst1] at hn
 split at hn
 rotate_left
 ·cases hn
 rename_i dd ee hg hg1 hdd hee
 simp only[Option.some.injEq] at hdd hee
 subst hdd;subst hee
 split at hn
 rotate_left
 ·cases hn
 rename_i et e' t1 hu hargs hts
 simp only[Bool.and_eq_true] at hn
 have he':=Nat.eq_of_beq_eq_true hn.1;have ht1:=Nat.eq_of_beq_eq_true hn.2
 subst he';subst ht1
 have hargs:=HB hargs
 split at h
 rotate_left
 ·exact h.elim
 rename_i id k sz off hregp
 split at h
 rotate_left
 ·exact h.elim
 rename_i c0 hfind hdl
 have hdl:=Nat.lt_of_succ_le (Nat.le_of_ble_eq_true hdl)
 split at h
 rotate_left
 ·exact h.elim
 rename_i j sz' α f xs hregc
 split at h
 rotate_left
 ·exact h.elim
 rename_i hj hsz'
 have hj:=Nat.eq_of_beq_eq_true hj;have hsz':=Nat.eq_of_beq_eq_true hsz'
 subst hj;subst hsz'
 obtain⟨hk,h⟩:=h
 have hz:xs[k]? =some xs[k]:=by simp
 have h:=h _ hz
 generalize hzz:xs[k]=z at h hz
 split at h
 rotate_left
 ·exact h.elim
 rename_i i0 sa β ga l hfz
 obtain⟨η,Z,T,hi⟩:=hr
 obtain⟨pv,_,_,hpv,hpr,_⟩:=Ff s.regs _ T p _ hi.rel hregp
 simp only[Ad] at hpr
 obtain⟨vo,A,B,hvo,hown,hjAB,hput0⟩:=Ff s.regs _ T c0 _ hi.rel hregc
 have hvoη:vo=η j:=by simp only[Ad] at hown;exact hown.1 trivial
 rw[hvoη] at hown
 obtain⟨b,boff,arr,ty,v,Ac,Ar,hbase,hb,hcell,hvrel,hjA,_⟩:=Xg hown rfl hz hfz
 have hvc:CV v:=LD hvrel
 have hvl:∃x c,v= .slice x l.length c:=by
  simp only[Aj] at hvrel
  obtain⟨x,n,c,e1,e2,_⟩:=hvrel
  exact⟨x,c,by rw[e1,e2]⟩
 obtain⟨xa,xc,hvl⟩:=hvl
 obtain⟨S1,h1⟩:=hi.put' e' (r:= .any) (v:=v) (by simp only[Ad,Aj];exact⟨hvc,AW⟩) trivial
 obtain⟨S2,h2⟩:=h1.put' e (r:= .int .i64 l.length) (v:= .int .i64 l.length) (by simp only[Ad,Aj];exact⟨trivial,AW⟩) trivial
 refine⟨v,.int .i64 l.length,?_,?_,_,h,?_⟩
 ·have hl:(Instr.loadAt t1 (.pointer (some ⟨b,boff+(k*sz+off),none⟩))).run P w= .ok v w:=by
   show(loadVar t1 ⟨b,boff+(k*sz+off),none⟩).run P w= .ok v w
   simp only[loadVar]
   rw[AU (Ij hu w)]
   simp only[Hw,Bool.false_eq_true,if_false]
   refine PC ?_
   have:=LE (off:=boff+(k*sz+off)) hb
   unfold ad at this
   rw[this]
   simpa [Array.getElem?_toList] using hcell
  have he:execOp a.eval o=(do pure (.value (←Instr.loadAt t1 (a.eval (.tmp p))))):=by simp [execOp,hop]
  have hpe:a.eval (.tmp p)=pv:=by
   have:a.tmps[p]? =some pv:=by rw[←Array.getElem?_toList,hpv]
   simp [Act.eval,Array.getD_eq_getD_getElem?,this]
  rw[he,hpe,hpr.1,hbase]
  exact Gh hl
 ·rw[hdst]
  have hev:(a.put (some e') v).eval (.tmp e')=v:=by
   have hsz0:s.regs.length=a.tmps.size:=by have:=Fu _ _ _ hi.rel;simpa using this.symm
   have hlt:e'<a.tmps.size:=hsz0▸hdl
   simp [Act.put,Act.eval,Array.getD_eq_getD_getElem?,hlt]
  have he:execOp (a.put (some e') v).eval o1=(do pure (.value (←Builtin.len_ ts o1.type #[(a.put (some e') v).eval (.tmp e')]))):=by simp [execOp,hop1,hargs,resolve,invoke,builtin]
  rw[he,hev,hvl]
  exact Gh (PM hts hu (by simp [LI,goInt]))
 ·rw[hdst,hdst1];exact⟨η,Z,S2,h2⟩
theorem Xo(hΓ:∀f k S,Γ f k=some S→Ai C.G P f S){E:TypeId→Option ES}
 (hjs:∀(i:Nat) (o:Oper),ops[i]? =some o→GA js o.dst=true)  {N:Act→World→Prop} (i:Nat) (s:St) (K:St→Prop) (a:Act) (w:World) (h:DU P Γ E ov ops [i] s K)
 (hr:Rel C s a w) (hf:DE js a0 a) (hQ:∀s' a' w',K s'→Rel C s' a' w'→DE js a0 a'→N a' w'):wpOp P ops Q i N a w:=by
 simp only[DU] at h
 unfold wpOp
 split at h
 ·rename_i ho
  simp only[ho]
  exact hQ s a w h hr hf
 ·rename_i o ho
  simp only[ho]
  have hav:=hjs i o ho
  have run:∀(s1:St),Rel C s1 a w→Ip P Γ E ov o s1 K→o.wp P a w N Q:=by
   intro s1 hr1 h1
   have:=Xc hΓ h1 hr1 Q
   refine NJ.Oper_wp_mono this ?_
   rintro a' w' ⟨s',hk,hr',v,rfl⟩
   exact hQ s' _ w' hk hr' (hf.put hav v)
  have skip:∀(s1:St),Rel C s1 a w→K ⟨setR s1.regs o.dst (.tup []),s1.nx⟩→N (a.put o.dst undef) w:=by
   intro s1 hr1 h1
   exact hQ _ _ w h1 (hr1.skip o.dst) (hf.put hav undef)
  split at h
  ·rename_i hg
   have hw:Region.wanted o (yielded ops a.tmps)=true:=by simp [Region.wanted,hg]
   rw[if_pos hw]
   simp only[NI] at h
   exact .inl (run s hr h)
  ·rename_i j want hg
   split at h
   ·exact h.elim
   ·rename_i d hd
    have hy:yielded ops a.tmps j=(match a.tmps[d]? with|some (.bool b)=>some b|_=>none):=by
     simp only[yielded,hd];rfl
    split at h
    ·rename_i fs hreg
     have hnone:yielded ops a.tmps j=none:=by
      obtain⟨η,Z,T,hi⟩:=hr
      obtain⟨v,A,B,hv,hrr,_⟩:=Ff s.regs _ T d _ hi.rel hreg
      simp only[Ad] at hrr
      obtain⟨cs,e,_⟩:=hrr
      have:a.tmps[d]? =some v:=by rw[←Array.getElem?_toList,hv]
      rw[hy,this,e]
     have hw:¬Region.wanted o (yielded ops a.tmps)=true:=by simp [Region.wanted,hg,hnone]
     rw[if_neg hw]
     exact skip s hr h
    ·rename_i c hreg
     obtain⟨hr1,ht⟩:=hr.know hreg
     have hyc:yielded ops a.tmps j=some c:=by rw[hy,ht]
     have hw:Region.wanted o (yielded ops a.tmps)=(c==want):=by simp [Region.wanted,hg,hyc]
     rw[hw]
     unfold Aa at h
     cases c
     ·cases want
      ·simp only[FM] at h
       rw[if_pos (by rfl)];exact .inl (run _ hr1 h)
      ·simp only[FM] at h
       rw[if_neg (by decide)];exact skip _ hr1 h
     ·cases want
      ·simp only[FM] at h
       rw[if_neg (by decide)];exact skip _ hr1 h
      ·simp only[FM] at h
       rw[if_pos (by rfl)];exact .inl (run _ hr1 h)
    ·exact h.elim
def Xp:List Nat→(Nat→Prop)→Prop
 |[],_=>True
 |[i],p=>p i
 |i::l,p=>p i∧Xp l p
theorem a3a{p:Nat→Prop}:∀ {l:List Nat},Xp l p→∀i∈l,p i
 |[],_,i,h=>by simp at h
 |[j],hp,i,h=>by simp at h;subst h;exact hp
 |j::k::l,hp,i,h=>by
  rcases List.mem_cons.1 h with rfl|h
  ·exact hp.1
  ·exact a3a hp.2 i h
def Xq(regs:List AV)(ops:Array Oper)(listed:Array Bool)(i:Nat):Bool:=match ops[i]? with
 |some o=>match o.guard with
  |none=>match Ny regs o.op with
   |true=>Region.free .any ops listed i
   |false=>false
  |some _=>false
 |none=>false
def So(regs:List AV)(ops:Array Oper)(listed:Array Bool):List Nat→Option Nat
 |[]=>none
 |i::l=>match Xq regs ops listed i with
  |true=>some i
  |false=>So regs ops listed l
theorem a3b{regs:List AV}{ops:Array Oper}{listed:Array Bool}:∀ {l:List Nat} {i:Nat},So regs ops listed l=some i→i∈l∧Xq regs ops listed i=true
 |[],i,h=>by cases h
 |j::l,i,h=>by
  unfold So at h
  split at h
  ·rename_i hj;cases h;exact⟨by simp,hj⟩
  ·have:=a3b h;exact⟨by simp [this.1],this.2⟩
def LK(P:Program)(Γ:FuncId→Nat→Option Sig)(E:TypeId→Option ES)(ov:Bool)(ops:Array Oper):Nat→Array Bool→St→(St→Prop)→Prop
 |0,listed,s,K=>(Region.ready .any ops listed).isEmpty=true∧K s
 |fuel+1,listed,s,K=>match Region.ready .any ops listed with
  |[]=>K s
  |i::l=>match Region.noSelect ops,So s.regs ops listed (i::l) with
   |true,some j=>DU P Γ E ov ops [j] s fun s'=>LK P Γ E ov ops fuel (listed.setIfInBounds j true) s' K
   |_,_=>Xp (i::l) fun i=>DU P Γ E ov ops [i] s fun s'=>LK P Γ E ov ops fuel (listed.setIfInBounds i true) s' K
def HH(R:Act→World→Prop):Exit→Act→World→Prop
 | .normal,a,w=>R a w
 |_,_,_=>False
theorem a3c{P:Program}{ops:Array Oper}{Q:Exit→Act→World→Prop}{S S':World→Prop}(h:∀w,S w→S' w):∀(fuel:Nat) (listed:Array Bool) (a:Act) (w:World),
 wpAnyH P .any ops Q S fuel listed a w→wpAnyH P .any ops Q S' fuel listed a w
 |0,_,_,_,hh=>hh
 |fuel+1,listed,a,w,hh=>⟨hh.1,fun i hi=>wpOp_mono (fun a' w' h'=>⟨h w' h'.1,a3c h fuel _ a' w' h'.2⟩) (hh.2 i hi)⟩
def Inst.here{C:Ctx}{s:St}{a:Act}{w:World}{η:Nat→Value}{Z T:FP}(hi:Inst C s a w η Z T):Ctx:=⟨w,Z,T,C.G,hi.ok.glob,fun b hb=>(hi.own b hb).1⟩
theorem Inst.at_here(hi:Inst C s a w η Z T):Inst hi.here s a w η Z T:=
 ⟨hi.defers,hi.rel,hi.ids,fun b hb=>⟨(hi.own b hb).1,(hi.own b hb).2.1,fun _=>hb⟩,⟨rfl,rfl,rfl,Nat.le_refl _,fun b _ _=>⟨rfl,Iff.rfl⟩⟩⟩
theorem Inst.from_here(hi:Inst C s a w η Z T){s':St}{a':Act}{η':Nat→Value}{Z' T':FP}(h:Inst hi.here s' a' w' η' Z' T'):
 Inst C s' a' w' η' Z' T':=by
 refine⟨h.defers,h.rel,h.ids,fun b hb=> ?_,?_⟩
 ·obtain⟨h1,h2,h3⟩:=h.own b hb
  refine⟨h1,h2,fun hlt=> ?_⟩
  exact(hi.own b (h3 (Nat.lt_of_lt_of_le hlt hi.ok.size))).2.2 hlt
 ·refine⟨h.ok.os.trans hi.ok.os,h.ok.tape.trans hi.ok.tape,h.ok.output.trans hi.ok.output,Nat.le_trans hi.ok.size h.ok.size,fun b hlt hn=> ?_⟩
  obtain⟨g1,g2⟩:=hi.ok.old b hlt hn
  have hT:¬T b:=fun hb=>hn ((hi.own b hb).2.2 hlt)
  obtain⟨g3,g4⟩:=h.ok.old b (Nat.lt_of_lt_of_le hlt hi.ok.size) hT
  exact⟨g3.trans g1,g4.trans g2⟩
theorem Inst.agree(hi:Inst C s a w η Z T){s':St}{a':Act}{η':Nat→Value}{Z' T':FP}(h:Inst hi.here s' a' w' η' Z' T'):
 LH Z w w'∧∀b,¬Z b→b<w.heap.size→¬Z' b:=by
 have key:∀b,¬Z b→b<w.heap.size→w'.heap[b]? =w.heap[b]? ∧¬Z' b:=fun b hz hlt=>by
  obtain⟨g1,g2⟩:=h.ok.old b hlt (fun hb=>hz (hi.own b hb).1)
  exact⟨g1,fun x=>hz (g2.1 x)⟩
 exact⟨fun b hz hlt=>(key b hz hlt).1,fun b hz hlt=>(key b hz hlt).2⟩
theorem Xr{P:Program}{Γ:FuncId→Nat→Option Sig}{C:Ctx}(hΓ:∀f k S,Γ f k=some S→Ai C.G P f S){E:TypeId→Option ES}{ov:Bool}{ops:Array Oper}{js:List Nat}{a0:Act}
 (hjs:∀(i:Nat) (o:Oper),ops[i]? =some o→GA js o.dst=true) {R:Act→World→Prop}:
 ∀(fuel:Nat) (listed:Array Bool) (s:St) (K:St→Prop) (a:Act) (w:World) (η:Nat→Value) (Z T:FP) (S:World→Prop),LK P Γ E ov ops fuel listed s K→Inst C s a w η Z T→DE js a0 a→
 (∀w',w.heap.size≤w'.heap.size→LH Z w w'→S w')→(∀s' a' w',K s'→Rel C s' a' w'→DE js a0 a'→R a' w')→wpAnyH P .any ops (HH R) S fuel listed a w
 |0,listed,s,K,a,w,η,Z,T,S,h,hi,hf,hS,hQ=>by
  obtain⟨h1,h2⟩:=h
  exact⟨List.isEmpty_iff.1 h1,hQ s a w h2 ⟨η,Z,T,hi⟩ hf⟩
 |fuel+1,listed,s,K,a,w,η,Z,T,S,h,hi,hf,hS,hQ=>by
  unfold LK at h
  split at h
  ·rename_i he
   unfold wpAnyH
   rw[he]
   exact⟨fun _=>hQ s a w h ⟨η,Z,T,hi⟩ hf,fun i hi=>(by cases hi)⟩
  ·rename_i i l he
   split at h
   ·rename_i j hns hj
    obtain⟨hm,hej⟩:=a3b hj
    unfold Xq at hej
    split at hej
    rotate_left
    ·cases hej
    rename_i o ho
    split at hej
    rotate_left
    ·cases hej
    rename_i hg
    split at hej
    rotate_left
    ·cases hej
    rename_i hop
    have hav:=hjs j o ho
    simp only[DU,ho,hg,NI] at h
    have hp:DT P ov s.regs o.op (fun r=>LK P Γ E ov ops fuel (listed.setIfInBounds j true) ⟨setR s.regs o.dst r,s.nx⟩ K):=by
     unfold Ip at h
     have hop0:=hop
     cases heq:o.op<;>simp only[heq,Ny,Bool.false_eq_true] at hop
     case call c=>
      rw[heq] at hop0
      obtain⟨args,ts,rfl⟩:=a2s hop0
      simp only[heq] at h ⊢;exact h
     all_goals(simp only[heq] at h ⊢;exact h)
    obtain⟨v,r,h1,h2,h3,h4⟩:=b0K hop hp hi.rel hi.ids
    have hw:Region.wanted o (yielded ops a.tmps)=true:=by simp [Region.wanted,hg]
    obtain⟨η2,Z2,T2,hi2⟩:=hi.at_here.put o.dst h2 h3
    obtain⟨hag,hzz⟩:=hi.agree hi2
    have hsz:=hi2.ok.size
    refine a3c (S:=fun w'=>S w'∧LH Z w w') (fun w' h=>h.1) _ _ _ _ ?_
    refine wpAnyH_take ho hns hej (by rw[he];simpa using hm) (fun c a w h=>h) (.inl ⟨hw,fun w' hw'=>h1 w' hw'.2⟩) ⟨hS w (Nat.le_refl _) (fun _ _ _=>rfl),fun _ _ _=>rfl⟩ ?_
    refine Xr hΓ hjs fuel _ _ K _ w η2 Z2 T2 _ h4 (hi.from_here hi2) (hf.put hav v) (fun w' hle hA=> ?_) hQ
    have hA':LH Z w w':=fun b hz hlt=>hA b (hzz b hz hlt) hlt
    exact⟨hS w' hle hA',hA'⟩
   ·unfold wpAnyH
    rw[he]
    refine⟨fun h=>(by cases h),fun j hj=> ?_⟩
    refine Xo (C:=hi.here) hΓ hjs j s _ a w (a3a h j hj) ⟨η,Z,T,hi.at_here⟩ hf fun s' a' w' hk hr' hf'=> ?_
    obtain⟨η2,Z2,T2,hi2⟩:=hr'
    obtain⟨hag,hzz⟩:=hi.agree hi2
    have hsz:w.heap.size≤w'.heap.size:=hi2.ok.size
    refine⟨hS w' hsz hag,Xr hΓ hjs fuel _ s' K a' w' η2 Z2 T2 S hk (hi.from_here hi2) hf' (fun w2 hle hA=> ?_) hQ⟩
    exact hS w2 (Nat.le_trans hsz hle) fun b hz hlt=>(hA b (hzz b hz hlt) (Nat.lt_of_lt_of_le hlt hsz)).trans (hag b hz hlt)
theorem b1B(hΓ:∀f k S,Γ f k=some S→Ai C.G P f S){E:TypeId→Option ES}
      (hm:P.follows .mixedOrders=true) (h:LK P Γ E ov ops ops.size (Array.replicate ops.size false) s K)
 (hjs:∀(i:Nat) (o:Oper),ops[i]? =some o→GA js o.dst=true)
 (hr:Rel C s a w) (hf:DE js a0 a) (hQ:∀s' a' w',K s'→Rel C s' a' w'→DE js a0 a'→Q .normal a' w'):(Code.region id ops true).wp P Q a w:=by
 refine wp_mono (Q:=HH fun a w=>Q .normal a w) (wp_region_any hm ?_) (fun e a w h=> ?_)
 ·obtain⟨η,Z,T,hi⟩:=hr.ext (w':= {w with drawn:=w.drawn+1}) ⟨rfl,rfl,rfl,Nat.le_refl _,fun _ _=>rfl⟩
  exact wpAny_of_held _ _ _ _ (Xr hΓ hjs _ _ s K a _ η Z T (fun _=>True) h hi hf (fun _ _ _=>trivial) hQ)
 ·cases e<;>simp only[HH] at h<;>exact h
def Xs(ops:Array Oper)(i:Nat):Bool:=match ops[i]? with
 |some o=>match o.guard with
  |none=>RX o.op
  |some _=>false
 |none=>false
def Sp(ops:Array Oper)(oi:Oper):List Nat→Bool
 |[]=>true
 |j::l=>match ops[j]? with
  |some oj=>match oi.apart ops oj with
   |true=>Sp ops oi l
   |false=>false
  |none=>false
def NM(ops:Array Oper)(i:Nat)(pre:List Nat):Bool:=match ops[i]? with
 |some oi=>Sp ops oi pre
 |none=>false
def Sq(ops:Array Oper):List Nat→List Nat→Option (List Nat×Nat×List Nat)
 |_,[]=>none
 |pre,i::rest=>match Xs ops i,NM ops i pre with
  |true,true=>some (pre,i,rest)
  |_,_=>Sq ops (pre++[i]) rest
def NN(P:Program)(Γ:FuncId→Nat→Option Sig)(E:TypeId→Option ES)(ov:Bool)(ops:Array Oper):Nat→List Nat→St→(St→Prop)→Prop
 |0,_,_,_=>False
 |_+1,[],s,K=>K s
 |n+1,j::rest,s,K=>match Sq ops [j] rest with
  |some (pre,i,post)=>DU P Γ E ov ops [i] s fun s'=>NN P Γ E ov ops n (pre++post) s' K
  |none=>DU P Γ E ov ops [j] s fun s'=>NN P Γ E ov ops n rest s' K
theorem a3d{ops:Array Oper}:∀ {l pre pre' post:List Nat} {i:Nat},Sq ops pre l=some (pre',i,post)→Xs ops i=true∧NM ops i pre'=true∧pre++l=pre'++i::post
 |[],pre,pre',post,i,h=>by cases h
 |j::l,pre,pre',post,i,h=>by
  unfold Sq at h
  split at h
  ·rename_i h1 h2
   simp only[Option.some.injEq,Prod.mk.injEq] at h
   obtain⟨rfl,rfl,rfl⟩:=h
   exact⟨h1,h2,rfl⟩
  ·obtain⟨h1,h2,h3⟩:=a3d h
   exact⟨h1,h2,by rw[←h3];simp⟩
theorem Xt{P:Program}{ops:Array Oper}{R:Act→World→Prop}{i:Nat}{oi:Oper}{v:Value}(hi:ops[i]? =some oi)(hs:Region.noSelect ops=true){post:List Nat}:
 ∀ {pre:List Nat} {a:Act} {w:World},Sp ops oi pre=true→Yields P ops oi v a→wpOps P ops (HH R) (pre++post) (a.put oi.dst v) w→wpOps P ops (HH R) (pre++i::post) a w
 |[],a,w,_,hy,h=>by
  rw[List.nil_append,wpOps_cons];exact hy.wpOp hi h
 |j::pre,a,w,hap,hy,h=>by
  unfold Sp at hap
  split at hap
  rotate_left
  ·cases hap
  rename_i oj hj
  split at hap
  rotate_left
  ·cases hap
  rename_i hapj
  rw[List.cons_append,wpOps_cons] at h ⊢
  have:=wpOp_put hj hapj (fun cs b=>Region.noSelect_spec hs i oi cs b hi) (fun cs b=>Region.noSelect_spec hs j oj cs b hj) (fun c a w h=>h) hy h
  exact wpOp_mono (fun a' w' h'=>Xt hi hs hap h'.1 h'.2) this
theorem Xu{P:Program}{Γ:FuncId→Nat→Option Sig}{C:Ctx}(hΓ:∀f k S,Γ f k=some S→Ai C.G P f S){E:TypeId→Option ES}{ov:Bool}{ops:Array Oper}{js:List Nat}{a0:Act}
 (hs:Region.noSelect ops=true) (hjs:∀(i:Nat) (o:Oper),ops[i]? =some o→GA js o.dst=true) {R:Act→World→Prop}:
 ∀(n:Nat) (l:List Nat) (s:St) (K:St→Prop) (a:Act) (w:World),NN P Γ E ov ops n l s K→Rel C s a w→DE js a0 a→
 (∀s' a' w',K s'→Rel C s' a' w'→DE js a0 a'→R a' w')→wpOps P ops (HH R) l a w
 |0,l,s,K,a,w,h,hr,hf,hQ=>h.elim
 |n+1,[],s,K,a,w,h,hr,hf,hQ=>hQ s a w h hr hf
 |n+1,j::rest,s,K,a,w,h,hr,hf,hQ=>by
  unfold NN at h
  split at h
  ·rename_i pre i post hfi
   obtain⟨h1,h2,h3⟩:=a3d hfi
   have h3:j::rest=pre++i::post:=h3
   rw[h3]
   unfold Xs at h1
   split at h1
   rotate_left
   ·cases h1
   rename_i o ho
   split at h1
   rotate_left
   ·cases h1
   rename_i hg
   unfold NM at h2
   rw[ho] at h2
   simp only[DU,ho,hg,NI] at h
   obtain⟨η,Z,T,hi⟩:=hr
   have hp:DT P ov s.regs o.op (fun r=>NN P Γ E ov ops n (pre++post) ⟨setR s.regs o.dst r,s.nx⟩ K):=by
    unfold Ip at h
    unfold RX at h1
    split at h1
    ·rename_i x heq
     simp only[heq] at h ⊢;exact h
    ·rename_i args ts heq
     simp only[heq] at h ⊢;exact h
    ·cases h1
   obtain⟨v,r,g1,g2,g3,g4⟩:=b0L h1 hp hi.rel hi.ids
   have hw:Region.wanted o (yielded ops a.tmps)=true:=by simp [Region.wanted,hg]
   exact Xt ho hs h2 (.inl ⟨hw,g1⟩) (Xu hΓ hs hjs n _ _ K _ w g4 (hi.put o.dst g2 g3) (hf.put (hjs i o ho) v) hQ)
  ·rw[wpOps_cons]
   exact Xo hΓ hjs j s _ a w h hr hf fun s' a' w' hk hr' hf'=>Xu hΓ hs hjs n _ s' K a' w' hk hr' hf' hQ
def Sr:Op→Bool
 | .move _=>true
 | .indexAddr _ _ _=>true
 | .fieldAddr _ _ _=>true
 |_=>false
theorem b1C{regs:List AV}{K:AV→Prop}(he:Sr o.op=true)(h:DT P ov regs o.op K){S:FP}
 (hR:Am Z η w regs a.tmps.toList S) (hI:AX n regs):
 ∃v r,(∀w',(execOp a.eval o).run P w'= .ok (.value v) w')∧Ad Z η w r v (fun _=>False)∧AR n r∧K r:=by
 have hop:=EM hR
 have hid:=GS hI
 unfold Sr at he
 split at he
 ·rename_i x heq
  rw[heq] at h;simp only[DT] at h
  exact⟨_,_,fun _=>by simp [execOp,heq],hop _,hid _,h⟩
 ·rename_i t x i heq
  rw[heq] at h;simp only[DT] at h
  obtain⟨v,r,h1,h2,h3,h4⟩:=Wj (w:=w) h hR hI (hop _) (hid _) (hop _)
  refine⟨v,r,fun w'=> ?_,h2,h3,h4⟩
  have he:execOp a.eval o=(do pure (.value (←Instr.indexAt t (a.eval x) (a.eval i)))):=by simp [execOp,heq]
  rw[he];exact Gh (h1 w')
 ·rename_i t x f heq
  rw[heq] at h;simp only[DT] at h
  obtain⟨v,r,h1,h2,h3,h4⟩:=Wg (w:=w) h hR (hop _) (hid _)
  refine⟨v,r,fun w'=> ?_,h2,h3,h4⟩
  have he:execOp a.eval o=(do pure (.value (←Instr.fieldAt t (a.eval x) f))):=by simp [execOp,heq]
  rw[he];exact Gh (h1 w')
 ·cases he
def Xv(ops:Array Oper)(i:Nat):Bool:=match ops[i]? with
 |some o=>match o.guard with
  |none=>Sr o.op
  |some _=>false
 |none=>false
def Ss(ops:Array Oper):List Nat→List Nat→Option (List Nat×Nat×List Nat)
 |_,[]=>none
 |pre,i::rest=>match Xv ops i,NM ops i pre with
  |true,true=>some (pre,i,rest)
  |_,_=>Ss ops (pre++[i]) rest
theorem a3e{ops:Array Oper}:∀ {l pre pre' post:List Nat} {i:Nat},Ss ops pre l=some (pre',i,post)→Xv ops i=true∧NM ops i pre'=true∧pre++l=pre'++i::post
 |[],pre,pre',post,i,h=>by cases h
 |j::l,pre,pre',post,i,h=>by
  unfold Ss at h
  split at h
  ·rename_i h1 h2
   simp only[Option.some.injEq,Prod.mk.injEq] at h
   obtain⟨rfl,rfl,rfl⟩:=h
   exact⟨h1,h2,rfl⟩
  ·obtain⟨h1,h2,h3⟩:=a3e h
   exact⟨h1,h2,by rw[←h3];simp⟩
def GV(ops:Array Oper):List Nat→List Oper×List Nat
 |[]=>([],[])
 |i::l=>match ops[i]? with
  |some o=>match o.guard,o.dst,Xi o.op with
   |none,some _,true=>(o::(GV ops l).1,(GV ops l).2)
   |_,_,_=>([],i::l)
  |none=>([],i::l)
theorem a3f{P:Program}{ops:Array Oper}{Q:Exit→Act→World→Prop}{N:Act→World→Prop}:∀(l:List Nat),(∀a w,N a w→wpOps P ops Q (GV ops l).2 a w)→∀(a:Act) (w:World),NL P Q (GV ops l).1 N a w→wpOps P ops Q l a w
 |[],hN,a,w,h=>by simp only[GV] at h hN;exact hN a w h
 |i::l,hN,a,w,h=>by
  unfold GV at h hN
  cases ho:ops[i]? with
  |none=>rw[ho] at h hN;exact hN a w h
  |some o=>
   rw[ho] at h hN
   simp only at h hN
   split at h
   ·rename_i x hg hd ha
    rw[hg,hd,ha] at hN
    rw[wpOps_cons]
    unfold wpOp
    simp only[ho]
    rw[if_pos (by simp [Region.wanted,hg])]
    exact .inl (Sm h fun a' w' h'=>a3f l hN a' w' h')
   ·rename_i hne
    have:(match o.guard,o.dst,Xi o.op with
     |none,some val,true=>(o::(GV ops l).1,(GV ops l).2)
     |_,_,_=>([],i::l))=([],i::l):=by
     split
     ·rename_i h1 h2 h3;exact(hne _ h1 h2 h3).elim
     ·rfl
    rw[this] at hN
    exact hN a w h
theorem a3g{ops:Array Oper}:∀(l:List Nat),∀o∈(GV ops l).1,∃i:Nat,ops[i]? =some o
 |[],o,h=>by simp [GV] at h
 |i::l,o,h=>by
  unfold GV at h
  split at h
  ·rename_i o' ho
   split at h
   ·rcases List.mem_cons.1 h with rfl|h
    ·exact⟨i,ho⟩
    ·exact a3g l o h
   ·cases h
  ·cases h
def a3h(P:Program)(ops:Array Oper)(j:Nat)(rest:List Nat):Option (Oper×List Oper×Oper×List Nat):=match ops[j]? with
 |some o=>match(GV ops rest).2 with
  |i2::rest'=>match ops[i2]? with
   |some o2=>match Sl P o o2 with
    |true=>some (o,(GV ops rest).1,o2,rest')
    |false=>none
   |none=>none
  |[]=>none
 |none=>none
def a3i(P:Program)(ops:Array Oper)(j:Nat)(rest:List Nat):Option (Oper×Oper×List Nat):=match ops[j]?,rest with
 |some o,i1::rest'=>match ops[i1]? with
  |some o1=>match PZ P o o1 with
   |true=>some (o,o1,rest')
   |false=>none
  |none=>none
 |_,_=>none
def KI(P:Program)(Γ:FuncId→Nat→Option Sig)(E:TypeId→Option ES)(ov:Bool)(ops:Array Oper):Nat→List Nat→St→(St→Prop)→Prop
 |0,_,_,_=>False
 |_+1,[],s,K=>K s
 |n+1,j::rest,s,K=>match Ss ops [j] rest with
  |some (pre,i,post)=>DU P Γ E ov ops [i] s fun s'=>KI P Γ E ov ops n (pre++post) s' K
  |none=>match a3h P ops j rest with
   |some (o,ms,o2,rest')=>Xk P Γ E ov o ms o2 s fun s'=>KI P Γ E ov ops n rest' s' K
   |none=>match a3i P ops j rest with
    |some (o,o1,rest')=>Xn o o1 s fun s'=>KI P Γ E ov ops n rest' s' K
    |none=>DU P Γ E ov ops [j] s fun s'=>KI P Γ E ov ops n rest s' K
theorem Qa{P:Program}{Γ:FuncId→Nat→Option Sig}{C:Ctx}(hΓ:∀f k S,Γ f k=some S→Ai C.G P f S){E:TypeId→Option ES}{ov:Bool}{ops:Array Oper}{js:List Nat}{a0:Act}
 (hs:Region.noSelect ops=true) (hjs:∀(i:Nat) (o:Oper),ops[i]? =some o→GA js o.dst=true) {R:Act→World→Prop}:
 ∀(n:Nat) (l:List Nat) (s:St) (K:St→Prop) (a:Act) (w:World),KI P Γ E ov ops n l s K→Rel C s a w→DE js a0 a→
 (∀s' a' w',K s'→Rel C s' a' w'→DE js a0 a'→R a' w')→wpOps P ops (HH R) l a w
 |0,l,s,K,a,w,h,hr,hf,hQ=>h.elim
 |n+1,[],s,K,a,w,h,hr,hf,hQ=>hQ s a w h hr hf
 |n+1,j::rest,s,K,a,w,h,hr,hf,hQ=>by
  unfold KI at h
  split at h
  ·rename_i pre i post hfi
   obtain⟨h1,h2,h3⟩:=a3e hfi
   have h3:j::rest=pre++i::post:=h3
   rw[h3]
   unfold Xv at h1
   split at h1
   rotate_left
   ·cases h1
   rename_i o ho
   split at h1
   rotate_left
   ·cases h1
   rename_i hg
   unfold NM at h2
   rw[ho] at h2
   simp only[DU,ho,hg,NI] at h
   obtain⟨η,Z,T,hi⟩:=hr
   have hp:DT P ov s.regs o.op (fun r=>KI P Γ E ov ops n (pre++post) ⟨setR s.regs o.dst r,s.nx⟩ K):=by
    unfold Ip at h
    unfold Sr at h1
    split at h1
    ·rename_i x heq
     simp only[heq] at h ⊢;exact h
    ·rename_i t x i heq
     simp only[heq] at h ⊢;exact h
    ·rename_i t x i heq
     simp only[heq] at h ⊢;exact h
    ·cases h1
   obtain⟨v,r,g1,g2,g3,g4⟩:=b1C h1 hp hi.rel hi.ids
   have hw:Region.wanted o (yielded ops a.tmps)=true:=by simp [Region.wanted,hg]
   exact Xt ho hs h2 (.inl ⟨hw,g1⟩) (Qa hΓ hs hjs n _ _ K _ w g4 (hi.put o.dst g2 g3) (hf.put (hjs i o ho) v) hQ)
  ·split at h
   ·rename_i o ms o2 rest' hna
    unfold a3h at hna
    split at hna
    rotate_left
    ·cases hna
    rename_i o' ho
    split at hna
    rotate_left
    ·cases hna
    rename_i i2 rest2 hrest
    split at hna
    rotate_left
    ·cases hna
    rename_i o2' ho2
    split at hna
    rotate_left
    ·cases hna
    rename_i hns
    simp only[Option.some.injEq,Prod.mk.injEq] at hna
    obtain⟨rfl,rfl,rfl,rfl⟩:=hna
    have hgs:o'.guard=none∧o2'.guard=none:=by
     unfold Sl at hns
     split at hns
     ·split at hns
      ·rename_i g1 g2 _ _;exact⟨g1,g2⟩
      ·cases hns
     ·cases hns
    obtain⟨v,e1,e2⟩:=b1z hΓ hns h hr (HH R)
    rw[wpOps_cons]
    unfold wpOp
    simp only[ho]
    rw[if_pos (by simp [Region.wanted,hgs.1])]
    refine .inl ?_
    unfold Oper.wp
    rw[e1,Oper.upon_value]
    refine a3f rest ?_ _ _ e2
    rintro a1 w1 ⟨hlv,hst⟩
    have hf1:DE js a0 a1:=by
     have hp:=hf.put (hjs j o' ho) v
     refine⟨hlv.1.trans hp.1,fun m hm=>(hlv.2 m fun o ho'=> ?_).trans (hp.2 m hm)⟩
     obtain⟨i,hi⟩:=a3g rest o ho'
     have:=hjs i o hi
     intro e
     rw[e] at this
     simp only[GA,Bool.not_eq_true'] at this
     rw[this] at hm;cases hm
    rw[hrest,wpOps_cons]
    unfold wpOp
    simp only[ho2]
    rw[if_pos (by simp [Region.wanted,hgs.2])]
    refine .inl (Sm hst ?_)
    rintro a2 w2 ⟨s2,hk2,hr2,u,rfl⟩
    exact Qa hΓ hs hjs n _ s2 K _ w2 hk2 hr2 (hf1.put (hjs i2 o2' ho2) u) hQ
   ·split at h
    ·rename_i o o1 rest' hla
     obtain⟨o',i1,rest2,o1',rfl,ho,ho1,hnl0⟩:∃o' i1 rest2 o1',rest=i1::rest2∧ops[j]? =some o'∧ops[i1]? =some o1'∧(match PZ P o' o1' with|true=>some (o',o1',rest2)|false=>none)=some (o,o1,rest'):=by
      unfold a3i at hla
      cases hoj:ops[j]? with
      |none=>rw[hoj] at hla;cases hla
      |some o'=>
       rw[hoj] at hla
       cases rest with
       |nil=>cases hla
       |cons i1 rest2=>
        simp only at hla
        cases ho1:ops[i1]? with
        |none=>rw[ho1] at hla;cases hla
        |some o1'=>rw[ho1] at hla;exact⟨o',i1,rest2,o1',rfl,rfl,ho1,hla⟩
     clear hla
     have hla:=hnl0
     clear hnl0
     split at hla
     rotate_left
     ·cases hla
     rename_i hnl
     simp only[Option.some.injEq,Prod.mk.injEq] at hla
     obtain⟨rfl,rfl,rfl⟩:=hla
     have hgs:o'.guard=none∧o1'.guard=none:=by
      unfold PZ at hnl
      split at hnl
      ·split at hnl
       ·rename_i g1 g2 _ _;exact⟨g1,g2⟩
       ·cases hnl
      ·cases hnl
     obtain⟨v,u,e1,e2,s',hk,hr'⟩:=b1A hnl h hr
     rw[wpOps_cons]
     unfold wpOp
     simp only[ho]
     rw[if_pos (by simp [Region.wanted,hgs.1])]
     refine .inl ?_
     unfold Oper.wp
     rw[e1,Oper.upon_value,wpOps_cons]
     unfold wpOp
     simp only[ho1]
     rw[if_pos (by simp [Region.wanted,hgs.2])]
     refine .inl ?_
     unfold Oper.wp
     rw[e2,Oper.upon_value]
     exact Qa hΓ hs hjs n _ s' K _ w hk hr' ((hf.put (hjs j o' ho) v).put (hjs i1 o1' ho1) u) hQ
    ·rw[wpOps_cons]
     exact Xo hΓ hjs j s _ a w h hr hf fun s' a' w' hk hr' hf'=>Qa hΓ hs hjs n _ s' K a' w' hk hr' hf' hQ
inductive Ex where
 |normal
 |exit (id:Nat)
 |ret
def Ex.tuu:Ex→Exit
 | .normal=> .normal
 | .exit id=> .exit id
 | .ret=> .ret
structure LS:Type 1 where
 ι:Type
 inv:ι→Prop
 regs:ι→List (Nat×AV)
 als:List (Nat×Nat)
 meas:ι→Nat
 sub:ι→List (Nat×LS):=fun _=>[]
 clos:List (Nat×Fn×Nat):=[]
variable {L:LS}
def Xw:List (Nat×LS)→(Nat→Option LS)→Nat→Option LS
 |[],L=>L
 |(g,S)::l,L=>fun f=>match Nat.beq g f with
  |true=>some S
  |false=>Xw l L f
def Qb:List (Nat×AV)→List AV→(List AV→Prop)→Prop
 |[],regs,K=>K regs
 |(j,e)::rest,regs,K=>Ei false e regs (Bi regs (.tmp j)) fun regs'=>Qb rest regs' K
def Qc(regs:List AV):List (Nat×Nat)→Prop
 |[]=>True
 |(s,j)::rest=>(match Bi regs (.tmp s),Bi regs (.tmp j) with
    | .al a,.al b=>match Nat.beq a b with
      |true=>True
      |false=>False
    |_,_=>False)∧Qc regs rest
def LL:List AV→List Nat→List AV→List AV
 |regs,j::js,a::azs=>LL (regs.set j a) js azs
 |regs,_,_=>regs
def Qd:List AV→List (Nat×Nat)→List AV
 |regs,[]=>regs
 |regs,(s,j)::rest=>Qd (regs.set s (Bi regs (.tmp j))) rest
def Su:List (Nat×Fn×Nat)→List AV→List AV
 |[],regs=>regs
 |(p,fn,j)::l,regs=>Su l (match regs[j]? with
  |some (.box id _)=>regs.set p (.clo fn [.al id])
  |_=>regs)
def Xx(caps:List (Nat×Fn×Nat))(s:St):St:=match caps with
 |[]=>s
 |c::cs=>⟨Su (c::cs) s.regs,s.nx⟩
def Sv(regs:List AV):List (Nat×Fn×Nat)→Prop
 |[]=>True
 |(s,fn,j)::rest=>(match Bi regs (.tmp s),Bi regs (.tmp j) with
    | .clo fn' [.al a],.al b=>match PS fn' fn,Nat.beq a b with
      |true,true=>True
      |_,_=>False
    |_,_=>False)∧Sv regs rest
def LM(N:Nat)(L:LS)(i:L.ι):St:=
 ⟨Qd (LL (List.replicate N .top) ((L.regs i).map (·.1)) (Cw 0 ((L.regs i).map (·.2))).1) L.als,(Cw 0 ((L.regs i).map (·.2))).2⟩
def LN(N:Nat)(L:LS)(i:L.ι):St:=Xx L.clos (LM N L i)
def Xy(s:St)(L:LS)(i:L.ι):Prop:=Qb (L.regs i) s.regs (fun _=>True)∧Qc s.regs L.als
def enter(s:St)(L:LS)(i:L.ι):Prop:=match L.clos with
 |[]=>Qb (L.regs i) s.regs (fun _=>True)∧Qc s.regs L.als
 |c::cs=>Xy s L i∧Sv s.regs (c::cs)
theorem b1D{i:L.ι}(h:enter s L i):Xy s L i∧Sv s.regs L.clos:=by
 unfold enter at h
 cases hc:L.clos with
 |nil=>rw[hc] at h;exact⟨h,trivial⟩
 |cons c cs=>rw[hc] at h;exact h
theorem a3j{η:Nat→Value}{w:World}{n:Nat}{a:Act}:∀(es:List (Nat×AV)) (regs:List AV) (K:List AV→Prop),Qb es regs K→
 ∀(Z B:FP),Am Z η w regs a.tmps.toList B→AX n regs→(∀b,B b→Z b)→
 ∃Z' A',AZ Z' w (es.map (·.2)) (es.map fun p=>a.eval (.tmp p.1)) A'∧(∀b,Z' b→Z b)∧(∀b,Z b→¬Z' b→B b)∧(∀b,A' b→B b)∧(∀b,A' b→Z' b)
 |[],regs,K,h,Z,B,hR,hI,hB=>⟨Z,fun _=>False,by simp [AZ,emp],fun _ h=>h,fun _ h h'=>(h' h).elim,fun _ h=>h.elim,fun _ h=>h.elim⟩
 |(j,e)::es,regs,K,h,Z,B,hR,hI,hB=>by
  unfold Qb at h
  obtain⟨Z1,A1,B1,r1,ho⟩:=a2y e regs _ _ h Z a.tmps.toList (a.eval (.tmp j)) B (fun _=>False) B hR hI (EM hR (.tmp j)) (GS hI (.tmp j)) (BS B)
  obtain⟨Z2,A2,k1,k2,k3,k4,k5⟩:=a3j es r1 K ho.k Z1 B1 ho.rel ho.ids (fun b hb=>ho.ownB rfl b hb (hB b (ho.part b (.inr hb))))
  refine⟨Z2,fun b=>A1 b∨A2 b,?_,fun b hb=>ho.zz b (k2 b hb),?_,?_,?_⟩
  ·simp only[List.map_cons,AZ]
   refine⟨_,_,A1,A2,rfl,⟨fun _=>Iff.rfl,fun b x y=>ho.dis b x (k4 b y)⟩,Ge (HG k2) _ _ _ (fun _ _=>rfl) ho.got,k1⟩
  ·intro b hz hz2
   by_cases hz1:Z1 b
   ·exact ho.part b (.inr (k3 b hz1 hz2))
   ·exact ho.gone b hz hz1
  ·intro b hb
   exact hb.elim (fun hb=>ho.part b (.inl hb)) (fun hb=>ho.part b (.inr (k4 b hb)))
  ·intro b hb
   rcases hb with hb|hb
   ·have hz1:=ho.ownA b hb (hB b (ho.part b (.inl hb)))
    exact Classical.byContradiction fun hn=>ho.dis b hb (k3 b hz1 hn)
   ·exact k5 b hb
theorem Xz{Z:FP}{η:Nat→Value}{w:World}{n:Nat}{a:Act}:∀(js:List Nat) (azs regs:List AV) (A B:FP),Am Z η w regs a.tmps.toList B→AX n regs→js.length=azs.length→
 Am Z η w azs (js.map fun j=>a.eval (.tmp j)) A→AX n azs→(∀b,A b→¬B b)→
 ∃S,(∀b,S b→A b∨B b)∧Am Z η w (LL regs js azs) a.tmps.toList S∧AX n (LL regs js azs)
 |[],azs,regs,A,B,hr,hi,hl,ha,hai,hd=>⟨B,fun _ h=> .inr h,by simpa [LL] using hr,by simpa [LL] using hi⟩
 |j::js,[],regs,A,B,hr,hi,hl,ha,hai,hd=>by simp at hl
 |j::js,x::azs,regs,A,B,hr,hi,hl,ha,hai,hd=>by
  simp only[List.map_cons,Am] at ha
  obtain⟨v,cs',A1,A2,e,hj,h1,h2⟩:=ha
  simp only[List.cons.injEq] at e
  obtain⟨rfl,rfl⟩:=e
  simp only[LL]
  rcases Nat.lt_or_ge j regs.length with hlt|hge
  ·obtain⟨S1,hS1,hr1⟩:=PB hr hlt h1 (fun b hb=>hd b ((hj.1 b).2 (.inl hb)))
   have hset:a.tmps.toList.set j (a.eval (.tmp j))=a.tmps.toList:=by
    have hlen:=Fu _ _ _ hr
    have hj2:j<a.tmps.size:=by simp at hlen;omega
    apply List.ext_getElem?
    intro i
    rw[List.getElem?_set]
    split
    ·rename_i h1;subst h1
     simp [Act.eval,hj2,Array.getD_eq_getD_getElem?]
    ·rfl
   rw[hset] at hr1
   obtain⟨S,hS,g1,g2⟩:=Xz js azs _ A2 S1 hr1 (GR _ _ _ hi hai.1) (by simpa using hl) h2 hai.2 (fun b h h'=>(hS1 b h').elim (fun h'=>hd b ((hj.1 b).2 (.inr h)) h') (fun h'=>hj.2 b h' h))
   exact⟨S,fun b hb=>(hS b hb).elim (fun h=> .inl ((hj.1 b).2 (.inr h))) (fun h=>(hS1 b h).elim .inr (fun h=> .inl ((hj.1 b).2 (.inl h)))),g1,g2⟩
  ·rw[List.set_eq_of_length_le hge]
   obtain⟨S,hS,g1,g2⟩:=Xz js azs regs A2 B hr hi (by simpa using hl) h2 hai.2 (fun b h h'=>hd b ((hj.1 b).2 (.inr h)) h')
   exact⟨S,fun b hb=>(hS b hb).elim (fun h=> .inl ((hj.1 b).2 (.inr h))) .inr,g1,g2⟩
theorem a3k{Z:FP}{η:Nat→Value}{w:World}{n:Nat}{a:Act}:∀(als:List (Nat×Nat)) (regs:List AV) (B:FP),Am Z η w regs a.tmps.toList B→AX n regs→
 (∀p∈als,a.eval (.tmp p.1)=a.eval (.tmp p.2))→∃S,(∀b,S b→B b)∧Am Z η w (Qd regs als) a.tmps.toList S∧AX n (Qd regs als)
 |[],regs,B,hr,hi,h=>⟨B,fun _ h=>h,hr,hi⟩
 |(s,j)::als,regs,B,hr,hi,h=>by
  simp only[Qd]
  have hv:=EM hr (.tmp j)
  have he:=h (s,j) (by simp)
  simp only at he
  rw[←he] at hv
  obtain⟨S1,hS1,hr1⟩:=PA hr s hv
  have hset:s<regs.length→a.tmps.toList.set s (a.eval (.tmp s))=a.tmps.toList:=by
   intro hlt
   have hlen:=Fu _ _ _ hr
   have hj2:s<a.tmps.size:=by simp at hlen;omega
   apply List.ext_getElem?
   intro i
   rw[List.getElem?_set]
   split
   ·rename_i h1;subst h1
    simp [Act.eval,hj2,Array.getD_eq_getD_getElem?]
   ·rfl
  have hr2:Am Z η w (regs.set s (Bi regs (.tmp j))) a.tmps.toList S1:=by
   rcases Nat.lt_or_ge s regs.length with hlt|hge
   ·rw[hset hlt] at hr1;exact hr1
   ·rw[List.set_eq_of_length_le (l:=a.tmps.toList) (by rw[Fu _ _ _ hr];exact hge)] at hr1;exact hr1
  obtain⟨S,hS,g1,g2⟩:=a3k als _ S1 hr2 (GR _ _ _ hi (GS hi (.tmp j))) (fun p hp=>h p (by simp [hp]))
  exact⟨S,fun b hb=>hS1 b (hS b hb),g1,g2⟩
theorem a3l{Z:FP}{η:Nat→Value}{w:World}{a:Act}{regs:List AV}{B:FP}(hr:Am Z η w regs a.tmps.toList B):∀als:List (Nat×Nat),Qc regs als→
 ∀p∈als,a.eval (.tmp p.1)=a.eval (.tmp p.2)
 |[],_,p,hp=>by simp at hp
 |(s,j)::als,h,p,hp=>by
  simp only[Qc] at h
  rcases List.mem_cons.1 hp with rfl|hp
  ·have h1:=EM hr (.tmp s)
   have h2:=EM hr (.tmp j)
   have h:=h.1
   split at h
   ·rename_i x y hx hy
    split at h
    ·rename_i hb
     have hb:=Nat.eq_of_beq_eq_true hb
     rw[hx] at h1;rw[hy] at h2
     simp only[Ad] at h1 h2
     simp only
     rw[h1.1,h2.1,hb]
    ·exact h.elim
   ·exact h.elim
  ·exact a3l hr als h.2 p hp
theorem a3m(Z:FP)(η:Nat→Value)(w:World):∀(l:List Value),Am Z η w (List.replicate l.length .top) l (fun _=>False)
 |[]=>by simp [Am,emp]
 |v::l=>by
  simp only[List.length_cons,List.replicate_succ,Am]
  exact⟨v,l,_,_,rfl,BS _,AW,a3m Z η w l⟩
theorem a3n(n:Nat):∀N,AX n (List.replicate N .top)
 |0=>trivial
 |N+1=>⟨trivial,a3n n N⟩
theorem a3o{n:Nat}:∀(azs:List AV) (p:Nat) (a:AV),AX n azs→azs[p]? =some a→AR n a
 |[],p,a,h,ha=>by simp at ha
 |x::azs,0,a,h,ha=>by simp at ha;subst ha;exact h.1
 |x::azs,p+1,a,h,ha=>by simp only[List.getElem?_cons_succ] at ha;exact a3o azs p a h.2 ha
theorem Sw{C:Ctx}{a:Act}{w:World}{η:Nat→Value}{Z:FP}{n:Nat}:∀(caps:List (Nat×Fn×Nat)) (regs:List AV) (T:FP),Inst C ⟨regs,n⟩ a w η Z T→
 KE caps a.tmps.toList→∃T',Inst C ⟨Su caps regs,n⟩ a w η Z T'
 |[],regs,T,h,_=>⟨T,h⟩
 |(p,fn,j)::l,regs,T,h,hc=>by
  obtain⟨⟨v,h1,h2⟩,h3⟩:=hc
  unfold Su
  split
  ·rename_i id c hj
   obtain⟨u,B,g1,g2⟩:=RY _ _ _ _ _ h.rel hj
   have hi:=a3o _ _ _ h.ids hj
   simp only[Ad] at g2
   obtain⟨hu,b,arr,ty,S1,hp,_⟩:=g2
   rw[h2] at g1
   have hvu:v=u:=Option.some.inj g1
   have hnew:Ad Z η w (.clo fn [.al id]) (Gy fn [v]) (fun _=>False):=by
    simp only[Ad,Am]
    refine⟨[v],rfl,v,[],_,_,rfl,BS _,⟨hvu.trans hu,?_,AW⟩,rfl,AW⟩
    rw[hvu,hp];trivial
   obtain⟨S',hs,hr'⟩:=PA h.rel p hnew
   have hset:a.tmps.toList.set p (Gy fn [v])=a.tmps.toList:=by
    apply List.ext_getElem?
    intro i
    rw[List.getElem?_set]
    split
    ·rename_i e;subst e;split
     ·exact h1.symm
     ·rename_i hlt;rw[List.getElem?_eq_none (by omega)]
    ·rfl
   rw[hset] at hr'
   exact Sw l _ S' ⟨h.defers,hr',GR _ _ _ h.ids (by simp only[AR,AX];exact⟨hi.1,trivial⟩),fun b hb=>h.own b (hs b hb),h.ok⟩ h3
  ·exact Sw l regs T h h3
theorem a3p{Z:FP}{η:Nat→Value}{w:World}{regs:List AV}{a:Act}{T:FP}(hR:Am Z η w regs a.tmps.toList T):∀l,Sv regs l→KE l a.tmps.toList
 |[],_=>trivial
 |(s,fn,j)::l,h=>by
  obtain⟨h1,h2⟩:=h
  refine⟨?_,a3p hR l h2⟩
  have hs:=EM (a:=a) hR (.tmp s)
  have hj:=EM (a:=a) hR (.tmp j)
  split at h1
  ·rename_i fn' id id' e1 e2
   split at h1
   ·rename_i q1 q2
    have q1:=WB q1;have q2:=Nat.eq_of_beq_eq_true q2
    subst q1;subst q2
    rw[e1] at hs;rw[e2] at hj
    simp only[Ad,Am] at hs hj
    obtain⟨cs,hsv,v',cs',A',B'',rfl,_,⟨rfl,_,_⟩,rfl,_⟩:=hs
    obtain⟨hjv,hjc,_⟩:=hj
    have get:∀(k:Nat) (v:Value),a.eval (.tmp k)=v→CV v→a.tmps.toList[k]? =some v:=by
     intro k v hv hc
     simp only[Act.eval,Array.getD_eq_getD_getElem?] at hv
     rw[Array.getElem?_toList]
     cases hx:a.tmps[k]? with
     |none=>rw[hx] at hv;simp only[Option.getD_none] at hv;subst hv;exact hc.elim
     |some u=>rw[hx] at hv;simp only[Option.getD_some] at hv;rw[hv]
    exact⟨_,get s _ hsv Py,get j _ hjv (by rw[←hjv];exact hjc)⟩
   ·exact h1.elim
  ·exact h1.elim
theorem b1E(h:Rel C s a w){i:L.ι}(he:Xy s L i):Rel C (LM a.tmps.size L i) a w:=by
 obtain⟨η,Z,T,hi⟩:=h
 obtain⟨Z',A',k1,k2,k3,k4,k5⟩:=a3j (L.regs i) s.regs _ he.1 Z T hi.rel hi.ids (fun b hb=>(hi.own b hb).1)
 have hal:=a3l hi.rel L.als he.2
 obtain⟨p1,p2,η1,p3,p4⟩:=Je ((L.regs i).map (·.2)) 0 _ A' η k1
 have hst:=p4 η1 (fun _ _=>rfl)
 have hst':=CO (n:=(Cw 0 ((L.regs i).map (·.2))).2) (Z':=fun c=>Z' c∨w.heap.size≤c) (w':=w) (η':=η1) (fun b hb hl=>⟨fun x=>x.elim hb (fun x=>by omega),rfl⟩) (fun _ _=>rfl) _ _ _ p2 (fun _ _=>rfl) hst
 have htop:=a3m (fun c=>Z' c∨w.heap.size≤c) η1 w a.tmps.toList
 obtain⟨S1,hS1,q1,q2⟩:=Xz (a:=a) (n:=(Cw 0 ((L.regs i).map (·.2))).2) ((L.regs i).map (·.1)) _ _ A' (fun _=>False) htop (a3n _ _) (by
  have:∀(l:List AV) (n:Nat),(Cw n l).1.length=l.length:=by
   intro l
   induction l with
   |nil=>intro n;rfl
   |cons x l ih=>intro n;simp [Cw,ih]
  rw[this];simp) (by rw[List.map_map];exact hst') p2 (fun b _ h=>h)
 obtain⟨S2,hS2,r1,r2⟩:=a3k L.als _ S1 q1 q2 hal
 have:=hi.next (A1:=fun _=>False) (Z1:=Z') k2 k3 (fun _ h=>h.elim) (w':=w) ⟨rfl,rfl,rfl,Nat.le_refl _,fun _ _ _=>rfl⟩ (regs':=(LM a.tmps.size L i).regs) (n':=(LM a.tmps.size L i).nx) (η':=η1) (S':=S2) (a':=a) rfl
  (by simpa [LM] using r1) (by simpa [LM] using r2) (fun b hb=>by
    have hA:A' b:=(hS1 b (hS2 b hb)).resolve_right (fun x=>x)
    exact⟨.inl (k5 b hA),.inl (k4 b hA),(hi.own b (k4 b hA)).2.1⟩)
 exact⟨η1,_,S2,this⟩
theorem XA(h:Rel C s a w){i:L.ι}(he:enter s L i):Rel C (LN a.tmps.size L i) a w:=by
 obtain⟨he1,he2⟩:=b1D he
 have h0:=b1E h he1
 unfold LN
 cases hc:L.clos with
 |nil=>exact h0
 |cons c cs=>
  rw[hc] at he2
  obtain⟨η,Z,T,hi⟩:=h
  have hcap:=a3p hi.rel _ he2
  obtain⟨η2,Z2,T2,hi2⟩:=h0
  obtain⟨T',h'⟩:=Sw (c::cs) (LM a.tmps.size L i).regs T2 hi2 hcap
  exact⟨η2,Z2,T',h'⟩
def Qe:Code→Nat
 | .region id _ _=>id
 | .seq x _=>Qe x
 | .block _ x=>Qe x
 | .loop x=>Qe x
 |_=>0
def FO(js:List Nat):Code→Bool
 | .region _ ops _=>ops.toList.all fun o=>GA js o.dst
 | .seq x y=>FO js x&&FO js y
 | .cond _ x y=>FO js x&&FO js y
 | .block _ x=>FO js x
 | .loop x=>FO js x
 |_=>true
def Gi(P:Program)(Γ:FuncId→Nat→Option Sig)(E:TypeId→Option ES)(ov:Bool)(N:Nat)(L:Nat→Option LS):Code→St→(Ex→St→Prop)→Prop
 | .skip,s,K=>K .normal s
 | .label _,s,K=>K .normal s
 | .ret,s,K=>K .ret s
 | .exit id,s,K=>K (.exit id) s
 | .region id ops draw,s,K=>match draw with
   |false=>match L (300000+id) with
    |some _=>Region.noSelect ops=true∧NN P Γ E ov ops (ops.size+1) (List.range ops.size) s (K .normal)
    |none=>match L (400000+id) with
     |some _=>Region.noSelect ops=true∧KI P Γ E ov ops (ops.size+1) (List.range ops.size) s (K .normal)
     |none=>DU P Γ E ov ops (List.range ops.size) s (K .normal)
   |true=>match L (100000+id) with
    |some D=>P.follows .mixedOrders=true∧LK P Γ E ov ops ops.size (Array.replicate ops.size false) s (fun s'=>∃i,D.inv i∧enter s' D i)∧∀i,D.inv i→K .normal (LN N D i)
    |none=>P.follows .mixedOrders=true∧Region.lexB .any ops=true∧vcQ P Γ ov ops ops.toList s (K .normal)
 | .seq x y,s,K=>match L (200000+Qe y) with
   |some D=>(Gi P Γ E ov N L x s fun e s'=>match e with
    | .normal=>∃i,D.inv i∧enter s' D i
    | .exit i=>K (.exit i) s'
    | .ret=>K .ret s')∧∀i,D.inv i→Gi P Γ E ov N (Xw (D.sub i) L) y (LN N D i) K
   |none=>Gi P Γ E ov N L x s fun e s'=>match e with
    | .normal=>Gi P Γ E ov N L y s' K
    | .exit i=>K (.exit i) s'
    | .ret=>K .ret s'
 | .cond c x y,s,K=>match c with
   | .tmp d=>match s.regs[d]? with
     |some (.bool b)=>Aa b (Gi P Γ E ov N L x ⟨s.regs.set d (.bool true),s.nx⟩ K) (Gi P Γ E ov N L y ⟨s.regs.set d (.bool false),s.nx⟩ K)
     |_=>False
   |_=>False
 | .block id x,s,K=>Gi P Γ E ov N L x s fun e s'=>match e with
   | .normal=>K .normal s'
   | .exit i=>match Nat.beq i id with
     |true=>K .normal s'
     |false=>K (.exit i) s'
   | .ret=>K .ret s'
 | .loop x,s,K=>match L (Qe x) with
   |some S=>(∃i,S.inv i∧enter s S i)∧∀i,S.inv i→Gi P Γ E ov N (Xw (S.sub i) L) x (LN N S i) fun e s'=>match e with
    | .normal=>∃i',S.inv i'∧S.meas i'<S.meas i∧enter s' S i'
    | .exit k=>K (.exit k) s'
    | .ret=>K .ret s'
   |none=>False
 |_,_,_=>False
theorem LO{p:Nat→Prop}(h:∃n,p n):∃n,p n∧∀m,p m→n≤m:=by
 obtain⟨n,hn⟩:=h
 induction n using Nat.strongRecOn with
 |_ n ih=>
  by_cases hm:∃m,m<n∧p m
  ·obtain⟨m,h1,h2⟩:=hm;exact ih m h1 h2
  ·exact⟨n,hn,fun m hp=>Nat.le_of_not_lt fun hl=>hm ⟨m,hl,hp⟩⟩
theorem JE{P:Program}{Γ:FuncId→Nat→Option Sig}{C:Ctx}(hΓ:∀f k S,Γ f k=some S→Ai C.G P f S){E:TypeId→Option ES}{ov:Bool}{js:List Nat}{a0:Act}:
 ∀(c:Code) (L:Nat→Option LS) (s:St) (K:Ex→St→Prop) (Q:Exit→Act→World→Prop) (a:Act) (w:World),Gi P Γ E ov a0.tmps.size L c s K→FO js c=true→Rel C s a w→DE js a0 a→
 (∀e s' a' w',K e s'→Rel C s' a' w'→DE js a0 a'→Q e.tuu a' w')→c.wp P Q a w
 | .skip,L,s,K,Q,a,w,h,hd,hr,hf,hQ=>wp_skip (hQ .normal s a w h hr hf)
 | .label _,L,s,K,Q,a,w,h,hd,hr,hf,hQ=>wp_label (hQ .normal s a w h hr hf)
 | .ret,L,s,K,Q,a,w,h,hd,hr,hf,hQ=>wp_ret (hQ .ret s a w h hr hf)
 | .exit id,L,s,K,Q,a,w,h,hd,hr,hf,hQ=>wp_exit (hQ (.exit id) s a w h hr hf)
 | .region id ops draw,L,s,K,Q,a,w,h,hd,hr,hf,hQ=>by
   simp only[Gi] at h
   cases draw
   ·simp only at h
    have hjs0:∀(i:Nat) (o:Oper),ops[i]? =some o→GA js o.dst=true:=by
     intro i o ho
     simp only[FO] at hd
     have hmem:o∈ops.toList:=List.mem_of_getElem? (i:=i) (by simpa [Array.getElem?_toList] using ho)
     exact List.all_eq_true.1 hd o hmem
    split at h
    ·refine wp_mono (Q:=HH fun a w=>Q .normal a w) (wp_region (Xu hΓ (js:=js) (a0:=a0) h.1 hjs0 _ _ s _ a w h.2 hr hf fun s' a' w' hk hr' hf'=>hQ .normal s' a' w' hk hr' hf')) (fun e a w h=> ?_)
     cases e<;>simp only[HH] at h<;>exact h
    split at h
    ·refine wp_mono (Q:=HH fun a w=>Q .normal a w) (wp_region (Qa hΓ (js:=js) (a0:=a0) h.1 hjs0 _ _ s _ a w h.2 hr hf fun s' a' w' hk hr' hf'=>hQ .normal s' a' w' hk hr' hf')) (fun e a w h=> ?_)
     cases e<;>simp only[HH] at h<;>exact h
    refine wp_region (NJ hΓ (js:=js) (a0:=a0) ?_ _ s _ a w h hr hf fun s' a' w' hk hr' hf'=>hQ .normal s' a' w' hk hr' hf')
    intro i o ho
    simp only[FO] at hd
    have hmem:o∈ops.toList:=List.mem_of_getElem? (i:=i) (by simpa [Array.getElem?_toList] using ho)
    exact List.all_eq_true.1 hd o hmem
   ·simp only at h
    split at h
    ·rename_i D hD
     obtain⟨h1,h2,h3⟩:=h
     refine b1B hΓ (js:=js) (a0:=a0) h1 h2 ?_ hr hf fun s' a' w' hk hr' hf'=> ?_
     ·intro i o ho
      simp only[FO] at hd
      have hmem:o∈ops.toList:=List.mem_of_getElem? (i:=i) (by simpa [Array.getElem?_toList] using ho)
      exact List.all_eq_true.1 hd o hmem
     ·obtain⟨i,hi,he⟩:=hk
      have hh:=XA hr' he
      rw[hf'.1] at hh
      exact hQ .normal _ a' w' (h3 i hi) hh hf'
    obtain⟨h1,h2,h3⟩:=h
    simp only[FO] at hd
    exact b1w hΓ (js:=js) (a0:=a0) h1 h2 h3 (fun o ho=>List.all_eq_true.1 hd o ho) hr hf fun s' a' w' hk hr' hf'=>hQ .normal s' a' w' hk hr' hf'
 | .seq x y,L,s,K,Q,a,w,h,hd,hr,hf,hQ=>by
   simp only[Gi] at h
   simp only[FO,Bool.and_eq_true] at hd
   split at h
   ·rename_i D hD
    obtain⟨h1,h2⟩:=h
    refine wp_seq (JE hΓ x L s _ _ a w h1 hd.1 hr hf ?_)
    intro e s' a' w' hk hr' hf'
    cases e with
    |normal=>
     obtain⟨i,hi,he⟩:=hk
     have hh:=XA hr' he
     rw[hf'.1] at hh
     exact JE hΓ y _ _ K Q a' w' (h2 i hi) hd.2 hh hf' hQ
    |exit i=>exact hQ (.exit i) s' a' w' hk hr' hf'
    |ret=>exact hQ .ret s' a' w' hk hr' hf'
   ·refine wp_seq (JE hΓ x L s _ _ a w h hd.1 hr hf ?_)
    intro e s' a' w' hk hr' hf'
    cases e with
    |normal=>exact JE hΓ y L s' K Q a' w' hk hd.2 hr' hf' hQ
    |exit i=>exact hQ (.exit i) s' a' w' hk hr' hf'
    |ret=>exact hQ .ret s' a' w' hk hr' hf'
 | .cond c x y,L,s,K,Q,a,w,h,hd,hr,hf,hQ=>by
   simp only[Gi] at h
   simp only[FO,Bool.and_eq_true] at hd
   split at h
   ·rename_i d
    split at h
    ·rename_i b hb
     obtain⟨hr1,ht⟩:=hr.know hb
     have hc:a.eval (.tmp d)= .bool b:=by simp [Act.eval,Array.getD_eq_getD_getElem?,ht]
     unfold Aa at h
     cases b
     ·exact wp_cond_false hc (JE hΓ y L _ K Q a w h hd.2 hr1 hf hQ)
     ·exact wp_cond_true hc (JE hΓ x L _ K Q a w h hd.1 hr1 hf hQ)
    ·exact h.elim
   ·exact h.elim
 | .block id x,L,s,K,Q,a,w,h,hd,hr,hf,hQ=>by
   simp only[Gi] at h
   simp only[FO] at hd
   refine wp_block (JE hΓ x L s _ _ a w h hd hr hf ?_)
   intro e s' a' w' hk hr' hf'
   cases e with
   |normal=>exact hQ .normal s' a' w' hk hr' hf'
   |exit i=>
    simp only[Ex.tuu,Exit.inBlock]
    simp only at hk
    split at hk
    ·rename_i hb
     rw[if_pos (Nat.eq_of_beq_eq_true hb)]
     exact hQ .normal s' a' w' hk hr' hf'
    ·rename_i hb
     rw[if_neg (Nat.ne_of_beq_eq_false hb)]
     exact hQ (.exit i) s' a' w' hk hr' hf'
   |ret=>exact hQ .ret s' a' w' hk hr' hf'
 | .loop x,L,s,K,Q,a,w,h,hd,hr,hf,hQ=>by
   simp only[Gi] at h
   simp only[FO] at hd
   split at h
   ·rename_i S hS
    obtain⟨⟨i0,hi0,he0⟩,hround⟩:=h
    let p:Act→World→Nat→Prop:=fun a w n=>∃i,S.inv i∧S.meas i=n∧Rel C (LN a0.tmps.size S i) a w∧DE js a0 a
    have hent:∀(s:St) (a:Act) (w:World) (i:S.ι),Rel C s a w→DE js a0 a→enter s S i→Rel C (LN a0.tmps.size S i) a w:=by
     intro s a w i hr hf he
     have:=XA hr he
     rwa [hf.1] at this
    refine wp_loop (fun a w=>∃n,p a w n) (fun a w=>open Classical in if h:∃n,p a w n then(LO h).choose else 0) ⟨_,i0,hi0,rfl,hent s a w i0 hr hf he0,hf⟩ ?_
    intro a w hI
    have hμ:(open Classical in if h:∃n,p a w n then(LO h).choose else 0)=(LO hI).choose:=dif_pos hI
    obtain⟨⟨i,h1,h2,h3,h4⟩,hmin⟩:=(LO hI).choose_spec
    refine JE hΓ x _ _ _ _ a w (hround i h1) hd h3 h4 ?_
    intro e s' a' w' hk hr' hf'
    cases e with
    |normal=>
     obtain⟨i',g1,g2,g3⟩:=hk
     have hp':p a' w' (S.meas i'):=⟨i',g1,rfl,hent s' a' w' i' hr' hf' g3,hf'⟩
     refine⟨⟨_,hp'⟩,?_⟩
     have hμ':(open Classical in if h:∃n,p a' w' n then(LO h).choose else 0)=(LO ⟨_,hp'⟩).choose:=dif_pos ⟨_,hp'⟩
     have h5:=(LO ⟨_,hp'⟩).choose_spec.2 _ hp'
     simp only[hμ,hμ']
     rw[h2] at g2
     exact Nat.lt_of_le_of_lt h5 g2
    |exit k=>exact hQ (.exit k) s' a' w' hk hr' hf'
    |ret=>exact hQ .ret s' a' w' hk hr' hf'
   ·exact h.elim
 | .rangeFunc _ _ _ _,L,s,K,Q,a,w,h,hd,hr,hf,hQ=>h.elim
 | .scope _,L,s,K,Q,a,w,h,hd,hr,hf,hQ=>h.elim
 | .goto _,L,s,K,Q,a,w,h,hd,hr,hf,hQ=>h.elim
 | .refuse _,L,s,K,Q,a,w,h,hd,hr,hf,hQ=>h.elim
def b1F:AV→Bool
 | .box _ _=>true
 | .bv _ _=>true
 |_=>false
def XB:List AV→Nat→List Nat
 |[],_=>[]
 |a::azs,j=>match b1F a with
  |true=>j::XB azs (j+1)
  |false=>XB azs (j+1)
def JF(js:List Nat):Nat→List AV→Bool
 |_,[]=>true
 |j,o::os=>match o with
  | .top=>JF js (j+1) os
  | .box _ _=>match js.elem j with
    |true=>JF js (j+1) os
    |false=>false
  | .bv _ _=>match js.elem j with
    |true=>JF js (j+1) os
    |false=>false
  | .sl true _ _ _ _ _=>match js.elem j with
    |true=>JF js (j+1) os
    |false=>false
  | .agg _=>match js.elem j with
    |true=>JF js (j+1) os
    |false=>false
  |_=>false
def XC(S:Sig)(x:S.X):List Nat:=XB (S.args x) 0++S.fixed
def LP(P:Program)(regs:List AV):List ResultVar→(List AV→Prop)→Prop
 |[],K=>K []
 | .tmp t::rs,K=>LP P regs rs fun azs=>K (Bi regs (.tmp t)::azs)
 | .cell a t::rs,K=>PI P regs t (Bi regs (.tmp a)) fun r=>LP P regs rs fun azs=>K (r::azs)
def KJ:List AV→AV
 |[a]=>a
 |azs=> .tup azs
def Qf(N:Nat)(args:List AV):St:=⟨(Cw 0 args).1++List.replicate (N-args.length) (.tup []),(Cw 0 args).2⟩
def a3q(P:Program)(S:Sig)(x:S.X)(rs:List ResultVar)(n:Nat)(s:St):Prop:=
 LP P s.regs rs fun azs=>∃y,S.post x y∧match JF (XC S x) 0 (S.outs x y) with
  |true=>Ej false (S.res x y::S.outs x y) s.regs (KJ azs::(List.range n).map fun j=>Bi s.regs (.tmp j)) fun _=>True
  |false=>False
def b1G(P:Program)(S:Sig)(x:S.X)(rs:List ResultVar)(n:Nat):Ex→St→Prop
 | .exit _,_=>False
 |_,s=>a3q P S x rs n s
def Sx(P:Program)(Γ:FuncId→Nat→Option Sig)(E:TypeId→Option ES)(ov:Bool)(L:Nat→Option LS)(N:Nat)(results:List ResultVar)(c:Code)(S:Sig)(x:S.X):Prop:=
 match Nat.ble (S.args x).length N,FO (XC S x) c with
 |true,true=>WE S.keep (∀y,S.post x y→Im (S.res x y::S.outs x y))∧Gi P Γ E ov N L c (Xx S.caps (Qf N (S.args x))) (b1G P S x results (S.args x).length)
 |_,_=>False
theorem a3r{Z:FP}{w:World}{js:List Nat}:∀(j:Nat) (os:List AV) (vals us:List Value) (A:FP),JF js j os=true→us.length=vals.length→
 (∀(i:Nat),i<vals.length→js.elem (j+i)=true→us[i]? =vals[i]?)→AZ Z w os us A→AZ Z w os vals A
 |j,[],vals,us,A,ho,hl,hf,h=>by
  simp only[AZ] at h ⊢
  rw[h.1] at hl
  exact⟨List.length_eq_zero_iff.1 (by simpa using hl.symm),h.2⟩
 |j,o::os,vals,us,A,ho,hl,hf,h=>by
  simp only[AZ] at h ⊢
  obtain⟨u,us',A1,A2,e,hj,h1,h2⟩:=h
  subst e
  cases vals with
  |nil=>simp at hl
  |cons v vals=>
   obtain⟨ho1,ho2⟩:(o= .top∨js.elem j=true)∧JF js (j+1) os=true:=by
    unfold JF at ho
    split at ho
    ·exact⟨.inl rfl,ho⟩
    ·split at ho
     ·rename_i hb;exact⟨.inr hb,ho⟩
     ·cases ho
    ·split at ho
     ·rename_i hb;exact⟨.inr hb,ho⟩
     ·cases ho
    ·split at ho
     ·rename_i hb;exact⟨.inr hb,ho⟩
     ·cases ho
    ·split at ho
     ·rename_i hb;exact⟨.inr hb,ho⟩
     ·cases ho
    ·cases ho
   refine⟨v,vals,A1,A2,rfl,hj,?_,a3r (j+1) os vals us' A2 ho2 (by simpa using hl) (fun i h3 h4=>by
    have:=hf (i+1) (by simpa using h3) (by rw[show j+(i+1)=j+1+i from by omega];exact h4)
    simpa using this) h2⟩
   rcases ho1 with rfl|ho1
   ·simpa only[Aj] using h1
   ·have:=hf 0 (by simp) (by simpa using ho1)
    simp at this
    rw[←this];exact h1
def Qg:List Value→Value
 |[v]=>v
 |vs=> .tuple vs.toArray
theorem b1H{t:TypeId}{x v:Value}(h:(Instr.loadAt t x).run P w= .ok v w):(do loadVar t (←asAddr x):Sem Value).run P w= .ok v w:=by
 unfold Instr.loadAt at h
 cases x with
 |pointer a=>
  cases a with
  |none=>rw[FK] at h;cases h
  |some a=>rw[FK] at h ⊢;exact h
 |_=>rw[FK] at h;cases h
theorem XD{P:Program}{regs:List AV}{Z:FP}{η:Nat→Value}{w:World}{n:Nat}{a:Act}{T:FP}(hR:Am Z η w regs a.tmps.toList T)(hI:AX n regs)
 {g:ResultVar→Sem Value} (g1:∀t,g (.tmp t)=pure (a.tmps.getD t undef)) (g2:∀b t,g (.cell b t)=(do loadVar t (←asAddr (a.tmps.getD b undef)))):
 ∀(rs:List ResultVar) (K:List AV→Prop),LP P regs rs K→∃vs azs,(rs.mapM g).run P w= .ok vs w∧
  Am Z η w azs vs (fun _=>False)∧AX n azs∧K azs
 |[],K,h=>⟨[],[],rfl,by simp [Am,emp],trivial,h⟩
 | .tmp t::rs,K,h=>by
   simp only[LP] at h
   obtain⟨vs,azs,h1,h2,h3,h4⟩:=XD hR hI g1 g2 rs _ h
   refine⟨a.tmps.getD t undef::vs,Bi regs (.tmp t)::azs,?_,?_,⟨GS hI (.tmp t),h3⟩,h4⟩
   ·rw[List.mapM_cons,g1,AU (Ce P _ w),AU h1];rfl
   ·simp only[Am];exact⟨_,_,_,_,rfl,BS _,EM hR (.tmp t),h2⟩
 | .cell b t::rs,K,h=>by
   simp only[LP] at h
   obtain⟨v,r,h1,h2,h3,h4⟩:=a2k (n:=n) h hR hI (EM (a:=a) hR (.tmp b))
   obtain⟨vs,azs,k1,k2,k3,k4⟩:=XD hR hI g1 g2 rs _ h4
   refine⟨v::vs,r::azs,?_,?_,⟨h3,k3⟩,k4⟩
   ·have hl:(do loadVar t (←asAddr (a.tmps.getD b undef)):Sem Value).run P w= .ok v w:=b1H (h1 w (Sees.refl w))
    rw[List.mapM_cons,g2,AU hl,AU k1];rfl
   ·simp only[Am];exact⟨_,_,_,_,rfl,BS _,h2,k2⟩
theorem b1I{regs:List AV}(hR:Am Z η w regs a.tmps.toList T)(hI:AX n regs)
 {K:List AV→Prop} (h:LP P regs fn.results.toList K):∃vs azs,(results fn a.tmps).run P w= .ok (Qg vs) w∧Am Z η w azs vs (fun _=>False)∧AX n azs∧K azs:=by
 unfold results
 obtain⟨vs,azs,h1,h2⟩:=XD hR hI (g:=fun| .tmp t=>pure (a.tmps.getD t undef)| .cell b t=>do loadVar t (←asAddr (a.tmps.getD b undef))) (fun _=>rfl) (fun _ _=>rfl) fn.results.toList K h
 refine⟨vs,azs,?_,h2⟩
 rw[Array.mapM_eq_mapM_toList,map_eq_pure_bind]
 refine(AU (x:=vs.toArray) (w':=w) ?_).trans ?_
 ·exact(AU h1).trans rfl
 ·simp only[Ce]
  congr 1
  match vs with
  |[]=>rfl
  |[v]=>rfl
  |v::u::vs=>rfl
theorem a3s(Z:FP)(η:Nat→Value)(w:World):∀n,Am Z η w (List.replicate n (.tup [])) (List.replicate n undef) (fun _=>False)
 |0=>by simp [Am,emp]
 |n+1=>by
  simp only[List.replicate_succ,Am]
  exact⟨undef,_,_,_,rfl,BS _,a2X Z η w,a3s Z η w n⟩
theorem a3t(n:Nat):∀N,AX n (List.replicate N (.tup []))
 |0=>trivial
 |N+1=>⟨trivial,a3t n N⟩
theorem a3u{n:Nat}:∀(l1 l2:List AV),AX n l1→AX n l2→AX n (l1++l2)
 |[],l2,_,h2=>by simpa using h2
 |x::l1,l2,h1,h2=>⟨h1.1,a3u l1 l2 h1.2 h2⟩
theorem a3v{vs us:List Value}(e:∃r,us=vs++r):∀ {l:List (Nat×Fn×Nat)},KE l vs→KE l us
 |[],_=>trivial
 |(p,fn,j)::l,h=>by
  obtain⟨r,rfl⟩:=e
  obtain⟨⟨v,h1,h2⟩,h3⟩:=h
  refine⟨⟨v,?_,?_⟩,a3v ⟨r,rfl⟩ h3⟩
  ·rw[List.getElem?_append_left ((List.getElem?_eq_some_iff.1 h1).1)];exact h1
  ·rw[List.getElem?_append_left ((List.getElem?_eq_some_iff.1 h2).1)];exact h2
theorem b1J{G:GInv}{E:TypeId→Option ES}{f:FuncId}{c:Code}{S:Sig}{L:S.X→Nat→Option LS}
 (hfn:P.funcs[f]? =some fn) (hbody:fn.body=some c) (hname:(fn.name== "runtime.NumGoroutine")=false)
 (hΓ:∀f k S,Γ f k=some S→Ai G P f S) (h:∀x,S.pre x→Sx P Γ E ov (L x) fn.ntmps fn.results.toList c S x):Ai G P f S:=by
 refine⟨⟨⟨fn,hfn,hname,by simp [hbody]⟩,fun x y hx hy=> ?_⟩,?_⟩
 ·have h:=h x hx
  unfold Sx at h
  split at h
  ·have h:=h.1
   unfold WE at h ⊢
   split
   ·trivial
   ·rename_i hk;rw[hk] at h;exact h y hy
  ·exact h.elim
 intro x hpre Z w vals A hG hargs hA hcaps
 have h:=h x hpre
 unfold Sx at h
 split at h
 rotate_left
 ·exact h.elim
 ·rename_i hN hd
  have hvc:=h.2
  have hN:=Nat.le_of_ble_eq_true hN
  have hvl:vals.length=(S.args x).length:=a2N _ _ _ hargs
  refine calls_of_wp hfn hbody ?_
  let a0:Act:= {tmps:=vals.toArray++Array.replicate (fn.ntmps-vals.toArray.size) undef,defers:=[]}
  have hsz:a0.tmps.size=fn.ntmps:=by simp [a0];omega
  obtain⟨p1,p2,η1,p3,p4⟩:=Je (S.args x) 0 vals A (fun _=>undef) hargs
  have hst:=p4 η1 (fun _ _=>rfl)
  let C:Ctx:=⟨w,Z,A,G,hG,fun b hb=>(hA b hb).1⟩
  have hinit:Rel C (Qf fn.ntmps (S.args x)) a0 w:=by
   refine⟨η1,Z,A,⟨rfl,?_,a3u _ _ p2 (a3t _ _),fun b hb=>⟨(hA b hb).1,(hA b hb).2,fun _=>hb⟩,⟨rfl,rfl,rfl,Nat.le_refl _,fun b _ _=>⟨rfl,Iff.rfl⟩⟩⟩⟩
   have:=KH _ _ _ _ _ _ A hst (a3s Z η1 w (fn.ntmps-(S.args x).length)) (JB A)
   simpa [Qf,a0,hvl] using this
  have hinit2:Rel C (Xx S.caps (Qf fn.ntmps (S.args x))) a0 w:=by
   cases hcc:S.caps with
   |nil=>exact hinit
   |cons c cs=>
    obtain⟨η,Z1,T,hi⟩:=hinit
    obtain⟨T',h'⟩:=Sw (c::cs) (Qf fn.ntmps (S.args x)).regs T hi (by
     rw[←hcc]
     exact a3v ⟨List.replicate (fn.ntmps-vals.length) undef,by simp [a0]⟩ hcaps)
    exact⟨η,Z1,T',h'⟩
  refine JE (C:=C) hΓ (js:=XC S x) (a0:=a0) (E:=E) (ov:=ov) c (L x) _ _ _ a0 w (by rw[hsz];exact hvc) hd hinit2 ⟨rfl,fun _ _=>rfl⟩ ?_
  intro e s' a' w' hk hr hf
  have fin:a3q P S x fn.results.toList (S.args x).length s'→a'.defers=[]∧∃v,(results fn a'.tmps).run P w'= .ok v w'∧∃y v' Z' A',S.post x y∧Ending.returned v= .returned v'∧AZ Z' w' (S.res x y::S.outs x y) (v'::vals) A'∧After Z w A Z' w' A':=by
   intro hfin
   obtain⟨η,Z1,T,hi⟩:=hr
   obtain⟨rvs,ras,hrun,hrr,hri,y,hpost,hh⟩:=b1I hi.rel hi.ids hfin
   split at hh
   rotate_left
   ·exact hh.elim
   rename_i hout
   have hres:Ad Z1 η w' (KJ ras) (Qg rvs) (fun _=>False):=by
    match ras,rvs,hrr with
    |[],rvs,hrr=>
     simp only[Am] at hrr
     rw[hrr.1]
     simp only[KJ,Qg,Ad];exact⟨[],rfl,by simp [Am,emp]⟩
    |[r],rvs,hrr=>
     simp only[Am] at hrr
     obtain⟨v,cs',A,B,e,hj,h1,h2,h3⟩:=hrr
     subst h2;subst e
     have:=(Hv hj AW).1
     rw[EB this] at h1
     exact h1
    |r::q::ras,rvs,hrr=>
     have hl:=Fu _ _ _ hrr
     match rvs,hl with
     |v::u::rvs,_=>simp only[KJ,Qg,Ad];exact⟨_,rfl,hrr⟩
   have hresi:AR s'.nx (KJ ras):=by
    match ras,hri with
    |[],hri=>exact hri
    |[r],hri=>exact hri.1
    |r::q::ras,hri=>simp only[KJ,AR];exact hri
   have hactual:Am Z1 η w' (KJ ras::(List.range (S.args x).length).map fun j=>Bi s'.regs (.tmp j))
    (Qg rvs::(List.range (S.args x).length).map fun j=>a'.eval (.tmp j)) (fun _=>False):=by
    simp only[Am]
    refine⟨_,_,_,_,rfl,BS _,hres,?_⟩
    have:∀l:List Nat,Am Z1 η w' (l.map fun j=>Bi s'.regs (.tmp j)) (l.map fun j=>a'.eval (.tmp j)) (fun _=>False):=by
     intro l
     induction l with
     |nil=>simp [Am,emp]
     |cons t ts ih=>
      simp only[List.map_cons,Am]
      exact⟨_,_,_,_,rfl,BS _,EM hi.rel (.tmp t),ih⟩
    exact this _
   have hactuali:AX s'.nx (KJ ras::(List.range (S.args x).length).map fun j=>Bi s'.regs (.tmp j)):=by
    refine⟨hresi,?_⟩
    have:∀l:List Nat,AX s'.nx (l.map fun j=>Bi s'.regs (.tmp j)):=by
     intro l
     induction l with
     |nil=>trivial
     |cons t ts ih=>exact⟨GS hi.ids (.tmp t),ih⟩
    exact this _
   obtain⟨Z2,A',B',r',ho⟩:=Gz _ s'.regs _ _ hh Z1 a'.tmps.toList _ T (fun _=>False) T hi.rel hi.ids hactual hactuali (BS T)
   refine⟨hi.defers,_,hrun,y,_,Z2,A',hpost,rfl,?_,?_⟩
   ·have hgot:=ho.got
    simp only[AZ] at hgot ⊢
    obtain⟨v',us',A1,A2,e1,hj,h1,h2⟩:=hgot
    simp only[List.cons.injEq] at e1
    obtain⟨rfl,rfl⟩:=e1
    refine⟨_,vals,A1,A2,rfl,hj,h1,a3r 0 _ vals _ A2 hout (by simp [hvl]) (fun i hil0 hb=> ?_) h2⟩
    have hil:i<(S.args x).length:=by omega
    have hfix:=hf.2 i (by simpa using hb)
    have hav:a0.tmps[i]? =vals[i]? :=by
     simp only[a0]
     rw[Array.getElem?_append_left (by simp;omega)]
     simp
    have hvi:vals[i]? =some vals[i]:=by simp
    simp only[List.getElem?_map,List.getElem?_range hil,Option.map_some,Act.eval]
    rw[hav,hvi] at hfix
    simp [Array.getD_eq_getD_getElem?,hfix,hvi]
   ·refine⟨hi.ok.os,hi.ok.tape,hi.ok.output,hi.ok.size,fun b hb hn=> ?_,fun b hb=> ?_⟩
    ·obtain⟨g1,g2⟩:=hi.ok.old b hb hn
     refine⟨g1,fun h=>g2.1 (ho.zz b h),fun h=>Classical.byContradiction fun hn2=> ?_⟩
     have hT:=ho.gone b (g2.2 h) hn2
     exact hn ((hi.own b hT).2.2 hb)
    ·have hT:=ho.part b (.inl hb)
     exact⟨ho.ownA b hb (hi.own b hT).1,(hi.own b hT).2.1,(hi.own b hT).2.2⟩
  cases e with
  |normal=>exact fin hk
  |exit id=>exact hk.elim
  |ret=>exact fin hk
def Γof:List (Nat×Nat×Sig)→FuncId→Nat→Option Sig
 |[],_,_=>none
 |(g,k,S)::l,f,j=>match Nat.beq g f,Nat.beq k j with
  |true,true=>some S
  |_,_=>Γof l f j
def XE(G:GInv)(P:Program):List (Nat×Nat×Sig)→Prop
 |[]=>True
 |(g,_,S)::l=>Ai G P g S∧XE G P l
theorem a3w{G:GInv}{P:Program}:∀ {l:List (Nat×Nat×Sig)},XE G P l→∀f k S,Γof l f k=some S→Ai G P f S
 |[],_,f,k,S,h=>by simp [Γof] at h
 |(g,j,S')::l,ha,f,k,S,h=>by
  unfold Γof at h
  split at h
  ·rename_i hb _
   simp only[Option.some.injEq] at h;subst h
   rw[←Nat.eq_of_beq_eq_true hb];exact ha.1
  ·exact a3w ha.2 f k S h
def Lof:List (Nat×LS)→Nat→Option LS
 |[],_=>none
 |(g,S)::l,f=>match Nat.beq g f with
  |true=>some S
  |false=>Lof l f
def Eof:List (Nat×ES)→TypeId→Option ES
 |[],_=>none
 |(g,S)::l,f=>match Nat.beq g f with
  |true=>some S
  |false=>Eof l f
theorem Av{b:Bool}{p q:Prop}(h1:b=true→p)(h2:b=false→q):Aa b p q:=by
 cases b
 ·exact h2 rfl
 ·exact h1 rfl
abbrev AV.q (n:Int):AV:= .int .i64 n
abbrev Ag:Int:=IntKind.max IntKind.i64
mutual
def Az:AV→AV→Prop→Prop
 | .int _ n,a,R=>match a with
   | .int _ m=>m=n∧R
   |_=>False
 | .bool b,a,R=>match a with
   | .bool c=>c=b∧R
   |_=>False
 | .str l,a,R=>match a with
   | .str m=>m=l∧R
   |_=>False
 | .val v,a,R=>match a with
   | .val u=>u=v∧R
   |_=>False
 | .nil,_,R=>R
 | .any,_,R=>R
 | .top,_,R=>R
 | .agg es,a,R=>match a with
   | .agg azs=>As es azs R
   |_=>False
 | .tup es,a,R=>match a with
   | .tup azs=>As es azs R
   |_=>False
 | .clo _ es,a,R=>match a with
   | .clo _ azs=>As es azs R
   |_=>False
 | .pf c,a,R=>match a with
   | .pf c'=>AV.pf c'=AV.pf c∧R
   | .box _ c'=>AV.pf (fzL c')=AV.pf c∧R
   |_=>False
 | .box _ c,a,R=>match a with
   | .box _ c'=>As c c' R
   |_=>False
 | .bv y c,a,R=>match a with
   | .bv x c'=>x=y∧As c c' R
   |_=>False
 | .sl true _ sz α f xs,a,R=>match a with
   | .nil=>xs=[]∧R
   | .sl true _ sz' α' f' xs'=>AV.sl true 0 sz' α' f' xs'=AV.sl true 0 sz α f xs∧R
   |_=>False
 | .sl false _ sz α f xs,a,R=>match a with
   | .nil=>xs=[]∧R
   | .sl false _ sz' α' f' xs'=>AV.sl false 0 sz' α' f' xs'=AV.sl false 0 sz α f xs∧R
   | .sl true _ sz' α' f' xs'=>AV.sl false 0 sz' α' (fun x=>fzL (f' x)) xs'=AV.sl false 0 sz α f xs∧R
   |_=>False
 | .hole _,_,_=>False
 | .hv _,_,_=>False
 | .al _,_,_=>False
 | .po _ _ _ _,_,_=>False
def As:List AV→List AV→Prop→Prop
 |[],azs,R=>R
 |e::es,azs,R=>match azs with
  |[]=>False
  |a::azs=>Az e a (As es azs R)
end
def mvH:AV→List AV→AV
 | .int k n,r=> .top
 | .bool b,r=> .top
 | .str l,r=> .top
 | .val v,r=> .top
 | .any,r=> .top
 | .top,r=> .top
 | .nil,r=> .top
 | .hole i,r=> .top
 | .al i,r=> .top
 | .po a b c d,r=> .top
 | .agg l,r=> .top
 | .tup l,r=> .top
 | .hv x,r=> .top
 | .pf c,r=> .top
 | .clo f l,r=> .top
 | .box i c,r=> .top
 | .bv x c,r=> .top
 | .sl false i sz α f xs,r=> .top
 | .sl true i sz α f xs,r=> .agg (.sl true i sz α f xs::r)
def mvG:List AV→AV
 |[]=> .top
 |a::r=>mvH a r
def lnH:AV→List AV→AV
 | .int k n,r=> .agg (.int k n::r)
 | .bool b,r=> .agg (.bool b::r)
 | .str l,r=> .agg (.str l::r)
 | .val v,r=> .agg (.val v::r)
 | .any,r=> .agg (.any::r)
 | .top,r=> .agg (.top::r)
 | .nil,r=> .agg (.nil::r)
 | .hole i,r=> .agg (.hole i::r)
 | .al i,r=> .agg (.al i::r)
 | .po a b c d,r=> .agg (.po a b c d::r)
 | .agg l,r=> .agg (.agg l::r)
 | .tup l,r=> .agg (.tup l::r)
 | .hv x,r=> .agg (.hv x::r)
 | .pf c,r=> .agg (.pf c::r)
 | .clo f l,r=> .agg (.clo f l::r)
 | .box i c,r=> .agg (.box i c::r)
 | .bv x c,r=> .agg (.bv x c::r)
 | .sl false i sz α f xs,r=> .agg (.sl false i sz α f xs::r)
 | .sl true i sz α f xs,r=> .top
def lnG:List AV→AV
 |[]=> .agg []
 |a::r=>lnH a r
def mvE:AV→AV
 | .int _ _=> .top
 | .bool _=> .top
 | .str _=> .top
 | .val _=> .top
 | .any=> .top
 | .top=> .top
 | .nil=> .top
 | .hole _=> .top
 | .al _=> .top
 | .po _ _ _ _=> .top
 | .agg l=>mvG l
 | .tup _=> .top
 | .hv _=> .top
 | .pf _=> .top
 | .clo _ _=> .top
 | .box i c=> .box i c
 | .bv x c=> .bv x c
 | .sl true i sz α f xs=> .sl true i sz α f xs
 | .sl false _ _ _ _ _=> .top
def lnE:AV→AV
 | .int k n=> .int k n
 | .bool b=> .bool b
 | .str l=> .str l
 | .val v=> .val v
 | .any=> .any
 | .top=> .top
 | .nil=> .nil
 | .hole i=> .hole i
 | .al i=> .al i
 | .po a b c d=> .po a b c d
 | .agg l=>lnG l
 | .tup l=> .tup l
 | .hv x=> .hv x
 | .pf c=> .pf c
 | .clo f l=> .clo f l
 | .box _ _=> .top
 | .bv _ _=> .top
 | .sl true _ _ _ _ _=> .top
 | .sl false i sz α f xs=> .sl false i sz α f xs
def mvL:List AV→List AV
 |[]=>[]
 |e::es=>mvE e::mvL es
def lnL:List AV→List AV
 |[]=>[]
 |e::es=>lnE e::lnL es
def Bl:List (Nat×AV)→List AV
 |[]=>[]
 |(_,e)::es=>e::Bl es
def cA(S:Sig)(azs:List AV)(K:S.X→S.Y→Prop):Prop:=
 ∃x:S.X,S.pre x∧As (mvL (S.args x)) azs (As (lnL (S.args x)) azs (∀y,S.post x y→K x y))
def eA(L:LS)(azs:List AV):Prop:=∃i,L.inv i∧As (Bl (L.regs i)) azs True∧True
def eN(L:LS)(i:L.ι)(azs:List AV):Prop:=∃i',L.inv i'∧L.meas i'<L.meas i∧As (Bl (L.regs i')) azs True∧True
def rA(S:Sig)(x:S.X)(azs:List AV):Prop:=∃y,S.post x y∧As (S.res x y::S.outs x y) azs True
theorem vcFun_okP{G:GInv}(l:List (Nat×Nat×Sig))(e:List (Nat×ES))(ov:Bool){f:FuncId}{S:Sig}(L:S.X→List (Nat×LS))
 (hfn:P.funcs[f]? =some fn) (hbody:fn.body=some (fn.body.getD .skip)) (hname:(fn.name== "runtime.NumGoroutine")=false)
 (ha:XE G P l) (Q:S.X→Prop) (hq:∀x,Sx P (Γof l) (Eof e) ov (Lof (L x)) fn.ntmps fn.results.toList (fn.body.getD .skip) S x=Q x) (h:∀x,S.pre x→Q x):Ai G P f S:=
 b1J (Γ:=Γof l) (E:=Eof e) (ov:=ov) (L:=fun x=>Lof (L x)) hfn hbody hname (a3w ha) fun x hx=>(hq x).mpr (h x hx)
end Go.Eng
end
section
namespace Go.My
open Go.Eng
variable {n:Nat}{p:UInt8→Bool}{s:List UInt8}
structure Nd where
 kind:Int
 text:List UInt8
 kids:List Int
 blank:Bool
def Bx:Int→List AV:=fun n=>[.int .i64 n]
def Be:List UInt8→List AV:=fun s=>[.str s]
def AQ(l:List Int):AV:= .sl false 0 1 Int Bx l
def Al(l:List Int):AV:= .sl true 0 1 Int Bx l
def ndA(o:Bool):Nd→List AV:=fun x=>[.int .i64 x.kind,.str x.text,.sl o 0 1 Int Bx x.kids,.bool x.blank]
theorem Br(o:Bool)(x:Nd):ndA o x=[.int .i64 x.kind,.str x.text,.sl o 0 1 Int Bx x.kids,.bool x.blank]:=rfl
def nds(l:List Nd):AV:= .sl false 0 4 Nd (ndA false) l
def Bj(l:List Nd):AV:= .sl true 0 4 Nd (ndA true) l
theorem Ae{α:Type}{p q:α→Prop}(x:α)(h2:q x)(h1:p x):∃x,p x∧q x:=⟨x,h1,h2⟩
theorem AC{α β:Type}{p q:α×β→Prop}(a:α)(b:β)(h2:q (a,b))(h1:p (a,b)):∃x,p x∧q x:=⟨_,h1,h2⟩
theorem AD{α β γ:Type}{p q:α×β×γ→Prop}(a:α)(b:β)(c:γ)(h2:q (a,b,c))(h1:p (a,b,c)):∃x,p x∧q x:=⟨_,h1,h2⟩
theorem AE{α β γ δ:Type}{p q:α×β×γ×δ→Prop}(a:α)(b:β)(c:γ)(d:δ)(h2:q (a,b,c,d))(h1:p (a,b,c,d)):∃x,p x∧q x:=⟨_,h1,h2⟩
theorem AF{α β γ δ ε:Type}{p q:α×β×γ×δ×ε→Prop}(a:α)(b:β)(c:γ)(d:δ)(e:ε)(h2:q (a,b,c,d,e))(h1:p (a,b,c,d,e)):∃x,p x∧q x:=⟨_,h1,h2⟩
theorem AG{α β γ δ ε ζ:Type}{p q:α×β×γ×δ×ε×ζ→Prop}(a:α)(b:β)(c:γ)(d:δ)(e:ε)(f:ζ)(h2:q (a,b,c,d,e,f))(h1:p (a,b,c,d,e,f)):∃x,p x∧q x:=⟨_,h1,h2⟩
theorem AH{o:Bool}{id sz:Nat}{α:Type}{f:α→List AV}{l l':List α}(h:l=l'):AV.sl o id sz α f l=AV.sl o id sz α f l':=by rw[h]
theorem AA{p:Prop}[Decidable p]{P Q:Prop}(h1:p→P)(h2:¬p→Q):Aa (decide p) P Q:=
 Av (fun h=>h1 (of_decide_eq_true h)) (fun h=>h2 (of_decide_eq_false h))
theorem Ek{α:Type}{l:List α}{e:α}(h:l[n]? =some e):∃h:n<l.length,l[n]=e:=List.getElem?_eq_some_iff.1 h
theorem Bm{α:Type}{l:List α}{e:α}(h:l[n]? =some e):e∈l:=List.mem_of_getElem? h
theorem HI{α:Type}{l:List α}{e:α}(h:l[n]? =some e):l.drop n=e::l.drop (n+1):=by
 obtain⟨h1,h2⟩:=Ek h
 rw[←h2];exact List.drop_eq_getElem_cons h1
theorem ED{α:Type}{l:List α}{e:α}(h:l[n]? =some e):l.take (n+1)=l.take n++[e]:=by
 rw[List.take_add_one,h];rfl
theorem AI{α:Type}[BEq α][LawfulBEq α]{a b:α}{P Q:Prop}(h1:a≠b→P)(h2:a=b→Q):Aa (a != b) P Q:=
 Av (fun h=>h1 (by simpa using h)) (fun h=>h2 (by simpa using h))
theorem AB{α:Type}[BEq α][LawfulBEq α]{a b:α}{P Q:Prop}(h1:a=b→P)(h2:a≠b→Q):Aa (a==b) P Q:=
 Av (fun h=>h1 (by simpa using h)) (fun h=>h2 (by simpa using h))
theorem AJ{b:Bool}{P Q:Prop}(h1:b=false→P)(h2:b=true→Q):Aa (!b) P Q:=
 Av (fun h=>h1 (by simpa using h)) (fun h=>h2 (by simpa using h))
theorem Dd{i:Int}(h:0≤i):(i+1).toNat=i.toNat+1:=by omega
theorem An:IntKind.i64.max=9223372036854775807:=rfl
theorem AK{n:Int}(h1: -9223372036854775808≤n)(h2:n≤9223372036854775807):inR .i64 n:=by
 unfold inR;simp [IntKind.min,IntKind.max,IntKind.bits,IntKind.signed];omega
def Bn(c:UInt8):Bool:=decide (48≤c.toNat)&&decide (c.toNat≤57)
def Ck(c:UInt8):Bool:=(decide (97≤c.toNat)&&decide (c.toNat≤122))||((decide (65≤c.toNat)&&decide (c.toNat≤90))||decide (c.toNat=95))
def BM(c:UInt8):Bool:=Ck c||Bn c
def BJ(c:UInt8):Bool:=decide (32≤c.toNat)&&decide (c.toNat≤126)
def Cj(c:UInt8):Bool:=decide (c.toNat≠10)
def kw(s:List UInt8):Bool:=s==[99,108,97,115,115]||(s==[118,97,114]||(s==[105,102]||(s==[101,108,115,101]||(s==[119,104,105,108,101]||s==[114,101,116,117,114,110]))))
def mk2(s:List UInt8):Bool:=s==[38,38]||(s==[124,124]||(s==[61,61]||(s==[61,62]||s==[46,46])))
def mk1:List UInt8:=[40,41,123,125,91,93,59,44,46,61,43,45,42,60,63,58]
def CP(s:List UInt8):Bool:=mk2 s||match s with
 |[c]=>mk1.elem c
 |_=>false
def Eo(p:UInt8→Bool):List UInt8→Option Nat
 |[]=>none
 |c::s=>if p c then some 0 else(Eo p s).map (· +1)
def CQ(s:List UInt8):List UInt8:=(s.reverse.dropWhile (fun c=>decide (c.toNat=32))).reverse
def DK(s:List UInt8):List UInt8×Bool:=match Eo (fun c=>decide (c.toNat=39)) (s.drop 1) with
 |none=>([],false)
 |some i=>(s.take (i+2),(s.take (i+2)).all BJ)
structure SgR where
 kind:Int
 text:List UInt8
 size:Int
 ok:Bool
def Bg(s:List UInt8):SgR:=match s with
 |[]=>⟨0,[],0,false⟩
 |b::_=>
  if Ck b then⟨1,s.takeWhile BM,(s.takeWhile BM).length,decide ((s.takeWhile BM).length≤30)⟩
  else if Bn b then⟨2,s.takeWhile Bn,(s.takeWhile Bn).length,decide ((s.takeWhile Bn).length≤12)⟩
  else if b.toNat=39 then⟨3,(DK s).1,(DK s).1.length,(DK s).2⟩
  else if s.take 2=[47,47] then⟨5,CQ (s.takeWhile Cj),(s.takeWhile Cj).length,(s.takeWhile Cj).all BJ⟩
  else if CP (s.take 2) then⟨4,s.take 2,(s.take 2).length,true⟩
  else if CP (s.take 1) then⟨4,s.take 1,1,true⟩
  else⟨0,[],0,false⟩
def Cr(s:List UInt8)(k:Int):Bool:= !(s==[])&&((Bg s).ok&&(decide ((Bg s).kind=k)&&((Bg s).text==s&&decide ((Bg s).size=s.length))))
def DL(s:List UInt8):Bool:=Cr s 1&& !kw s
def JG(s:List UInt8):Bool:=s==[38,38]||(s==[124,124]||(s==[61,61]||(s==[60]||(s==[43]||(s==[45]||s==[42])))))
def EO(k:Int)(s:List UInt8):Bool:=
 if k=1∨k=6∨k=12∨k=13∨k=20∨k=21 then DL s
 else if k=2 then Cr s 2
 else if k=3 then Cr s 3
 else if k=19 then Cr s 5
 else if k=7 then JG s
 else s==[]
theorem JH{p:UInt8→Bool}:∀ {s:List UInt8} {n:Nat},(∀e∈s.take n,p e=true)→(s.length≤n∨∃e,s[n]? =some e∧p e=false)→s.take n=s.takeWhile p
 |[],n,_,_=>by simp
 |c::s,0,_,h=>by
  rcases h with h|⟨e,he,hp⟩
  ·simp at h
  ·simp at he;subst he;simp [List.takeWhile,hp]
 |c::s,n+1,ha,h=>by
  have hc:p c=true:=ha c (by simp)
  rw[List.take_succ_cons,List.takeWhile_cons,if_pos hc,JH (fun e he=>ha e (by simp [he]))]
  rcases h with h|⟨e,he,hp⟩
  ·exact .inl (by simpa using h)
  ·exact .inr ⟨e,by simpa using he,hp⟩
theorem Qh{e:UInt8}(h:∀e∈s.take n,p e=true)(he:s[n]? =some e)(hp:p e=true):∀e∈s.take (n+1),p e=true:=by
 rw[ED he];intro x hx
 rcases List.mem_append.1 hx with hx|hx
 ·exact h x hx
 ·simp at hx;subst hx;exact hp
theorem XF(h:∀e∈s.take n,p e=true)(hn:s.length≤n):s.all p=true:=by
 rw[List.take_of_length_le hn] at h;exact List.all_eq_true.2 h
theorem Sy{e:UInt8}(he:s[n]? =some e)(hp:p e=false):s.all p=false:=by
 rw[Bool.eq_false_iff];intro h
 rw[List.all_eq_true.1 h e (List.mem_of_getElem? he)] at hp;cases hp
theorem Sz:s.takeWhile p=s↔s.all p=true:=by
 constructor
 ·intro h;rw[←h];exact List.all_takeWhile
 ·intro h;induction s with
  |nil=>rfl
  |cons c s ih=>
   simp only[List.all_cons,Bool.and_eq_true] at h
   rw[List.takeWhile_cons,if_pos h.1,ih h.2]
theorem XG{p:UInt8→Bool}:∀ {s:List UInt8},Eo p s=none↔∀e∈s,p e=false
 |[]=>by simp [Eo]
 |c::s=>by
  unfold Eo
  by_cases h:p c=true
  ·simp [h]
  ·simp [h,XG (s:=s)]
theorem LQ{p:UInt8→Bool}:∀ {s:List UInt8} {i:Nat},Eo p s=some i↔(∀e∈s.take i,p e=false)∧∃e,s[i]? =some e∧p e=true
 |[],i=>by simp [Eo]
 |c::s,i=>by
  unfold Eo
  by_cases h:p c=true
  ·cases i with
   |zero=>simp [h]
   |succ i=>simp [h]
  ·cases i with
   |zero=>simp [h]
   |succ i=>
    simp only[h,Bool.false_eq_true,if_false,Option.map_eq_some_iff]
    constructor
    ·rintro⟨j,hj,e⟩
     obtain rfl:j=i:=by omega
     obtain⟨h1,h2⟩:=LQ.1 hj
     refine⟨?_,by simpa using h2⟩
     intro e he;simp at he
     rcases he with rfl|he
     ·simpa using h
     ·exact h1 e he
    ·rintro⟨h1,h2⟩
     exact⟨i,LQ.2 ⟨fun e he=>h1 e (by simp [he]),by simpa using h2⟩,rfl⟩
end Go.My
end
