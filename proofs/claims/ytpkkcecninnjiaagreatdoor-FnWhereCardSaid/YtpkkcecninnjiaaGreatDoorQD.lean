/- joined -/
import Derived.Test.YtpkkcecninnjiaaGreatDoorQC
import Derived.Deep.Quiet
import Derived.Orders
import Derived.OrdersHeld
import Derived.Test.YtpkkcecninnjiaaGreatDoorProg
set_option linter.unusedSimpArgs false
set_option linter.unusedVariables false
section
namespace Go.Eng
variable {C:Ctx}{G:GInv}{K:St→Prop}{P:Program}{Q:Exit→Act→World→Prop}{S:Sig}{T Z:FP}{a a0:Act}{f:FuncId}{fn:Func}{id n:Nat}{js:List Nat}{o:Oper}{ops:Array Oper}{ov:Bool}{s:St}{w w':World}{Γ:FuncId→Nat→Option Sig}{η:Nat→Value}
def HU(js:List Nat):Option Nat→Bool
 |some d=> !(js.elem d)
 |none=>true
def Eo(js:List Nat)(a0 a:Act):Prop:=a.tmps.size=a0.tmps.size∧∀j,js.elem j=true→a.tmps[j]? =a0.tmps[j]?
theorem Eo.put(h:Eo js a0 a){d:Option Nat}(hd:HU js d=true)(v:Value):Eo js a0 (a.put d v):=by
 refine⟨by cases d<;>simp [Act.put,h.1],?_⟩
 intro j hj
 cases d with
 |none=>exact h.2 j hj
 |some d=>
  simp only[HU,EV] at hd
  have:d≠j:=fun e=>by rw[e,hj] at hd;cases hd
  simp only[Act.put]
  rw[VN this]
  exact h.2 j hj
def Hc(want c:Bool)(p q:Prop):Prop:=match want,c with
 |true,true=>p
 |false,false=>p
 |_,_=>q
def Rb(P:Program)(Γ:FuncId→Nat→Option Sig)(ops:Array Oper)(o:Oper):List Nat→Bool
 |i1::i2::_=>match ops[i1]?,ops[i2]? with
  |some o1,some o2=>a7J P Γ o o1 o2
  |_,_=>false
 |_=>false
def EJ(P:Program)(Γ:FuncId→Nat→Option Sig)(E:TypeId→Option ES)(ov:Bool)(ops:Array Oper):List Nat→St→(St→Prop)→Prop
 |[],s,K=>K s
 |i::rest,s,K=>match ops[i]? with
  |none=>EJ P Γ E ov ops rest s K
  |some o=>match o.guard with
   |none=>match Rb P Γ ops o rest with
    |true=>match rest with
     |i1::i2::rest'=>match ops[i1]?,ops[i2]? with
      |some o1,some o2=>a1o P Γ o o1 o2 s fun s'=>EJ P Γ E ov ops rest' s' K
      |_,_=>False
     |_=>False
    |false=>Ko P Γ E ov o s fun s'=>EJ P Γ E ov ops rest s' K
   |some (j,want)=>match(ops[j]?).bind (·.dst) with
    |none=>False
    |some d=>match s.regs[d]? with
     |some (.tup _)=>EJ P Γ E ov ops rest ⟨setR s.regs o.dst (.tup []),s.nx⟩ K
     |some (.bool c)=>Ae c
       (Hc want true (Ko P Γ E ov o ⟨s.regs.set d (.bool true),s.nx⟩ fun s'=>EJ P Γ E ov ops rest s' K)
         (EJ P Γ E ov ops rest ⟨setR (s.regs.set d (.bool true)) o.dst (.tup []),s.nx⟩ K))
       (Hc want false (Ko P Γ E ov o ⟨s.regs.set d (.bool false),s.nx⟩ fun s'=>EJ P Γ E ov ops rest s' K)
         (EJ P Γ E ov ops rest ⟨setR (s.regs.set d (.bool false)) o.dst (.tup []),s.nx⟩ K))
     |_=>False
theorem a7L(Z:FP)(η:Nat→Value)(w:World):Af Z η w (.tup []) undef (fun _=>False):=by
 simp only[Af,Am];exact⟨[],rfl,rfl,AI⟩
theorem Rel.skip(h:Rel C s a w)(dst:Option Nat):Rel C ⟨setR s.regs dst (.tup []),s.nx⟩ (a.put dst undef) w:=by
 obtain⟨η,Z,T,hi⟩:=h
 exact hi.put dst (a7L Z η w) trivial
theorem Rel.know(h:Rel C s a w){d:Nat}{c:Bool}(hd:s.regs[d]? =some (.bool c)):
 Rel C ⟨s.regs.set d (.bool c),s.nx⟩ a w∧a.tmps[d]? =some (.bool c):=by
 have e:s.regs.set d (.bool c)=s.regs:=by
  apply LP
  intro i
  rw[Qw]
  split
  ·rename_i h1;subst h1
   split
   ·exact hd.symm
   ·rename_i h2;simp at h2;rw[Gi h2] at hd;cases hd
  ·rfl
 obtain⟨η,Z,T,hi⟩:=h
 obtain⟨v,A,B,hv,hr,_⟩:=Gl s.regs _ T d _ hi.rel hd
 simp only[Af,Aj] at hr
 refine⟨by rw[e];exact⟨η,Z,T,hi⟩,?_⟩
 rw[←Fi,hv,hr.1]
theorem Rc{P:Program}{Γ:FuncId→Nat→Option Sig}{C:Ctx}(hΓ:∀f k S,Γ f k=some S→Eb C.G P f S){E:TypeId→Option ES}{ov:Bool}{ops:Array Oper}{js:List Nat}{a0:Act}
 (hjs:∀(i:Nat) (o:Oper),ops[i]? =some o→HU js o.dst=true) {Q:Exit→Act→World→Prop}:∀(l:List Nat) (s:St) (K:St→Prop) (a:Act) (w:World),EJ P Γ E ov ops l s K→
 Rel C s a w→Eo js a0 a→(∀s' a' w',K s'→Rel C s' a' w'→Eo js a0 a'→Q .normal a' w')→wpOps P ops Q l a w
 |[],s,K,a,w,h,hr,hf,hQ=>hQ s a w h hr hf
 |i::rest,s,K,a,w,h,hr,hf,hQ=>by
  unfold EJ at h
  unfold wpOps
  split at h
  ·rename_i ho
   simp only[ho]
   exact Rc hΓ hjs rest s K a w h hr hf hQ
  ·rename_i o ho
   simp only[ho]
   have hav:=hjs i o ho
   have run:∀(s1:St),Rel C s1 a w→Ko P Γ E ov o s1 (fun s'=>EJ P Γ E ov ops rest s' K)→o.wp P a w (wpOps P ops Q rest) Q:=by
    intro s1 hr1 h1
    have:=a1m hΓ h1 hr1 Q
    refine Oper_wp_mono this ?_
    rintro a' w' ⟨s',hk,hr',v,rfl⟩
    exact Rc hΓ hjs rest s' K _ w' hk hr' (hf.put hav v) hQ
   have skip:∀(s1:St),Rel C s1 a w→EJ P Γ E ov ops rest ⟨setR s1.regs o.dst (.tup []),s1.nx⟩ K→wpOps P ops Q rest (a.put o.dst undef) w:=by
    intro s1 hr1 h1
    exact Rc hΓ hjs rest _ K _ w h1 (hr1.skip o.dst) (hf.put hav undef) hQ
   split at h
   ·rename_i hg
    have hw:Region.wanted o (yielded ops a.tmps)=true:=by simp [Region.wanted,hg]
    rw[if_pos hw]
    split at h
    ·rename_i hn
     split at h
     ·rename_i i1 i2 rest'
      split at h
      ·rename_i o1 o2 ho1 ho2
       have hg12:o1.guard=none∧o2.guard=none:=by
        simp only[Rb,ho1,ho2,a7J] at hn
        split at hn
        ·rename_i h1 h2 h3;exact⟨h2,h3⟩
        ·cases hn
       obtain⟨v,v1,e1,e2,e3⟩:=b7h hΓ h hr Q
       refine .inl ?_
       unfold Oper.wp
       rw[e1,Oper.upon_value]
       unfold wpOps
       simp only[ho1]
       have hw1:∀t,Region.wanted o1 (yielded ops t)=true:=fun t=>by simp [Region.wanted,hg12.1]
       rw[if_pos (hw1 _)]
       refine .inl ?_
       unfold Oper.wp
       rw[e2,Oper.upon_value]
       unfold wpOps
       simp only[ho2]
       have hw2:∀t,Region.wanted o2 (yielded ops t)=true:=fun t=>by simp [Region.wanted,hg12.2]
       rw[if_pos (hw2 _)]
       refine .inl ?_
       refine Oper_wp_mono e3 ?_
       rintro a' w' ⟨s',hk,hr',v2,rfl⟩
       exact Rc hΓ hjs rest' s' K _ w' hk hr' (((hf.put hav v).put (hjs i1 o1 ho1) v1).put (hjs i2 o2 ho2) v2) hQ
      ·exact h.elim
     ·exact h.elim
    ·exact .inl (run s hr h)
   ·rename_i j want hg
    split at h
    ·exact h.elim
    ·rename_i d hd
     have hy:yielded ops a.tmps j=(match a.tmps[d]? with|some (.bool b)=>some b|_=>none):=by
      simp only[yielded,hd];rfl
     split at h
     ·rename_i fs hreg
      have hnone:yielded ops a.tmps j=none:=by
       obtain⟨η,Z,T,hi⟩:=hr
       obtain⟨v,A,B,hv,hrr,_⟩:=Gl s.regs _ T d _ hi.rel hreg
       simp only[Af] at hrr
       obtain⟨cs,e,_⟩:=hrr
       have:a.tmps[d]? =some v:=by rw[←Fi,hv]
       rw[hy,this,e]
      have hw:¬Region.wanted o (yielded ops a.tmps)=true:=by simp [Region.wanted,hg,hnone]
      rw[if_neg hw]
      exact skip s hr h
     ·rename_i c hreg
      obtain⟨hr1,ht⟩:=hr.know hreg
      have hyc:yielded ops a.tmps j=some c:=by rw[hy,ht]
      have hw:Region.wanted o (yielded ops a.tmps)=(c==want):=by simp [Region.wanted,hg,hyc]
      rw[hw]
      unfold Ae at h
      cases c
      ·cases want
       ·simp only[Hc] at h
        rw[if_pos (by rfl)];exact .inl (run _ hr1 h)
       ·simp only[Hc] at h
        rw[if_neg (by decide)];exact skip _ hr1 h
      ·cases want
       ·simp only[Hc] at h
        rw[if_neg (by decide)];exact skip _ hr1 h
       ·simp only[Hc] at h
        rw[if_pos (by rfl)];exact .inl (run _ hr1 h)
     ·exact h.elim
where
 Oper_wp_mono {P:Program} {o:Oper} {a:Act} {w:World} {N N':Act→World→Prop} {Q:Exit→Act→World→Prop} (h:o.wp P a w N Q) (hn:∀a' w',N a' w'→N' a' w'):o.wp P a w N' Q:=by
  unfold Oper.wp Oper.upon at*
  split at h
  ·exact hn _ _ h
  ·exact hn _ _ h
  ·exact hn _ _ h
  ·refine h.mono ?_
   intro e w' he
   cases e with
   |returned v=>exact hn _ _ he
   |panicked c=>exact he
   |outgrown=>exact he
  ·exact h.mono fun v w' hh=>hn _ _ hh
  ·exact h
  ·exact h.elim
structure Ext (w w':World):Prop where
 os:w'.os=w.os
 tape:w'.tape=w.tape
 output:w'.output=w.output
 sees:Sees w w'
theorem Rel.ext(h:Rel C s a w)(he:Ext w w'):Rel C s a w':=by
 obtain⟨η,Z,T,hi⟩:=h
 refine⟨η,Z,T,hi.defers,?_,hi.ids,fun b hb=>⟨(hi.own b hb).1,Ev (hi.own b hb).2.1 he.sees.size,(hi.own b hb).2.2⟩,?_⟩
 ·exact Dj (n:=s.nx) (fun b hz hb=>⟨hz,he.sees.old b hb⟩) (fun _ _=>rfl) _ _ _ hi.ids (fun b hb=>he.sees.old b (hi.own b hb).2.1) hi.rel
 ·refine⟨he.os.trans hi.ok.os,he.tape.trans hi.ok.tape,he.output.trans hi.ok.output,Jt hi.ok.size he.sees.size,fun b hb hn=> ?_⟩
  obtain⟨g1,g2⟩:=hi.ok.old b hb hn
  exact⟨(he.sees.old b (Ev hb hi.ok.size)).trans g1,g2⟩
def Rd(P:Program)(Γ:FuncId→Nat→Option Sig)(ov:Bool)(o:Oper)(s:St)(K:AV→Prop):Prop:=
 match o.op with
 | .call ⟨.value f,args,ts⟩=>match Bj s.regs f with
   | .clo (.func g) caps=>match Γ g (Wk (args.toList.map (Bj s.regs)++caps)) with
     |some S=>match S.caps with
      |[]=>∃x:S.X,S.pre x∧Ff true (S.args x) s.regs (args.toList.map (Bj s.regs)++caps) fun _=>
       ∃y0,(∀y,S.post x y→S.res x y=S.res x y0)∧TI (S.res x y0)=true∧K (S.res x y0)
      |_::_=>False
     |none=>False
   |_=>False
 |op=>EI P ov s.regs op K
theorem b7i(hΓ:∀f k S,Γ f k=some S→Eb C.G P f S){K:AV→Prop}(h:Rd P Γ ov o s K)
   (hr:Rel C s a w) {N:Act→Prop} (hN:∀v r,K r→Rel C ⟨setR s.regs o.dst r,s.nx⟩ (a.put o.dst v) w→N (a.put o.dst v)):o.quiet P a (Ext w) N:=by
  obtain⟨η,Z,T,hi⟩:=hr
  have hop:=FQ hi.rel
  have hid:=Iz hi.ids
  unfold Rd at h
  split at h
  ·rename_i f args ts heq
   split at h
   ·rename_i g caps hf
    split at h
    ·rename_i S hS
     have hc:=hΓ g _ S hS
     have hcap0:S.caps=[]:=by
      cases hcc:S.caps with
      |nil=>rfl
      |cons c cs=>rw[hcc] at h;exact h.elim
     rw[hcap0] at h
     obtain⟨x,hpre,h⟩:=h
     have hfv:=hop f
     have hfi:=hid f
     rw[hf] at hfv hfi
     simp only[Af] at hfv
     simp only[Az] at hfi
     obtain⟨cs,hfe,hcs⟩:=hfv
     have hargs:=Nv _ _ _ _ _ _ _ (Ty (a:=a) hi.rel args.toList) hcs (Cu _)
     have happ:∀(l1 l2:List AV),AN s.nx l1→AN s.nx l2→AN s.nx (l1++l2):=by
      intro l1
      induction l1 with
      |nil=>intro l2 _ h2;simpa using h2
      |cons x l1 ih=>intro l2 h1 h2;exact⟨h1.1,ih l2 h1.2 h2⟩
     obtain⟨Z1,A1,B1,r1,ho⟩:=HT (S.args x) s.regs _ _ h Z a.tmps.toList _ T (fun _=>False) T hi.rel hi.ids hargs (happ _ _ (Tz hi.ids args.toList) hfi) (Cu T)
     obtain⟨y0,hy0,hsc,hk⟩:=ho.k
     have hA1:A1=fun _=>False:=Fx fun b hb=>ho.stay rfl b hb
     have hgot:=ho.got
     rw[hA1] at hgot
     obtain⟨⟨⟨fn,hfn,hnm,hbody⟩,_⟩,hcc⟩:=hc
     refine⟨scV (S.res x y0),fun w' hw'=> ?_,hN _ _ hk ?_⟩
     ·unfold Oper.quietAt
      have he:(execOp a.eval o).run P w'= .ok (.enter g (args.toList.map a.eval++cs).toArray) w':=by
       simp only[execOp,heq,resolve,hfe,HS,Deferred.ofValue]
       rw[AC (Cy P _ w')]
       simp only[invoke,callFunc,program]
       rw[AC (x:=P) (w':=w') rfl]
       simp only[hfn,hnm,Bl,Br,hbody]
       simp only[Cy]
       congr 2
       apply Oy;simp
      rw[he]
      refine⟨rfl,?_⟩
      have hgot':=Ea (Z':=Z1) (w':=w') (fun b hz hb=>⟨hz,hw'.sees.old b hb⟩) _ _ _ (fun b hb=>hb.elim) hgot
      refine(hcc x hpre Z1 w' _ _ (C.G.mono _ _ _ _ (fun b hb hlt=>⟨fun x=>hb (ho.zz b x),hw'.sees.old b hlt⟩) hi.ok.glob) hgot' (fun b hb=>hb.elim) (by rw[hcap0];trivial)).mono ?_
      rintro e w'' ⟨y,v,Z',A',hpost,rfl,hres,haft⟩
      simp only[AU] at hres
      obtain⟨v',us',Ar,Ao,e1,hjr,hr1,hr3⟩:=hres
      simp only[HQ] at e1
      obtain⟨rfl,rfl⟩:=e1
      rw[hy0 y hpost] at hr1
      refine⟨by rw[b7e hr1 hsc],haft.os.trans hw'.os,haft.tape.trans hw'.tape,haft.output.trans hw'.output,Jt hw'.sees.size haft.size,fun b hb=> ?_⟩
      exact(haft.old b (Ev hb hw'.sees.size) id).1.trans (hw'.sees.old b hb)
     ·exact hi.put o.dst (a7H hsc Z η w s.nx).1 (a7H hsc Z η w s.nx).2
    ·exact h.elim
   ·exact h.elim
  ·obtain⟨v,r,h1,h2,h3,h4⟩:=a0K h hi.rel hi.ids
   refine⟨v,fun w' hw'=> ?_,hN v r h4 (hi.put o.dst h2 h3)⟩
   unfold Oper.quietAt
   rw[h1 w' hw'.sees]
   exact⟨rfl,rfl⟩
def vcQ(P:Program)(Γ:FuncId→Nat→Option Sig)(ov:Bool)(ops:Array Oper):List Oper→St→(St→Prop)→Prop
 |[],s,K=>K s
 |o::rest,s,K=>match o.guard with
  |none=>Rd P Γ ov o s fun r=>vcQ P Γ ov ops rest ⟨setR s.regs o.dst r,s.nx⟩ K
  |some (j,want)=>match(ops[j]?).bind (·.dst) with
   |none=>False
   |some d=>match s.regs[d]? with
    |some (.tup _)=>vcQ P Γ ov ops rest ⟨setR s.regs o.dst (.tup []),s.nx⟩ K
    |some (.bool c)=>Ae c
      (Hc want true (Rd P Γ ov o ⟨s.regs.set d (.bool true),s.nx⟩ fun r=>vcQ P Γ ov ops rest ⟨setR (s.regs.set d (.bool true)) o.dst r,s.nx⟩ K)
        (vcQ P Γ ov ops rest ⟨setR (s.regs.set d (.bool true)) o.dst (.tup []),s.nx⟩ K))
      (Hc want false (Rd P Γ ov o ⟨s.regs.set d (.bool false),s.nx⟩ fun r=>vcQ P Γ ov ops rest ⟨setR (s.regs.set d (.bool false)) o.dst r,s.nx⟩ K)
        (vcQ P Γ ov ops rest ⟨setR (s.regs.set d (.bool false)) o.dst (.tup []),s.nx⟩ K))
    |_=>False
theorem a1r{P:Program}{Γ:FuncId→Nat→Option Sig}{C:Ctx}(hΓ:∀f k S,Γ f k=some S→Eb C.G P f S){ov:Bool}{ops:Array Oper}{js:List Nat}{a0:Act}{w:World}:
 ∀(l:List Oper) (s:St) (K:St→Prop) (a:Act),(∀o∈l,HU js o.dst=true)→vcQ P Γ ov ops l s K→Rel C s a w→Eo js a0 a→
 wpQuiet P ops (Ext w) (fun a'=>∃s',K s'∧Rel C s' a' w∧Eo js a0 a') l a
 |[],s,K,a,hjs,h,hr,hf=>⟨s,h,hr,hf⟩
 |o::rest,s,K,a,hjs,h,hr,hf=>by
  unfold vcQ at h
  unfold wpQuiet
  have hav:=hjs o (by simp)
  have hjs':∀o∈rest,HU js o.dst=true:=fun o ho=>hjs o (by simp [ho])
  have run:∀(s1:St),Rel C s1 a w→Rd P Γ ov o s1 (fun r=>vcQ P Γ ov ops rest ⟨setR s1.regs o.dst r,s1.nx⟩ K)→
   o.quiet P a (Ext w) (wpQuiet P ops (Ext w) (fun a'=>∃s',K s'∧Rel C s' a' w∧Eo js a0 a') rest):=by
   intro s1 hr1 h1
   exact b7i hΓ h1 hr1 fun v r hk hr'=>a1r hΓ rest _ K _ hjs' hk hr' (hf.put hav v)
  have skip:∀(s1:St),Rel C s1 a w→vcQ P Γ ov ops rest ⟨setR s1.regs o.dst (.tup []),s1.nx⟩ K→
   wpQuiet P ops (Ext w) (fun a'=>∃s',K s'∧Rel C s' a' w∧Eo js a0 a') rest (a.put o.dst undef):=by
   intro s1 hr1 h1
   exact a1r hΓ rest _ K _ hjs' h1 (hr1.skip o.dst) (hf.put hav undef)
  split at h
  ·rename_i hg
   have hw:Region.wanted o (yielded ops a.tmps)=true:=by simp [Region.wanted,hg]
   rw[if_pos hw]
   exact run s hr h
  ·rename_i j want hg
   split at h
   ·exact h.elim
   ·rename_i d hd
    have hy:yielded ops a.tmps j=(match a.tmps[d]? with|some (.bool b)=>some b|_=>none):=by
     simp only[yielded,hd];rfl
    split at h
    ·rename_i fs hreg
     have hnone:yielded ops a.tmps j=none:=by
      obtain⟨η,Z,T,hi⟩:=hr
      obtain⟨v,A,B,hv,hrr,_⟩:=Gl s.regs _ T d _ hi.rel hreg
      simp only[Af] at hrr
      obtain⟨cs,e,_⟩:=hrr
      have:a.tmps[d]? =some v:=by rw[←Fi,hv]
      rw[hy,this,e]
     have hw:¬Region.wanted o (yielded ops a.tmps)=true:=by simp [Region.wanted,hg,hnone]
     rw[if_neg hw]
     exact skip s hr h
    ·rename_i c hreg
     obtain⟨hr1,ht⟩:=hr.know hreg
     have hyc:yielded ops a.tmps j=some c:=by rw[hy,ht]
     have hw:Region.wanted o (yielded ops a.tmps)=(c==want):=by simp [Region.wanted,hg,hyc]
     rw[hw]
     unfold Ae at h
     cases c
     ·cases want
      ·simp only[Hc] at h
       rw[if_pos (by rfl)];exact run _ hr1 h
      ·simp only[Hc] at h
       rw[if_neg (by decide)];exact skip _ hr1 h
     ·cases want
      ·simp only[Hc] at h
       rw[if_neg (by decide)];exact skip _ hr1 h
      ·simp only[Hc] at h
       rw[if_pos (by rfl)];exact run _ hr1 h
    ·exact h.elim
theorem b7j(hΓ:∀f k S,Γ f k=some S→Eb C.G P f S)
     (hm:P.follows .mixedOrders=true) (hB:Region.lexB .any ops=true) (h:vcQ P Γ ov ops ops.toList s K) (hjs:∀o∈ops.toList,HU js o.dst=true)
 (hr:Rel C s a w) (hf:Eo js a0 a) (hQ:∀s' a' w',K s'→Rel C s' a' w'→Eo js a0 a'→Q .normal a' w'):(Code.region id ops true).wp P Q a w:=by
 refine wp_region_quiet (C:=Ext w) hm hB ⟨rfl,rfl,rfl,Bu _,fun _ _=>rfl⟩ ?_
 have:=a1r hΓ (a0:=a0) ops.toList s K a hjs h hr hf
 refine wpQuiet_mono' ?_ ops.toList a this
 rintro a' ⟨s',hk,hr',hf'⟩ w' hw'
 exact hQ s' a' w' hk (hr'.ext hw') hf'
where
 wpQuiet_mono' {P:Program} {ops:Array Oper} {C:World→Prop} {R R':Act→Prop} (h:∀a,R a→R' a):∀(l:List Oper) (a:Act),wpQuiet P ops C R l a→wpQuiet P ops C R' l a
  |[],a,hh=>h a hh
  |o::l,a,hh=>by
   unfold wpQuiet at hh ⊢
   split at hh
   ·rename_i hw;rw[if_pos hw];exact Oper.quiet_mono (wpQuiet_mono' h l) hh
   ·rename_i hw;rw[if_neg hw];exact wpQuiet_mono' h l _ hh
theorem b7k{L:List Value}{sz off:Nat}{v:Value}(h:off<sz)(hle:n+sz≤L.length):over L n (((L.drop n).take sz).set off v)=L.set (n+off) v:=by
 have e:L=L.take n++((L.drop n).take sz++L.drop (n+sz)):=by rw[←Dv,Fw,Fw]
 have hn:(L.take n).length=n:=by simp;omega
 have hs:((L.drop n).take sz).length=sz:=by simp;omega
 have e2:L.set (n+off) v=(L.take n++((L.drop n).take sz++L.drop (n+sz))).set (n+off) v:=by rw[←e]
 rw[e2,List.set_append_right _ _ (by omega),List.set_append_left _ _ (by omega)]
 unfold over
 rw[Lf,hs,Bz,hn,show n+off-n=off by omega]
theorem b7l{j sz:Nat}{α:Type}{f:α→List AV}{xs:List α}{A:FP}(h:Af Z η w (.sl true j sz α f xs) (η id) A)(hji:j=id)
 {k off:Nat} {z:α} {c:AV} (hz:xs[k]? =some z) (hc:(f z)[off]? =some c):
 ∃b boff arr ty v Ac Ar,Gk (η id)=⟨b,boff,none⟩∧w.heap[b]? =some (.cells arr ty (0,0))∧arr.toList[boff+(k*sz+off)]? =some v∧Aj Z w c v Ac∧Bm A Ac Ar∧
  Ar b∧∀(Z':FP) (η':Nat→Value) (w':World) (o':AV) (z':α) (Ac':FP) (v':Value) (i':Nat),η' i'=η id→(∀x,Ar x→x≠b→w'.heap[x]? =w.heap[x]?)→w'.heap[b]? =some (.cells (arr.toList.set (boff+(k*sz+off)) v').toArray ty (0,0))→
   (∀x,¬Z x→x<w.heap.size→¬Z' x∧w'.heap[x]? =w.heap[x]?)→
   Aj Z' w' o' v' Ac'→(∀x,Ac' x→¬Ar x)→f z'=(f z).set off o'→∃A',Bm A' Ac' Ar∧Af Z' η' w' (.sl true i' sz α f (xs.set k z')) (η' i') A':=by
 subst hji
 simp only[Af,Aj] at h
 obtain⟨_,ad0,n0,c0,hη,hn0,hc0,hrow0⟩:=h
 rcases hrow0 with⟨_,hrow0⟩|⟨hx,_⟩
 rotate_left
 ·cases hx
 have hk:k<xs.length:=(DT.1 hz).1
 rcases hrow0 with⟨_,hcz,_⟩|⟨b,boff,arr,ty,S1,hab,hb,hfit,hrows,hjb⟩
 ·omega
 subst hab
 obtain⟨A2,B2,hj2,hR,hle,hset⟩:=a1p xs _ S1 k z hrows hz
 obtain⟨A3,A4,hj3,hl3,hl4⟩:=TF off _ _ _ hR
 rw[a7K hc] at hl4
 simp only[AU] at hl4
 obtain⟨v,cs',A5,A6,hseg,hj5,hv5,hl6⟩:=hl4
 have hcell:arr.toList[boff+(k*sz+off)]? =some v:=by
  have h1:((((arr.toList.drop boff).drop (k*sz)).take sz).drop off)[0]? =some v:=by rw[hseg];rfl
  rw[It,List.getElem?_take] at h1
  split at h1
  ·rw[It,It] at h1;simpa [QA] using h1
  ·cases h1
 let Ar:FP:=fun x=>x=b∨A3 x∨A6 x∨B2 x
 have hAr:Bm A A5 Ar:=by
  refine⟨fun x=> ?_,fun x p q=> ?_⟩
  ·rw[hjb.1 x,hj2.1 x,hj3.1 x,hj5.1 x]
   simp only[Ar,one]
   constructor
   ·rintro(h|(h|(h|h))|h)
    ·exact .inr (.inl h)
    ·exact .inr (.inr (.inl h))
    ·exact .inl h
    ·exact .inr (.inr (.inr (.inl h)))
    ·exact .inr (.inr (.inr (.inr h)))
   ·rintro(h|h|h|h|h)
    ·exact .inr (.inl (.inr (.inl h)))
    ·exact .inl h
    ·exact .inr (.inl (.inl h))
    ·exact .inr (.inl (.inr (.inr h)))
    ·exact .inr (.inr h)
  ·have p4:A4 x:=(hj5.1 x).2 (.inl p)
   have p2:A2 x:=(hj3.1 x).2 (.inr p4)
   rcases q with q|q|q|q
   ·exact hjb.2 x q ((hj2.1 x).2 (.inl p2))
   ·exact hj3.2 x q p4
   ·exact hj5.2 x p q
   ·exact hj2.2 x p2 q
 have nb:∀y,S1 y→y≠b:=fun y hy e=>hjb.2 y e hy
 have nA3:∀x,A3 x→x≠b:=fun x hx=>nb x ((hj2.1 x).2 (.inl ((hj3.1 x).2 (.inl hx))))
 have nA6:∀x,A6 x→x≠b:=fun x hx=>nb x ((hj2.1 x).2 (.inl ((hj3.1 x).2 (.inr ((hj5.1 x).2 (.inr hx))))))
 have nB2:∀x,B2 x→x≠b:=fun x hx=>nb x ((hj2.1 x).2 (.inr hx))
 refine⟨b,boff,arr,ty,v,A5,Ar,by rw[hη];rfl,hb,hcell,hv5,hAr,.inl rfl,?_⟩
 intro Z' η' w' o' z' Ac' v' i' hη' hw hb' hZ ho hdis hf
 have hA3':=Ea hZ _ _ A3 (fun x hx=>hw x (.inr (.inl hx)) (nA3 x hx)) hl3
 have hA6':=Ea hZ _ _ A6 (fun x hx=>hw x (.inr (.inr (.inl hx))) (nA6 x hx)) hl6
 have hseg0:((arr.toList.drop boff).drop (k*sz)).take sz=(((arr.toList.drop boff).drop (k*sz)).take sz).take off++v::cs':=by
  rw[←hseg,Fw]
 have hoff:off<(((arr.toList.drop boff).drop (k*sz)).take sz).length:=by
  have:((((arr.toList.drop boff).drop (k*sz)).take sz).drop off).length=(v::cs').length:=by rw[hseg]
  simp only[GW,AE] at this
  omega
 have hseg2:(((arr.toList.drop boff).drop (k*sz)).take sz).set off v'=(((arr.toList.drop boff).drop (k*sz)).take sz).take off++v'::cs':=by
  rw[List.set_eq_take_append_cons_drop,if_pos hoff]
  congr 2
  have:((((arr.toList.drop boff).drop (k*sz)).take sz).drop off).drop 1=cs':=by rw[hseg];rfl
  rw[Dv] at this;exact this
 have hnew:AU Z' w' (f z') ((((arr.toList.drop boff).drop (k*sz)).take sz).set off v') (fun x=>A3 x∨(Ac' x∨A6 x)):=by
  rw[hf,set_eq hc,hseg2]
  have hd1:Bm (fun x=>Ac' x∨A6 x) Ac' A6:=⟨fun _=>Cg,fun x p q=>hdis x p (.inr (.inr (.inl q)))⟩
  refine TG _ _ _ _ A3 (fun x=>Ac' x∨A6 x) _ hA3' ?_ ⟨fun _=>Cg,fun x p q=>q.elim (fun q=>hdis x q (.inr (.inl p))) (fun q=>hj3.2 x p ((hj5.1 x).2 (.inr q)))⟩
  simp only[AU]
  exact⟨v',cs',Ac',A6,rfl,hd1,ho,hA6'⟩
 have hlen:((((arr.toList.drop boff).drop (k*sz)).take sz).set off v').length=sz:=by rw[Lf];simp at hle ⊢;omega
 have hrows':=hset (fun x cs A=>AU Z' w' (f x) cs A) (fun y cs A hA hx=>Ea hZ _ _ A (fun x hx=>hw x (.inr (.inr (.inr (hA x hx)))) (nB2 x (hA x hx))) hx) z' _ _ hlen hnew
  (fun x p q=>by
    rcases p with p|p|p
    ·exact hj2.2 x ((hj3.1 x).2 (.inl p)) q
    ·exact hdis x p (.inr (.inr (.inr q)))
    ·exact hj2.2 x ((hj3.1 x).2 (.inr ((hj5.1 x).2 (.inr p)))) q)
 have hover:over (arr.toList.drop boff) (k*sz) ((((arr.toList.drop boff).drop (k*sz)).take sz).set off v')=(arr.toList.set (boff+(k*sz+off)) v').drop boff:=by
  have hl:off<sz:=by rw[Lf] at hlen;omega
  rw[b7k hl hle,List.drop_set,if_neg (by omega),show boff+(k*sz+off)-boff=k*sz+off by omega]
 rw[hover] at hrows'
 refine⟨fun x=>Ac' x∨Ar x,⟨fun _=>Cg,hdis⟩,?_⟩
 simp only[Af,Aj]
 refine⟨fun _=>trivial,some ⟨b,boff,none⟩,n0,c0,by rw[hη',hη],by simpa using hn0,hc0,.inl ⟨trivial,.inr ⟨b,boff,_,ty,_,rfl,hb',by simpa using hfit,hrows',?_⟩⟩⟩
 refine⟨fun x=> ?_,fun x p q=> ?_⟩
 ·simp only[Ar,one]
  constructor
  ·rintro(h|h|h|h|h)
   ·exact .inr (.inl (.inr (.inl h)))
   ·exact .inl h
   ·exact .inr (.inl (.inl h))
   ·exact .inr (.inl (.inr (.inr h)))
   ·exact .inr (.inr h)
  ·rintro(h|(h|h|h)|h)
   ·exact .inr (.inl h)
   ·exact .inr (.inr (.inl h))
   ·exact .inl h
   ·exact .inr (.inr (.inr (.inl h)))
   ·exact .inr (.inr (.inr (.inr h)))
 ·have p:x=b:=p
  subst p
  rcases q with(q|q|q)|q
  ·exact nb x ((hj2.1 x).2 (.inl ((hj3.1 x).2 (.inl q)))) rfl
  ·exact hdis x q (.inl rfl)
  ·exact nb x ((hj2.1 x).2 (.inl ((hj3.1 x).2 (.inr ((hj5.1 x).2 (.inr q)))))) rfl
  ·exact nb x ((hj2.1 x).2 (.inr q)) rfl
def Wm(id:Nat):List AV→Nat→Option Nat
 |[],_=>none
 |a::azs,n=>match a with
  | .sl true j _ _ _ _=>match Nat.beq j id with
    |true=>some n
    |false=>Wm id azs (n+1)
  |_=>Wm id azs (n+1)
def a1s:Op→Bool
 | .call ⟨.builtin .append,_,_⟩=>true
 | .slice _ _ _ _ none=>true
 | .buildSlice _ _ _=>true
 | .binOp _ _ _ _ _=>true
 | .move _=>true
 |_=>false
def Wn(q c0:Nat):List Oper→Bool
 |[]=>true
 |o::l=>match o.guard,o.dst with
  |none,some e=>a1s o.op&&(!Nat.beq q e&& !Nat.beq c0 e)&&Wn q c0 l
  |_,_=>false
def a7M(l:List Oper)(a a':Act):Prop:=a'.tmps.size=a.tmps.size∧∀n,(∀o∈l,o.dst≠some n)→a'.tmps[n]? =a.tmps[n]?
def Re(P:Program)(Q:Exit→Act→World→Prop):List Oper→(Act→World→Prop)→Act→World→Prop
 |[],N,a,w=>N a w
 |o::l,N,a,w=>o.wp P a w (Re P Q l N) Q
def a1t(P:Program)(Γ:FuncId→Nat→Option Sig)(E:TypeId→Option ES)(ov:Bool):List Oper→St→(St→Prop)→Prop
 |[],s,K=>K s
 |o::l,s,K=>Ko P Γ E ov o s fun s'=>a1t P Γ E ov l s' K
def Wo(P:Program)(o o2:Oper):Bool:=match o.op,o2.op with
 | .load t (.tmp p),.store t2 (.tmp q) (.tmp r)=>match o.guard,o2.guard,o.dst,o2.dst with
   |none,none,some d,none=>match P.underlying t,P.info? t2 with
    |some (.slice _),some i=>Nat.beq i.size 1&& !Nat.beq q d
    |_,_=>false
   |_,_,_,_=>false
 |_,_=>false
def a1u(P:Program)(Γ:FuncId→Nat→Option Sig)(E:TypeId→Option ES)(ov:Bool)(o:Oper)(ms:List Oper)(o2:Oper)(s:St)(K:St→Prop):Prop:=
 match o.op,o.dst,o2.op with
 | .load t (.tmp p),some d,.store t2 (.tmp q) (.tmp r)=>match s.regs[p]?,s.regs[q]? with
   |some (.po id k sz off),some (.po id2 k2 sz2 off2)=>match Nat.beq id id2,Nat.beq sz sz2,Nat.beq off off2,Wm id s.regs 0 with
    |true,true,true,some c0=>match Nat.beq c0 d,Wn q c0 ms,Nat.blt d s.regs.length with
     |false,true,true=>match s.regs[c0]? with
      |some (.sl true j sz' α f xs)=>match Nat.beq j id,Nat.beq sz sz' with
       |true,true=>k2=k∧k<xs.length∧∀z,xs[k]? =some z→match(f z)[off]? with
        |some (.sl true i0 sa β ga l)=>a1t P Γ E ov ms ⟨(s.regs.set c0 (.al id)).set d (.sl true s.nx sa β ga l),s.nx+1⟩ fun s1=>match s1.regs[r]?,s1.regs[c0]? with
         |some (.sl true i3 sd δ gd l'),some (.al id3)=>match Nat.beq id3 id with
          |true=>∃z':α,f z'=(f z).set off (.sl true 0 sd δ gd l')∧K ⟨(s1.regs.set r .top).set c0 (.sl true id sz' α f (xs.set k z')),s1.nx⟩
          |false=>False
         |_,_=>False
        |_=>False
       |_,_=>False
      |_=>False
     |_,_,_=>False
    |_,_,_,_=>False
   |_,_=>False
 |_,_,_=>False
theorem Wp{N N':Act→World→Prop}(h:o.wp P a w N Q)(hn:∀a' w',N a' w'→N' a' w'):o.wp P a w N' Q:=by
 unfold Oper.wp Oper.upon at*
 split at h
 ·exact hn _ _ h
 ·exact hn _ _ h
 ·exact hn _ _ h
 ·refine h.mono ?_
  intro e w' he
  cases e with
  |returned v=>exact hn _ _ he
  |panicked c=>exact he
  |outgrown=>exact he
 ·exact h.mono fun v w' hh=>hn _ _ hh
 ·exact h
 ·exact h.elim
theorem a1v{P:Program}{Q:Exit→Act→World→Prop}{N N':Act→World→Prop}(hn:∀a' w',N a' w'→N' a' w'):∀(l:List Oper) (a:Act) (w:World),Re P Q l N a w→Re P Q l N' a w
 |[],a,w,h=>hn a w h
 |o::l,a,w,h=>Wp h fun a' w' h'=>a1v hn l a' w' h'
theorem a1w{q c0:Nat}:∀ {l:List Oper},Wn q c0 l=true→∀o∈l,o.dst≠some q∧o.dst≠some c0
 |[],_,o,ho=>by cases ho
 |o'::l,hm,o,ho=>by
  unfold Wn at hm
  split at hm
  rotate_left
  ·cases hm
  rename_i e hg he
  simp only[AY,EV] at hm
  obtain⟨⟨_,h1,h2⟩,hm⟩:=hm
  have h1:=QB h1;have h2:=QB h2
  rcases EX.1 ho with rfl|ho
  ·rw[he];exact⟨fun x=>h1 (LU x).symm,fun x=>h2 (LU x).symm⟩
  ·exact a1w hm o ho
theorem a7N{P:Program}{Γ:FuncId→Nat→Option Sig}{C:Ctx}(hΓ:∀f k S,Γ f k=some S→Eb C.G P f S){E:TypeId→Option ES}{ov:Bool}{Q:Exit→Act→World→Prop}:∀(l:List Oper) (s:St) (K:St→Prop) (a:Act) (w:World),
 a1t P Γ E ov l s K→Rel C s a w→Re P Q l (fun a' w'=>∃s',K s'∧Rel C s' a' w'∧a7M l a a') a w
 |[],s,K,a,w,h,hr=>⟨s,h,hr,rfl,fun _ _=>rfl⟩
 |o::l,s,K,a,w,h,hr=>by
  refine Wp (a1m hΓ h hr Q) ?_
  rintro a' w' ⟨s',hk,hr',u,rfl⟩
  refine a1v ?_ l _ w' (a7N hΓ l s' K _ w' hk hr')
  rintro a2 w2 ⟨s2,hk2,hr2,hsz,hf⟩
  refine⟨s2,hk2,hr2,?_,fun n hn=>(hf n fun o ho=>hn o (by simp [ho])).trans ?_⟩
  ·rw[hsz];cases o.dst<;>simp [Act.put]
  ·cases hd:o.dst with
   |none=>rfl
   |some e=>
    simp only[Act.put]
    rw[VN fun x=>hn o (by simp) (by rw[hd,x])]
theorem b7m(hΓ:∀f k S,Γ f k=some S→Eb C.G P f S){E:TypeId→Option ES}{ms:List Oper}{o2:Oper}
 (hn:Wo P o o2=true) (h:a1u P Γ E ov o ms o2 s K)   (hr:Rel C s a w) (Q:Exit→Act→World→Prop):
 ∃v,(execOp a.eval o).run P w= .ok (.value v) w∧Re P Q ms (fun a1 w1=>a7M ms (a.put o.dst v) a1∧o2.wp P a1 w1 (TH C K a1 o2.dst) Q) (a.put o.dst v) w:=by
 unfold a1u at h
 split at h
 rotate_left
 ·exact h.elim
 rename_i t p d t2 q r hop hdst hop2
 unfold Wo at hn
 rw[hop,hop2] at hn
 simp only at hn
 split at hn
 rotate_left
 ·cases hn
 rename_i dd hg hg2 hdd hdst2
 split at hn
 rotate_left
 ·cases hn
 rename_i et inf hu hinf
 simp only[AY,EV] at hn
 obtain⟨hsz1,hqd⟩:=hn
 rw[hdst] at hdd
 simp only[AS] at hdd
 subst hdd
 have hsz1:=Cj hsz1
 have hqd:=QB hqd
 split at h
 rotate_left
 ·exact h.elim
 rename_i id k sz off id2 k2 sz2 off2 hregp hregq
 split at h
 rotate_left
 ·exact h.elim
 rename_i c0 hid2 hszz hoff2 hfind
 have hid2:=Cj hid2;have hszz:=Cj hszz;have hoff2:=Cj hoff2
 subst hid2;subst hszz;subst hoff2
 split at h
 rotate_left
 ·exact h.elim
 rename_i hc0d hc0r hdl
 have hc0d:=QB hc0d
 have hdl:=Nat.lt_of_succ_le (HR hdl)
 split at h
 rotate_left
 ·exact h.elim
 rename_i j sz' α f xs hregc
 split at h
 rotate_left
 ·exact h.elim
 rename_i hj hsz'
 have hj:=Cj hj;have hsz':=Cj hsz'
 subst hj;subst hsz'
 obtain⟨hkk,hk,h⟩:=h
 subst hkk
 have hz:xs[k2]? =some xs[k2]:=by simp
 have h:=h _ hz
 generalize hzz:xs[k2]=z at h hz
 split at h
 rotate_left
 ·exact h.elim
 rename_i i0 sa β ga l hfz
 obtain⟨η,Z,T,hi⟩:=hr
 have tmpsAt:∀(n:Nat) (v:Value),a.tmps.toList[n]? =some v→a.tmps[n]? =some v:=fun n v hv=>by rw[←Fi];exact hv
 have ev:∀(a':Act) (n:Nat) (v:Value),a'.tmps[n]? =some v→a'.eval (.tmp n)=v:=fun a' n v hv=>by simp [Act.eval,Jr,hv]
 obtain⟨pv,_,_,hpv,hpr,_⟩:=Gl s.regs _ T p _ hi.rel hregp
 obtain⟨qv,_,_,hqv,hqr2,_⟩:=Gl s.regs _ T q _ hi.rel hregq
 simp only[Af] at hpr hqr2
 obtain⟨vo,A,B,hvo,hown,hjAB,hput0⟩:=Gl s.regs _ T c0 _ hi.rel hregc
 have hvoη:vo=η j:=by simp only[Af] at hown;exact hown.1 trivial
 rw[hvoη] at hown
 obtain⟨b,boff,arr,ty,v,Ac,Ar,hbase,hb,hcell,hvrel,hjA,hArb,hback⟩:=b7l hown rfl hz hfz
 have hvc:Dm v:=OE hvrel
 have hvoc:Dm vo:=by rw[hvoη];simp only[Af] at hown;exact OE hown.2
 have hlt:∀x,T x→x<w.heap.size:=fun x hx=>(hi.own x hx).2.1
 have hAT:∀x,A x→T x:=fun x hx=>(hjAB.1 x).2 (.inl hx)
 have hBT:∀x,B x→T x:=fun x hx=>(hjAB.1 x).2 (.inr hx)
 have hAcA:∀x,Ac x→A x:=fun x hx=>(hjA.1 x).2 (.inl hx)
 have hArA:∀x,Ar x→A x:=fun x hx=>(hjA.1 x).2 (.inr hx)
 have hjid:j<s.nx:=by have:=QF _ _ _ hi.ids hregc;simp only[Az] at this;exact this trivial
 refine⟨v,?_,?_⟩
 ·have hl:(Instr.loadAt t (.pointer (some ⟨b,boff+(k2*sz+off),none⟩))).run P w= .ok v w:=by
   show(loadVar t ⟨b,boff+(k2*sz+off),none⟩).run P w= .ok v w
   simp only[loadVar]
   rw[AC (Kk hu w)]
   simp only[Jw,Bl,Br]
   refine To ?_
   have:=QI (off:=boff+(k2*sz+off)) hb
   unfold ad at this
   rw[this]
   simpa [Fi] using hcell
  have he:execOp a.eval o=(do pure (.value (←Instr.loadAt t (a.eval (.tmp p))))):=by simp [execOp,hop]
  rw[he,ev a p pv (tmpsAt p pv hpv),hpr.1,hbase]
  exact Hz hl
 have ssame:∀(l:List Value) (n:Nat) (v:Value),l[n]? =some v→l.set n v=l:=fun l n v hv=>by
  apply LP
  intro m
  rw[Qw]
  split
  ·rename_i h1;subst h1
   split
   ·exact hv.symm
   ·rename_i h2;simp at h2;rw[Gi h2] at hv;cases hv
  ·rfl
 have hS1':∀x,B x∨Ac x→T x:=fun x hx=>hx.elim (hBT x) fun hx=>hAT x (hAcA x hx)
 let η1:Nat→Value:=fun i=>if i=s.nx then v else η i
 have hrest:=hput0 (.al j) vo (fun _=>False) B (by simp only[Af];exact⟨hvoη,hvoc,AI⟩) (Cu B)
 rw[ssame _ _ _ hvo] at hrest
 have hids1:AN s.nx (s.regs.set c0 (.al j)):=Iy _ _ _ hi.ids (by simp only[Az];exact hjid)
 have hrest1:=Dj (Z':=Z) (η':=η1) (w':=w) (n:=s.nx) (fun b hb hl=>⟨hb,rfl⟩) (fun i hi=>if_neg (by omega)) _ _ B hids1 (fun _ _=>rfl) hrest
 have hnest:Af Z η1 w (.sl true s.nx sa β ga l) v Ac:=by
  simp only[Af]
  exact⟨fun _=>(if_pos rfl).symm,by simpa only[Aj] using hvrel⟩
 obtain⟨S1,hS1,hrel1⟩:=Tn hrest1 (i:=d) (by rw[Lf];exact hdl) hnest (fun x hx hB=>hjAB.2 x (hAcA x hx) hB)
 have hS1T:∀x,S1 x→T x:=fun x hx=>hS1' x (hS1 x hx)
 let C1:Ctx:=⟨w,Z,S1,C.G,hi.ok.glob,fun x hx=>(hi.own x (hS1T x hx)).1⟩
 have hi1:Inst C1 ⟨(s.regs.set c0 (.al j)).set d (.sl true s.nx sa β ga l),s.nx+1⟩ (a.put (some d) v) w η1 Z S1:=by
  refine⟨by rw[QK];exact hi.defers,by rw[QJ];exact hrel1,?_,fun x hx=>⟨(hi.own x (hS1T x hx)).1,hlt x (hS1T x hx),fun _=>hx⟩,⟨rfl,rfl,rfl,Bu _,fun b _ _=>⟨rfl,Cg⟩⟩⟩
  refine Iy _ _ _ (GZ (Nf _) _ hids1) ?_
  simp only[Az];intro _;exact Ng _
 have hop1:=a7N (C:=C1) hΓ (Q:=Q) ms _ _ _ _ h ⟨η1,Z,S1,hi1⟩
 rw[hdst]
 refine a1v ?_ ms _ w hop1
 rintro a1 w1 ⟨s1,hk1,⟨η2,Z2,T2,hi2⟩,hleave⟩
 refine⟨hleave,?_⟩
 split at hk1
 rotate_left
 ·exact hk1.elim
 rename_i i3 sd δ gd l' id3 hr3 hc3
 split at hk1
 rotate_left
 ·exact hk1.elim
 rename_i hid3
 have hid3:=Cj hid3
 subst hid3
 obtain⟨z',hfz',hK⟩:=hk1
 have hkeep:∀(n:Nat),n≠d→(n=q∨n=c0)→a1.tmps[n]? =a.tmps[n]? :=fun n h1 h2=>by
  rw[hleave.2 n (fun o ho=>by rcases h2 with rfl|rfl;exact(a1w hc0r o ho).1;exact(a1w hc0r o ho).2)]
  simp only[Act.put]
  rw[VN (Ne.symm h1)]
 have hvo1:a1.tmps.toList[c0]? =some vo:=by rw[Fi,hkeep c0 hc0d (.inr rfl)];exact tmpsAt c0 vo hvo
 have hq1:a1.tmps[q]? =some qv:=by rw[hkeep q hqd (.inl rfl)];exact tmpsAt q qv hqv
 obtain⟨vr,D,E0,hvr,hDrel,hjDE,hputr⟩:=Gl s1.regs _ T2 r _ hi2.rel hr3
 have hregsr:=hputr .top vr (fun _=>False) E0 (by simp only[Af,Aj];exact AI) (Cu _)
 rw[ssame _ _ _ hvr] at hregsr
 obtain⟨vc,_,_,hvc1,hvcr,_⟩:=Gl s1.regs _ T2 c0 _ hi2.rel hc3
 rw[hvo1] at hvc1
 simp only[AS] at hvc1
 subst hvc1
 simp only[Af] at hvcr
 have hη2:η2 id3=η id3:=hvcr.1.symm.trans hvoη
 have hArS:∀x,Ar x→¬S1 x:=fun x hx h1=>(hS1 x h1).elim (fun hB=>hjAB.2 x (hArA x hx) hB) (fun hA=>hjA.2 x hA hx)
 have hTZ:∀x,T x→Z x:=fun x hx=>(hi.own x hx).1
 have hArw:∀x,Ar x→w1.heap[x]? =w.heap[x]? ∧(Z2 x↔Z x):=fun x hx=>hi2.ok.old x (hlt x (hAT x (hArA x hx))) (hArS x hx)
 have hT2Ar:∀x,T2 x→¬Ar x:=fun x h2 hx=>hArS x hx ((hi2.own x h2).2.2 (hlt x (hAT x (hArA x hx))))
 have hDT:∀x,D x→T2 x:=fun x hx=>(hjDE.1 x).2 (.inl hx)
 have hET:∀x,E0 x→T2 x:=fun x hx=>(hjDE.1 x).2 (.inr hx)
 have hneb:∀x,T2 x→x≠b:=fun x hx e=>hT2Ar x hx (by rw[e];exact hArb)
 have hbZ2:Z2 b:=(hArw b hArb).2.2 (hTZ b (hAT b (hArA b hArb)))
 have hb1:w1.heap[b]? =some (.cells arr ty (0,0)):=(hArw b hArb).1.trans hb
 simp only[Af] at hDrel
 have hvrc:Dm vr:=OE hDrel.2
 have hil:boff+(k2*sz+off)<arr.toList.length:=(DT.1 hcell).1
 obtain⟨w2,hrun,hwr⟩:=a1j (v:=vr) hinf hb1 (off:=boff+(k2*sz+off)) (by rw[QM hvrc];simp at hil ⊢;omega) (by rw[QM hvrc,hsz1];rfl) (fun c hc=>by rw[QM hvrc] at hc;simp at hc;subst hc;exact hvrc)
 have hov:over arr.toList (boff+(k2*sz+off)) vr.cells.toList=arr.toList.set (boff+(k2*sz+off)) vr:=by
  rw[QM hvrc]
  unfold over
  rw[List.set_eq_take_append_cons_drop,if_pos hil];simp
 have hw2b:w2.heap[b]? =some (.cells (arr.toList.set (boff+(k2*sz+off)) vr).toArray ty (0,0)):=by rw[hwr.blk,hov]
 have hZ2:∀x,¬Z2 x→x<w1.heap.size→¬Z2 x∧w2.heap[x]? =w1.heap[x]? :=fun x hx _=>⟨hx,hwr.oth x fun e=>hx (by rw[e];exact hbZ2)⟩
 have hD2:Aj Z2 w2 (.sl true 0 sd δ gd l') vr D:=by
  have:=Hw hZ2 _ _ D (fun x hx=>hwr.oth x (hneb x (hDT x hx))) hDrel.2
  simpa only[Aj] using this
 have hZ':∀x,¬Z x→x<w.heap.size→¬Z2 x∧w2.heap[x]? =w.heap[x]? :=fun x hx hl=>by
  obtain⟨g1,g2⟩:=hi2.ok.old x hl (fun h1=>hx (hTZ x (hS1T x h1)))
  exact⟨fun h2=>hx (g2.1 h2),(hwr.oth x fun e=>hx (by rw[e];exact hTZ b (hAT b (hArA b hArb)))).trans g1⟩
 obtain⟨A',hjA',hown'⟩:=hback Z2 η2 w2 (.sl true 0 sd δ gd l') z' D vr id3 hη2 (fun x hx hne=>(hwr.oth x hne).trans (hArw x hx).1) hw2b hZ' hD2 (fun x hx=>hT2Ar x (hDT x hx)) hfz'
 have hidr:AN s1.nx (s1.regs.set r .top):=Iy _ _ _ hi2.ids trivial
 have hE:=Dj (n:=s1.nx) hZ2 (fun _ _=>rfl) _ _ E0 hidr (fun x hx=>hwr.oth x (hneb x (hET x hx))) hregsr
 have hc0l:c0<(s1.regs.set r .top).length:=by rw[Lf];exact(DT.1 hc3).1
 have hA'or:∀x,A' x→D x∨Ar x:=fun x hx=>(hjA'.1 x).1 hx
 obtain⟨S3,hS3,hrel3⟩:=Tn hE hc0l hown' (fun x hx hE0=>(hA'or x hx).elim (fun hD=>hjDE.2 x hD hE0) (fun hA=>hT2Ar x (hET x hE0) hA))
 rw[←hvcr.1,ssame _ _ _ hvo1] at hrel3
 have hS3':∀x,S3 x→T2 x∨Ar x:=fun x hx=>(hS3 x hx).elim (fun h1=> .inl (hET x h1)) (fun h1=>(hA'or x h1).elim (fun h2=> .inl (hDT x h2)) .inr)
 have hsz2:w.heap.size≤w2.heap.size:=by rw[hwr.size];exact hi2.ok.size
 unfold Oper.wp
 have he:execOp a1.eval o2=(do Instr.storeAt t2 (a1.eval (.tmp q)) (a1.eval (.tmp r));pure .skip):=by simp [execOp,hop2]
 have hqe:a1.eval (.tmp q)= .pointer (some (ad b (boff+(k2*sz+off)))):=by
  rw[ev a1 q qv hq1,hqr2.1,hbase];rfl
 have hre:a1.eval (.tmp r)=vr:=ev a1 r vr (by rw[←Fi];exact hvr)
 rw[he,hqe,hre,AC hrun]
 refine⟨_,hK,?_,undef,rfl⟩
 rw[hdst2]
 refine⟨η2,Z2,S3,hi2.defers,hrel3,Iy _ _ _ hidr ?_,fun x hx=> ?_,?_⟩
 ·have:=QF _ _ _ hi2.ids hc3
  simp only[Az] at this ⊢
  exact fun _=>this
 ·rcases hS3' x hx with h2|h2
  ·obtain⟨g1,g2,g3⟩:=hi2.own x h2
   exact⟨g1,by rw[hwr.size];exact g2,fun h0=>(hi.own x (hS1T x (g3 (Ev h0 hi.ok.size)))).2.2 h0⟩
  ·have hx':=hAT x (hArA x h2)
   exact⟨(hArw x h2).2.2 (hTZ x hx'),Ev (hlt x hx') hsz2,(hi.own x hx').2.2⟩
 ·refine⟨hwr.os.trans (hi2.ok.os.trans hi.ok.os),hwr.tape.trans (hi2.ok.tape.trans hi.ok.tape),hwr.output.trans (hi2.ok.output.trans hi.ok.output),Jt hi.ok.size hsz2,fun x h0 hs=> ?_⟩
  have hnT:¬T x:=fun h1=>hs ((hi.own x h1).2.2 h0)
  obtain⟨g1,g2⟩:=hi2.ok.old x (Ev h0 hi.ok.size) (fun h1=>hnT (hS1T x h1))
  obtain⟨g3,g4⟩:=hi.ok.old x h0 hs
  exact⟨(hwr.oth x fun e=>hnT (by rw[e];exact hAT b (hArA b hArb))).trans (g1.trans g3),g2.trans g4⟩
def TJ(P:Program)(o o1:Oper):Bool:=match o.op,o1.op with
 | .load t (.tmp p),.call ⟨.builtin .len,args,ts⟩=>match o.guard,o1.guard,o.dst,o1.dst with
   |none,none,some d,some _=>match P.underlying t,args.toList,ts[0]? with
    |some (.slice _),[.tmp e],some t1=>Nat.beq e d&&Nat.beq t1 t
    |_,_,_=>false
   |_,_,_,_=>false
 |_,_=>false
def a1x(o o1:Oper)(s:St)(K:St→Prop):Prop:=
 match o.op,o.dst,o1.dst with
 | .load t (.tmp p),some d,some e=>match s.regs[p]? with
   |some (.po id k sz off)=>match Wm id s.regs 0,Nat.blt d s.regs.length with
    |some c0,true=>match s.regs[c0]? with
     |some (.sl true j sz' α f xs)=>match Nat.beq j id,Nat.beq sz sz' with
      |true,true=>k<xs.length∧∀z,xs[k]? =some z→match(f z)[off]? with
       |some (.sl true i0 sa β ga l)=>K ⟨(s.regs.set d .any).set e (.int .i64 l.length),s.nx⟩
       |_=>False
      |_,_=>False
     |_=>False
    |_,_=>False
   |_=>False
 |_,_,_=>False
theorem b7n{o1:Oper}(hn:TJ P o o1=true)(h:a1x o o1 s K)(hr:Rel C s a w):
 ∃v u,(execOp a.eval o).run P w= .ok (.value v) w∧(execOp (a.put o.dst v).eval o1).run P w= .ok (.value u) w∧∃s',K s'∧Rel C s' ((a.put o.dst v).put o1.dst u) w:=by
 unfold a1x at h
 split at h
 rotate_left
 ·exact h.elim
 rename_i t p d e hop hdst hdst1
 unfold TJ at hn
 rw[hop] at hn
 split at hn
 rotate_left
 ·cases hn
 rename_i t' p' args ts ht hop1
 simp only[Op.load.injEq,Operand.tmp.injEq] at ht
 obtain⟨rfl,rfl⟩:=ht
 rw[hdst,hdst1] at hn
 split at hn
 rotate_left
 ·cases hn
 rename_i dd ee hg hg1 hdd hee
 simp only[AS] at hdd hee
 subst hdd;subst hee
 split at hn
 rotate_left
 ·cases hn
 rename_i et e' t1 hu hargs hts
 simp only[AY] at hn
 have he':=Cj hn.1;have ht1:=Cj hn.2
 subst he';subst ht1
 have hargs:=JB hargs
 split at h
 rotate_left
 ·exact h.elim
 rename_i id k sz off hregp
 split at h
 rotate_left
 ·exact h.elim
 rename_i c0 hfind hdl
 have hdl:=Nat.lt_of_succ_le (HR hdl)
 split at h
 rotate_left
 ·exact h.elim
 rename_i j sz' α f xs hregc
 split at h
 rotate_left
 ·exact h.elim
 rename_i hj hsz'
 have hj:=Cj hj;have hsz':=Cj hsz'
 subst hj;subst hsz'
 obtain⟨hk,h⟩:=h
 have hz:xs[k]? =some xs[k]:=by simp
 have h:=h _ hz
 generalize hzz:xs[k]=z at h hz
 split at h
 rotate_left
 ·exact h.elim
 rename_i i0 sa β ga l hfz
 obtain⟨η,Z,T,hi⟩:=hr
 obtain⟨pv,_,_,hpv,hpr,_⟩:=Gl s.regs _ T p _ hi.rel hregp
 simp only[Af] at hpr
 obtain⟨vo,A,B,hvo,hown,hjAB,hput0⟩:=Gl s.regs _ T c0 _ hi.rel hregc
 have hvoη:vo=η j:=by simp only[Af] at hown;exact hown.1 trivial
 rw[hvoη] at hown
 obtain⟨b,boff,arr,ty,v,Ac,Ar,hbase,hb,hcell,hvrel,hjA,_⟩:=a1q hown rfl hz hfz
 have hvc:Dm v:=OE hvrel
 have hvl:∃x c,v= .slice x l.length c:=by
  simp only[Aj] at hvrel
  obtain⟨x,n,c,e1,e2,_⟩:=hvrel
  exact⟨x,c,by rw[e1,e2]⟩
 obtain⟨xa,xc,hvl⟩:=hvl
 obtain⟨S1,h1⟩:=hi.put' e' (r:= .any) (v:=v) (by simp only[Af,Aj];exact⟨hvc,AI⟩) trivial
 obtain⟨S2,h2⟩:=h1.put' e (r:= .int .i64 l.length) (v:= .int .i64 l.length) (by simp only[Af,Aj];exact⟨trivial,AI⟩) trivial
 refine⟨v,.int .i64 l.length,?_,?_,_,h,?_⟩
 ·have hl:(Instr.loadAt t1 (.pointer (some ⟨b,boff+(k*sz+off),none⟩))).run P w= .ok v w:=by
   show(loadVar t1 ⟨b,boff+(k*sz+off),none⟩).run P w= .ok v w
   simp only[loadVar]
   rw[AC (Kk hu w)]
   simp only[Jw,Bl,Br]
   refine To ?_
   have:=QI (off:=boff+(k*sz+off)) hb
   unfold ad at this
   rw[this]
   simpa [Fi] using hcell
  have he:execOp a.eval o=(do pure (.value (←Instr.loadAt t1 (a.eval (.tmp p))))):=by simp [execOp,hop]
  have hpe:a.eval (.tmp p)=pv:=by
   have:a.tmps[p]? =some pv:=by rw[←Fi,hpv]
   simp [Act.eval,Jr,this]
  rw[he,hpe,hpr.1,hbase]
  exact Hz hl
 ·rw[hdst]
  have hev:(a.put (some e') v).eval (.tmp e')=v:=by
   have hsz0:s.regs.length=a.tmps.size:=by have:=GF _ _ _ hi.rel;simpa using this.symm
   have hlt:e'<a.tmps.size:=hsz0▸hdl
   simp [Act.put,Act.eval,Jr,hlt]
  have he:execOp (a.put (some e') v).eval o1=(do pure (.value (←Builtin.len_ ts o1.type #[(a.put (some e') v).eval (.tmp e')]))):=by simp [execOp,hop1,hargs,resolve,invoke,builtin]
  rw[he,hev,hvl]
  exact Hz (Tx hts hu (by simp [OJ,goInt]))
 ·rw[hdst,hdst1];exact⟨η,Z,S2,h2⟩
theorem a1y(hΓ:∀f k S,Γ f k=some S→Eb C.G P f S){E:TypeId→Option ES}
 (hjs:∀(i:Nat) (o:Oper),ops[i]? =some o→HU js o.dst=true)  {N:Act→World→Prop} (i:Nat) (s:St) (K:St→Prop) (a:Act) (w:World) (h:EJ P Γ E ov ops [i] s K)
 (hr:Rel C s a w) (hf:Eo js a0 a) (hQ:∀s' a' w',K s'→Rel C s' a' w'→Eo js a0 a'→N a' w'):wpOp P ops Q i N a w:=by
 simp only[EJ] at h
 unfold wpOp
 split at h
 ·rename_i ho
  simp only[ho]
  exact hQ s a w h hr hf
 ·rename_i o ho
  simp only[ho]
  have hav:=hjs i o ho
  have run:∀(s1:St),Rel C s1 a w→Ko P Γ E ov o s1 K→o.wp P a w N Q:=by
   intro s1 hr1 h1
   have:=a1m hΓ h1 hr1 Q
   refine Rc.Oper_wp_mono this ?_
   rintro a' w' ⟨s',hk,hr',v,rfl⟩
   exact hQ s' _ w' hk hr' (hf.put hav v)
  have skip:∀(s1:St),Rel C s1 a w→K ⟨setR s1.regs o.dst (.tup []),s1.nx⟩→N (a.put o.dst undef) w:=by
   intro s1 hr1 h1
   exact hQ _ _ w h1 (hr1.skip o.dst) (hf.put hav undef)
  split at h
  ·rename_i hg
   have hw:Region.wanted o (yielded ops a.tmps)=true:=by simp [Region.wanted,hg]
   rw[if_pos hw]
   simp only[Rb] at h
   exact .inl (run s hr h)
  ·rename_i j want hg
   split at h
   ·exact h.elim
   ·rename_i d hd
    have hy:yielded ops a.tmps j=(match a.tmps[d]? with|some (.bool b)=>some b|_=>none):=by
     simp only[yielded,hd];rfl
    split at h
    ·rename_i fs hreg
     have hnone:yielded ops a.tmps j=none:=by
      obtain⟨η,Z,T,hi⟩:=hr
      obtain⟨v,A,B,hv,hrr,_⟩:=Gl s.regs _ T d _ hi.rel hreg
      simp only[Af] at hrr
      obtain⟨cs,e,_⟩:=hrr
      have:a.tmps[d]? =some v:=by rw[←Fi,hv]
      rw[hy,this,e]
     have hw:¬Region.wanted o (yielded ops a.tmps)=true:=by simp [Region.wanted,hg,hnone]
     rw[if_neg hw]
     exact skip s hr h
    ·rename_i c hreg
     obtain⟨hr1,ht⟩:=hr.know hreg
     have hyc:yielded ops a.tmps j=some c:=by rw[hy,ht]
     have hw:Region.wanted o (yielded ops a.tmps)=(c==want):=by simp [Region.wanted,hg,hyc]
     rw[hw]
     unfold Ae at h
     cases c
     ·cases want
      ·simp only[Hc] at h
       rw[if_pos (by rfl)];exact .inl (run _ hr1 h)
      ·simp only[Hc] at h
       rw[if_neg (by decide)];exact skip _ hr1 h
     ·cases want
      ·simp only[Hc] at h
       rw[if_neg (by decide)];exact skip _ hr1 h
      ·simp only[Hc] at h
       rw[if_pos (by rfl)];exact .inl (run _ hr1 h)
    ·exact h.elim
def a1z:List Nat→(Nat→Prop)→Prop
 |[],_=>True
 |[i],p=>p i
 |i::l,p=>p i∧a1z l p
theorem a7O{p:Nat→Prop}:∀ {l:List Nat},a1z l p→∀i∈l,p i
 |[],_,i,h=>by simp at h
 |[j],hp,i,h=>by simp at h;subst h;exact hp
 |j::k::l,hp,i,h=>by
  rcases EX.1 h with rfl|h
  ·exact hp.1
  ·exact a7O hp.2 i h
def a1A(regs:List AV)(ops:Array Oper)(listed:Array Bool)(i:Nat):Bool:=match ops[i]? with
 |some o=>match o.guard with
  |none=>match QS regs o.op with
   |true=>Region.free .any ops listed i
   |false=>false
  |some _=>false
 |none=>false
def Wq(regs:List AV)(ops:Array Oper)(listed:Array Bool):List Nat→Option Nat
 |[]=>none
 |i::l=>match a1A regs ops listed i with
  |true=>some i
  |false=>Wq regs ops listed l
theorem a7P{regs:List AV}{ops:Array Oper}{listed:Array Bool}:∀ {l:List Nat} {i:Nat},Wq regs ops listed l=some i→i∈l∧a1A regs ops listed i=true
 |[],i,h=>by cases h
 |j::l,i,h=>by
  unfold Wq at h
  split at h
  ·rename_i hj;cases h;exact⟨by simp,hj⟩
  ·have:=a7P h;exact⟨by simp [this.1],this.2⟩
def OL(P:Program)(Γ:FuncId→Nat→Option Sig)(E:TypeId→Option ES)(ov:Bool)(ops:Array Oper):Nat→Array Bool→St→(St→Prop)→Prop
 |0,listed,s,K=>(Region.ready .any ops listed).isEmpty=true∧K s
 |fuel+1,listed,s,K=>match Region.ready .any ops listed with
  |[]=>K s
  |i::l=>match Region.noSelect ops,Wq s.regs ops listed (i::l) with
   |true,some j=>EJ P Γ E ov ops [j] s fun s'=>OL P Γ E ov ops fuel (listed.setIfInBounds j true) s' K
   |_,_=>a1z (i::l) fun i=>EJ P Γ E ov ops [i] s fun s'=>OL P Γ E ov ops fuel (listed.setIfInBounds i true) s' K
def JH(R:Act→World→Prop):Exit→Act→World→Prop
 | .normal,a,w=>R a w
 |_,_,_=>False
theorem a7Q{P:Program}{ops:Array Oper}{Q:Exit→Act→World→Prop}{S S':World→Prop}(h:∀w,S w→S' w):∀(fuel:Nat) (listed:Array Bool) (a:Act) (w:World),
 wpAnyH P .any ops Q S fuel listed a w→wpAnyH P .any ops Q S' fuel listed a w
 |0,_,_,_,hh=>hh
 |fuel+1,listed,a,w,hh=>⟨hh.1,fun i hi=>wpOp_mono (fun a' w' h'=>⟨h w' h'.1,a7Q h fuel _ a' w' h'.2⟩) (hh.2 i hi)⟩
def Inst.here{C:Ctx}{s:St}{a:Act}{w:World}{η:Nat→Value}{Z T:FP}(hi:Inst C s a w η Z T):Ctx:=⟨w,Z,T,C.G,hi.ok.glob,fun b hb=>(hi.own b hb).1⟩
theorem Inst.at_here(hi:Inst C s a w η Z T):Inst hi.here s a w η Z T:=
 ⟨hi.defers,hi.rel,hi.ids,fun b hb=>⟨(hi.own b hb).1,(hi.own b hb).2.1,fun _=>hb⟩,⟨rfl,rfl,rfl,Bu _,fun b _ _=>⟨rfl,Cg⟩⟩⟩
theorem Inst.from_here(hi:Inst C s a w η Z T){s':St}{a':Act}{η':Nat→Value}{Z' T':FP}(h:Inst hi.here s' a' w' η' Z' T'):
 Inst C s' a' w' η' Z' T':=by
 refine⟨h.defers,h.rel,h.ids,fun b hb=> ?_,?_⟩
 ·obtain⟨h1,h2,h3⟩:=h.own b hb
  refine⟨h1,h2,fun hlt=> ?_⟩
  exact(hi.own b (h3 (Ev hlt hi.ok.size))).2.2 hlt
 ·refine⟨h.ok.os.trans hi.ok.os,h.ok.tape.trans hi.ok.tape,h.ok.output.trans hi.ok.output,Jt hi.ok.size h.ok.size,fun b hlt hn=> ?_⟩
  obtain⟨g1,g2⟩:=hi.ok.old b hlt hn
  have hT:¬T b:=fun hb=>hn ((hi.own b hb).2.2 hlt)
  obtain⟨g3,g4⟩:=h.ok.old b (Ev hlt hi.ok.size) hT
  exact⟨g3.trans g1,g4.trans g2⟩
theorem Inst.agree(hi:Inst C s a w η Z T){s':St}{a':Act}{η':Nat→Value}{Z' T':FP}(h:Inst hi.here s' a' w' η' Z' T'):
 OH Z w w'∧∀b,¬Z b→b<w.heap.size→¬Z' b:=by
 have key:∀b,¬Z b→b<w.heap.size→w'.heap[b]? =w.heap[b]? ∧¬Z' b:=fun b hz hlt=>by
  obtain⟨g1,g2⟩:=h.ok.old b hlt (fun hb=>hz (hi.own b hb).1)
  exact⟨g1,fun x=>hz (g2.1 x)⟩
 exact⟨fun b hz hlt=>(key b hz hlt).1,fun b hz hlt=>(key b hz hlt).2⟩
theorem a1B{P:Program}{Γ:FuncId→Nat→Option Sig}{C:Ctx}(hΓ:∀f k S,Γ f k=some S→Eb C.G P f S){E:TypeId→Option ES}{ov:Bool}{ops:Array Oper}{js:List Nat}{a0:Act}
 (hjs:∀(i:Nat) (o:Oper),ops[i]? =some o→HU js o.dst=true) {R:Act→World→Prop}:
 ∀(fuel:Nat) (listed:Array Bool) (s:St) (K:St→Prop) (a:Act) (w:World) (η:Nat→Value) (Z T:FP) (S:World→Prop),OL P Γ E ov ops fuel listed s K→Inst C s a w η Z T→Eo js a0 a→
 (∀w',w.heap.size≤w'.heap.size→OH Z w w'→S w')→(∀s' a' w',K s'→Rel C s' a' w'→Eo js a0 a'→R a' w')→wpAnyH P .any ops (JH R) S fuel listed a w
 |0,listed,s,K,a,w,η,Z,T,S,h,hi,hf,hS,hQ=>by
  obtain⟨h1,h2⟩:=h
  exact⟨List.isEmpty_iff.1 h1,hQ s a w h2 ⟨η,Z,T,hi⟩ hf⟩
 |fuel+1,listed,s,K,a,w,η,Z,T,S,h,hi,hf,hS,hQ=>by
  unfold OL at h
  split at h
  ·rename_i he
   unfold wpAnyH
   rw[he]
   exact⟨fun _=>hQ s a w h ⟨η,Z,T,hi⟩ hf,fun i hi=>(by cases hi)⟩
  ·rename_i i l he
   split at h
   ·rename_i j hns hj
    obtain⟨hm,hej⟩:=a7P hj
    unfold a1A at hej
    split at hej
    rotate_left
    ·cases hej
    rename_i o ho
    split at hej
    rotate_left
    ·cases hej
    rename_i hg
    split at hej
    rotate_left
    ·cases hej
    rename_i hop
    have hav:=hjs j o ho
    simp only[EJ,ho,hg,Rb] at h
    have hp:EI P ov s.regs o.op (fun r=>OL P Γ E ov ops fuel (listed.setIfInBounds j true) ⟨setR s.regs o.dst r,s.nx⟩ K):=by
     unfold Ko at h
     have hop0:=hop
     cases heq:o.op<;>simp only[heq,QS,Bl] at hop
     case call c=>
      rw[heq] at hop0
      obtain⟨args,ts,rfl⟩:=a7g hop0
      simp only[heq] at h ⊢;exact h
     all_goals(simp only[heq] at h ⊢;exact h)
    obtain⟨v,r,h1,h2,h3,h4⟩:=b6x hop hp hi.rel hi.ids
    have hw:Region.wanted o (yielded ops a.tmps)=true:=by simp [Region.wanted,hg]
    obtain⟨η2,Z2,T2,hi2⟩:=hi.at_here.put o.dst h2 h3
    obtain⟨hag,hzz⟩:=hi.agree hi2
    have hsz:=hi2.ok.size
    refine a7Q (S:=fun w'=>S w'∧OH Z w w') (fun w' h=>h.1) _ _ _ _ ?_
    refine wpAnyH_take ho hns hej (by rw[he];simpa using hm) (fun c a w h=>h) (.inl ⟨hw,fun w' hw'=>h1 w' hw'.2⟩) ⟨hS w (Bu _) (fun _ _ _=>rfl),fun _ _ _=>rfl⟩ ?_
    refine a1B hΓ hjs fuel _ _ K _ w η2 Z2 T2 _ h4 (hi.from_here hi2) (hf.put hav v) (fun w' hle hA=> ?_) hQ
    have hA':OH Z w w':=fun b hz hlt=>hA b (hzz b hz hlt) hlt
    exact⟨hS w' hle hA',hA'⟩
   ·unfold wpAnyH
    rw[he]
    refine⟨fun h=>(by cases h),fun j hj=> ?_⟩
    refine a1y (C:=hi.here) hΓ hjs j s _ a w (a7O h j hj) ⟨η,Z,T,hi.at_here⟩ hf fun s' a' w' hk hr' hf'=> ?_
    obtain⟨η2,Z2,T2,hi2⟩:=hr'
    obtain⟨hag,hzz⟩:=hi.agree hi2
    have hsz:w.heap.size≤w'.heap.size:=hi2.ok.size
    refine⟨hS w' hsz hag,a1B hΓ hjs fuel _ s' K a' w' η2 Z2 T2 S hk (hi.from_here hi2) hf' (fun w2 hle hA=> ?_) hQ⟩
    exact hS w2 (Jt hsz hle) fun b hz hlt=>(hA b (hzz b hz hlt) (Ev hlt hsz)).trans (hag b hz hlt)
theorem b7o(hΓ:∀f k S,Γ f k=some S→Eb C.G P f S){E:TypeId→Option ES}
      (hm:P.follows .mixedOrders=true) (h:OL P Γ E ov ops ops.size (Array.replicate ops.size false) s K)
 (hjs:∀(i:Nat) (o:Oper),ops[i]? =some o→HU js o.dst=true)
 (hr:Rel C s a w) (hf:Eo js a0 a) (hQ:∀s' a' w',K s'→Rel C s' a' w'→Eo js a0 a'→Q .normal a' w'):(Code.region id ops true).wp P Q a w:=by
 refine wp_mono (Q:=JH fun a w=>Q .normal a w) (wp_region_any hm ?_) (fun e a w h=> ?_)
 ·obtain⟨η,Z,T,hi⟩:=hr.ext (w':= {w with drawn:=w.drawn+1}) ⟨rfl,rfl,rfl,Bu _,fun _ _=>rfl⟩
  exact wpAny_of_held _ _ _ _ (a1B hΓ hjs _ _ s K a _ η Z T (fun _=>True) h hi hf (fun _ _ _=>trivial) hQ)
 ·cases e<;>simp only[JH] at h<;>exact h
def a1C(ops:Array Oper)(i:Nat):Bool:=match ops[i]? with
 |some o=>match o.guard with
  |none=>Wc o.op
  |some _=>false
 |none=>false
def Wr(ops:Array Oper)(oi:Oper):List Nat→Bool
 |[]=>true
 |j::l=>match ops[j]? with
  |some oj=>match oi.apart ops oj with
   |true=>Wr ops oi l
   |false=>false
  |none=>false
def Rf(ops:Array Oper)(i:Nat)(pre:List Nat):Bool:=match ops[i]? with
 |some oi=>Wr ops oi pre
 |none=>false
def Wt(ops:Array Oper):List Nat→List Nat→Option (List Nat×Nat×List Nat)
 |_,[]=>none
 |pre,i::rest=>match a1C ops i,Rf ops i pre with
  |true,true=>some (pre,i,rest)
  |_,_=>Wt ops (pre++[i]) rest
def Rh(P:Program)(Γ:FuncId→Nat→Option Sig)(E:TypeId→Option ES)(ov:Bool)(ops:Array Oper):Nat→List Nat→St→(St→Prop)→Prop
 |0,_,_,_=>False
 |_+1,[],s,K=>K s
 |n+1,j::rest,s,K=>match Wt ops [j] rest with
  |some (pre,i,post)=>EJ P Γ E ov ops [i] s fun s'=>Rh P Γ E ov ops n (pre++post) s' K
  |none=>EJ P Γ E ov ops [j] s fun s'=>Rh P Γ E ov ops n rest s' K
theorem a7R{ops:Array Oper}:∀ {l pre pre' post:List Nat} {i:Nat},Wt ops pre l=some (pre',i,post)→a1C ops i=true∧Rf ops i pre'=true∧pre++l=pre'++i::post
 |[],pre,pre',post,i,h=>by cases h
 |j::l,pre,pre',post,i,h=>by
  unfold Wt at h
  split at h
  ·rename_i h1 h2
   simp only[AS,BM] at h
   obtain⟨rfl,rfl,rfl⟩:=h
   exact⟨h1,h2,rfl⟩
  ·obtain⟨h1,h2,h3⟩:=a7R h
   exact⟨h1,h2,by rw[←h3];simp⟩
theorem a1D{P:Program}{ops:Array Oper}{R:Act→World→Prop}{i:Nat}{oi:Oper}{v:Value}(hi:ops[i]? =some oi)(hs:Region.noSelect ops=true){post:List Nat}:
 ∀ {pre:List Nat} {a:Act} {w:World},Wr ops oi pre=true→Yields P ops oi v a→wpOps P ops (JH R) (pre++post) (a.put oi.dst v) w→wpOps P ops (JH R) (pre++i::post) a w
 |[],a,w,_,hy,h=>by
  rw[Hr,wpOps_cons];exact hy.wpOp hi h
 |j::pre,a,w,hap,hy,h=>by
  unfold Wr at hap
  split at hap
  rotate_left
  ·cases hap
  rename_i oj hj
  split at hap
  rotate_left
  ·cases hap
  rename_i hapj
  rw[EW,wpOps_cons] at h ⊢
  have:=wpOp_put hj hapj (fun cs b=>Region.noSelect_spec hs i oi cs b hi) (fun cs b=>Region.noSelect_spec hs j oj cs b hj) (fun c a w h=>h) hy h
  exact wpOp_mono (fun a' w' h'=>a1D hi hs hap h'.1 h'.2) this
theorem a1E{P:Program}{Γ:FuncId→Nat→Option Sig}{C:Ctx}(hΓ:∀f k S,Γ f k=some S→Eb C.G P f S){E:TypeId→Option ES}{ov:Bool}{ops:Array Oper}{js:List Nat}{a0:Act}
 (hs:Region.noSelect ops=true) (hjs:∀(i:Nat) (o:Oper),ops[i]? =some o→HU js o.dst=true) {R:Act→World→Prop}:
 ∀(n:Nat) (l:List Nat) (s:St) (K:St→Prop) (a:Act) (w:World),Rh P Γ E ov ops n l s K→Rel C s a w→Eo js a0 a→
 (∀s' a' w',K s'→Rel C s' a' w'→Eo js a0 a'→R a' w')→wpOps P ops (JH R) l a w
 |0,l,s,K,a,w,h,hr,hf,hQ=>h.elim
 |n+1,[],s,K,a,w,h,hr,hf,hQ=>hQ s a w h hr hf
 |n+1,j::rest,s,K,a,w,h,hr,hf,hQ=>by
  unfold Rh at h
  split at h
  ·rename_i pre i post hfi
   obtain⟨h1,h2,h3⟩:=a7R hfi
   have h3:j::rest=pre++i::post:=h3
   rw[h3]
   unfold a1C at h1
   split at h1
   rotate_left
   ·cases h1
   rename_i o ho
   split at h1
   rotate_left
   ·cases h1
   rename_i hg
   unfold Rf at h2
   rw[ho] at h2
   simp only[EJ,ho,hg,Rb] at h
   obtain⟨η,Z,T,hi⟩:=hr
   have hp:EI P ov s.regs o.op (fun r=>Rh P Γ E ov ops n (pre++post) ⟨setR s.regs o.dst r,s.nx⟩ K):=by
    unfold Ko at h
    unfold Wc at h1
    split at h1
    ·rename_i x heq
     simp only[heq] at h ⊢;exact h
    ·rename_i args ts heq
     simp only[heq] at h ⊢;exact h
    ·cases h1
   obtain⟨v,r,g1,g2,g3,g4⟩:=b6y h1 hp hi.rel hi.ids
   have hw:Region.wanted o (yielded ops a.tmps)=true:=by simp [Region.wanted,hg]
   exact a1D ho hs h2 (.inl ⟨hw,g1⟩) (a1E hΓ hs hjs n _ _ K _ w g4 (hi.put o.dst g2 g3) (hf.put (hjs i o ho) v) hQ)
  ·rw[wpOps_cons]
   exact a1y hΓ hjs j s _ a w h hr hf fun s' a' w' hk hr' hf'=>a1E hΓ hs hjs n _ s' K a' w' hk hr' hf' hQ
def Wu:Op→Bool
 | .move _=>true
 | .indexAddr _ _ _=>true
 | .fieldAddr _ _ _=>true
 |_=>false
theorem b7p{regs:List AV}{K:AV→Prop}(he:Wu o.op=true)(h:EI P ov regs o.op K){S:FP}
 (hR:Am Z η w regs a.tmps.toList S) (hI:AN n regs):
 ∃v r,(∀w',(execOp a.eval o).run P w'= .ok (.value v) w')∧Af Z η w r v (fun _=>False)∧Az n r∧K r:=by
 have hop:=FQ hR
 have hid:=Iz hI
 unfold Wu at he
 split at he
 ·rename_i x heq
  rw[heq] at h;simp only[EI] at h
  exact⟨_,_,fun _=>by simp [execOp,heq],hop _,hid _,h⟩
 ·rename_i t x i heq
  rw[heq] at h;simp only[EI] at h
  obtain⟨v,r,h1,h2,h3,h4⟩:=a0w (w:=w) h hR hI (hop _) (hid _) (hop _)
  refine⟨v,r,fun w'=> ?_,h2,h3,h4⟩
  have he:execOp a.eval o=(do pure (.value (←Instr.indexAt t (a.eval x) (a.eval i)))):=by simp [execOp,heq]
  rw[he];exact Hz (h1 w')
 ·rename_i t x f heq
  rw[heq] at h;simp only[EI] at h
  obtain⟨v,r,h1,h2,h3,h4⟩:=a0t (w:=w) h hR (hop _) (hid _)
  refine⟨v,r,fun w'=> ?_,h2,h3,h4⟩
  have he:execOp a.eval o=(do pure (.value (←Instr.fieldAt t (a.eval x) f))):=by simp [execOp,heq]
  rw[he];exact Hz (h1 w')
 ·cases he
def a1F(ops:Array Oper)(i:Nat):Bool:=match ops[i]? with
 |some o=>match o.guard with
  |none=>Wu o.op
  |some _=>false
 |none=>false
def Wv(ops:Array Oper):List Nat→List Nat→Option (List Nat×Nat×List Nat)
 |_,[]=>none
 |pre,i::rest=>match a1F ops i,Rf ops i pre with
  |true,true=>some (pre,i,rest)
  |_,_=>Wv ops (pre++[i]) rest
theorem a7S{ops:Array Oper}:∀ {l pre pre' post:List Nat} {i:Nat},Wv ops pre l=some (pre',i,post)→a1F ops i=true∧Rf ops i pre'=true∧pre++l=pre'++i::post
 |[],pre,pre',post,i,h=>by cases h
 |j::l,pre,pre',post,i,h=>by
  unfold Wv at h
  split at h
  ·rename_i h1 h2
   simp only[AS,BM] at h
   obtain⟨rfl,rfl,rfl⟩:=h
   exact⟨h1,h2,rfl⟩
  ·obtain⟨h1,h2,h3⟩:=a7S h
   exact⟨h1,h2,by rw[←h3];simp⟩
def IC(ops:Array Oper):List Nat→List Oper×List Nat
 |[]=>([],[])
 |i::l=>match ops[i]? with
  |some o=>match o.guard,o.dst,a1s o.op with
   |none,some _,true=>(o::(IC ops l).1,(IC ops l).2)
   |_,_,_=>([],i::l)
  |none=>([],i::l)
theorem a7T{P:Program}{ops:Array Oper}{Q:Exit→Act→World→Prop}{N:Act→World→Prop}:∀(l:List Nat),(∀a w,N a w→wpOps P ops Q (IC ops l).2 a w)→∀(a:Act) (w:World),Re P Q (IC ops l).1 N a w→wpOps P ops Q l a w
 |[],hN,a,w,h=>by simp only[IC] at h hN;exact hN a w h
 |i::l,hN,a,w,h=>by
  unfold IC at h hN
  cases ho:ops[i]? with
  |none=>rw[ho] at h hN;exact hN a w h
  |some o=>
   rw[ho] at h hN
   simp only at h hN
   split at h
   ·rename_i x hg hd ha
    rw[hg,hd,ha] at hN
    rw[wpOps_cons]
    unfold wpOp
    simp only[ho]
    rw[if_pos (by simp [Region.wanted,hg])]
    exact .inl (Wp h fun a' w' h'=>a7T l hN a' w' h')
   ·rename_i hne
    have:(match o.guard,o.dst,a1s o.op with
     |none,some val,true=>(o::(IC ops l).1,(IC ops l).2)
     |_,_,_=>([],i::l))=([],i::l):=by
     split
     ·rename_i h1 h2 h3;exact(hne _ h1 h2 h3).elim
     ·rfl
    rw[this] at hN
    exact hN a w h
theorem a7U{ops:Array Oper}:∀(l:List Nat),∀o∈(IC ops l).1,∃i:Nat,ops[i]? =some o
 |[],o,h=>by simp [IC] at h
 |i::l,o,h=>by
  unfold IC at h
  split at h
  ·rename_i o' ho
   split at h
   ·rcases EX.1 h with rfl|h
    ·exact⟨i,ho⟩
    ·exact a7U l o h
   ·cases h
  ·cases h
def a7V(P:Program)(ops:Array Oper)(j:Nat)(rest:List Nat):Option (Oper×List Oper×Oper×List Nat):=match ops[j]? with
 |some o=>match(IC ops rest).2 with
  |i2::rest'=>match ops[i2]? with
   |some o2=>match Wo P o o2 with
    |true=>some (o,(IC ops rest).1,o2,rest')
    |false=>none
   |none=>none
  |[]=>none
 |none=>none
def a7W(P:Program)(ops:Array Oper)(j:Nat)(rest:List Nat):Option (Oper×Oper×List Nat):=match ops[j]?,rest with
 |some o,i1::rest'=>match ops[i1]? with
  |some o1=>match TJ P o o1 with
   |true=>some (o,o1,rest')
   |false=>none
  |none=>none
 |_,_=>none
def Nw(P:Program)(Γ:FuncId→Nat→Option Sig)(E:TypeId→Option ES)(ov:Bool)(ops:Array Oper):Nat→List Nat→St→(St→Prop)→Prop
 |0,_,_,_=>False
 |_+1,[],s,K=>K s
 |n+1,j::rest,s,K=>match Wv ops [j] rest with
  |some (pre,i,post)=>EJ P Γ E ov ops [i] s fun s'=>Nw P Γ E ov ops n (pre++post) s' K
  |none=>match a7V P ops j rest with
   |some (o,ms,o2,rest')=>a1u P Γ E ov o ms o2 s fun s'=>Nw P Γ E ov ops n rest' s' K
   |none=>match a7W P ops j rest with
    |some (o,o1,rest')=>a1x o o1 s fun s'=>Nw P Γ E ov ops n rest' s' K
    |none=>EJ P Γ E ov ops [j] s fun s'=>Nw P Γ E ov ops n rest s' K
theorem TK{P:Program}{Γ:FuncId→Nat→Option Sig}{C:Ctx}(hΓ:∀f k S,Γ f k=some S→Eb C.G P f S){E:TypeId→Option ES}{ov:Bool}{ops:Array Oper}{js:List Nat}{a0:Act}
 (hs:Region.noSelect ops=true) (hjs:∀(i:Nat) (o:Oper),ops[i]? =some o→HU js o.dst=true) {R:Act→World→Prop}:
 ∀(n:Nat) (l:List Nat) (s:St) (K:St→Prop) (a:Act) (w:World),Nw P Γ E ov ops n l s K→Rel C s a w→Eo js a0 a→
 (∀s' a' w',K s'→Rel C s' a' w'→Eo js a0 a'→R a' w')→wpOps P ops (JH R) l a w
 |0,l,s,K,a,w,h,hr,hf,hQ=>h.elim
 |n+1,[],s,K,a,w,h,hr,hf,hQ=>hQ s a w h hr hf
 |n+1,j::rest,s,K,a,w,h,hr,hf,hQ=>by
  unfold Nw at h
  split at h
  ·rename_i pre i post hfi
   obtain⟨h1,h2,h3⟩:=a7S hfi
   have h3:j::rest=pre++i::post:=h3
   rw[h3]
   unfold a1F at h1
   split at h1
   rotate_left
   ·cases h1
   rename_i o ho
   split at h1
   rotate_left
   ·cases h1
   rename_i hg
   unfold Rf at h2
   rw[ho] at h2
   simp only[EJ,ho,hg,Rb] at h
   obtain⟨η,Z,T,hi⟩:=hr
   have hp:EI P ov s.regs o.op (fun r=>Nw P Γ E ov ops n (pre++post) ⟨setR s.regs o.dst r,s.nx⟩ K):=by
    unfold Ko at h
    unfold Wu at h1
    split at h1
    ·rename_i x heq
     simp only[heq] at h ⊢;exact h
    ·rename_i t x i heq
     simp only[heq] at h ⊢;exact h
    ·rename_i t x i heq
     simp only[heq] at h ⊢;exact h
    ·cases h1
   obtain⟨v,r,g1,g2,g3,g4⟩:=b7p h1 hp hi.rel hi.ids
   have hw:Region.wanted o (yielded ops a.tmps)=true:=by simp [Region.wanted,hg]
   exact a1D ho hs h2 (.inl ⟨hw,g1⟩) (TK hΓ hs hjs n _ _ K _ w g4 (hi.put o.dst g2 g3) (hf.put (hjs i o ho) v) hQ)
  ·split at h
   ·rename_i o ms o2 rest' hna
    unfold a7V at hna
    split at hna
    rotate_left
    ·cases hna
    rename_i o' ho
    split at hna
    rotate_left
    ·cases hna
    rename_i i2 rest2 hrest
    split at hna
    rotate_left
    ·cases hna
    rename_i o2' ho2
    split at hna
    rotate_left
    ·cases hna
    rename_i hns
    simp only[AS,BM] at hna
    obtain⟨rfl,rfl,rfl,rfl⟩:=hna
    have hgs:o'.guard=none∧o2'.guard=none:=by
     unfold Wo at hns
     split at hns
     ·split at hns
      ·rename_i g1 g2 _ _;exact⟨g1,g2⟩
      ·cases hns
     ·cases hns
    obtain⟨v,e1,e2⟩:=b7m hΓ hns h hr (JH R)
    rw[wpOps_cons]
    unfold wpOp
    simp only[ho]
    rw[if_pos (by simp [Region.wanted,hgs.1])]
    refine .inl ?_
    unfold Oper.wp
    rw[e1,Oper.upon_value]
    refine a7T rest ?_ _ _ e2
    rintro a1 w1 ⟨hlv,hst⟩
    have hf1:Eo js a0 a1:=by
     have hp:=hf.put (hjs j o' ho) v
     refine⟨hlv.1.trans hp.1,fun m hm=>(hlv.2 m fun o ho'=> ?_).trans (hp.2 m hm)⟩
     obtain⟨i,hi⟩:=a7U rest o ho'
     have:=hjs i o hi
     intro e
     rw[e] at this
     simp only[HU,EV] at this
     rw[this] at hm;cases hm
    rw[hrest,wpOps_cons]
    unfold wpOp
    simp only[ho2]
    rw[if_pos (by simp [Region.wanted,hgs.2])]
    refine .inl (Wp hst ?_)
    rintro a2 w2 ⟨s2,hk2,hr2,u,rfl⟩
    exact TK hΓ hs hjs n _ s2 K _ w2 hk2 hr2 (hf1.put (hjs i2 o2' ho2) u) hQ
   ·split at h
    ·rename_i o o1 rest' hla
     obtain⟨o',i1,rest2,o1',rfl,ho,ho1,hnl0⟩:∃o' i1 rest2 o1',rest=i1::rest2∧ops[j]? =some o'∧ops[i1]? =some o1'∧(match TJ P o' o1' with|true=>some (o',o1',rest2)|false=>none)=some (o,o1,rest'):=by
      unfold a7W at hla
      cases hoj:ops[j]? with
      |none=>rw[hoj] at hla;cases hla
      |some o'=>
       rw[hoj] at hla
       cases rest with
       |nil=>cases hla
       |cons i1 rest2=>
        simp only at hla
        cases ho1:ops[i1]? with
        |none=>rw[ho1] at hla;cases hla
        |some o1'=>rw[ho1] at hla;exact⟨o',i1,rest2,o1',rfl,rfl,ho1,hla⟩
     clear hla
     have hla:=hnl0
     clear hnl0
     split at hla
     rotate_left
     ·cases hla
     rename_i hnl
     simp only[AS,BM] at hla
     obtain⟨rfl,rfl,rfl⟩:=hla
     have hgs:o'.guard=none∧o1'.guard=none:=by
      unfold TJ at hnl
      split at hnl
      ·split at hnl
       ·rename_i g1 g2 _ _;exact⟨g1,g2⟩
       ·cases hnl
      ·cases hnl
     obtain⟨v,u,e1,e2,s',hk,hr'⟩:=b7n hnl h hr
     rw[wpOps_cons]
     unfold wpOp
     simp only[ho]
     rw[if_pos (by simp [Region.wanted,hgs.1])]
     refine .inl ?_
     unfold Oper.wp
     rw[e1,Oper.upon_value,wpOps_cons]
     unfold wpOp
     simp only[ho1]
     rw[if_pos (by simp [Region.wanted,hgs.2])]
     refine .inl ?_
     unfold Oper.wp
     rw[e2,Oper.upon_value]
     exact TK hΓ hs hjs n _ s' K _ w hk hr' ((hf.put (hjs j o' ho) v).put (hjs i1 o1' ho1) u) hQ
    ·rw[wpOps_cons]
     exact a1y hΓ hjs j s _ a w h hr hf fun s' a' w' hk hr' hf'=>TK hΓ hs hjs n _ s' K a' w' hk hr' hf' hQ
inductive Ex where
 |normal
 |exit (id:Nat)
 |ret
def Ex.tuu:Ex→Exit
 | .normal=> .normal
 | .exit id=> .exit id
 | .ret=> .ret
structure LS:Type 1 where
 ι:Type
 inv:ι→Prop
 regs:ι→List (Nat×AV)
 als:List (Nat×Nat)
 meas:ι→Nat
 sub:ι→List (Nat×LS):=fun _=>[]
 clos:List (Nat×Fn×Nat):=[]
variable {L:LS}
def a1G:List (Nat×LS)→(Nat→Option LS)→Nat→Option LS
 |[],L=>L
 |(g,S)::l,L=>fun f=>match Nat.beq g f with
  |true=>some S
  |false=>a1G l L f
def TM:List (Nat×AV)→List AV→(List AV→Prop)→Prop
 |[],regs,K=>K regs
 |(j,e)::rest,regs,K=>Fe false e regs (Bj regs (.tmp j)) fun regs'=>TM rest regs' K
def TN(regs:List AV):List (Nat×Nat)→Prop
 |[]=>True
 |(s,j)::rest=>(match Bj regs (.tmp s),Bj regs (.tmp j) with
    | .al a,.al b=>match Nat.beq a b with
      |true=>True
      |false=>False
    |_,_=>False)∧TN regs rest
def OM:List AV→List Nat→List AV→List AV
 |regs,j::js,a::azs=>OM (regs.set j a) js azs
 |regs,_,_=>regs
def TO:List AV→List (Nat×Nat)→List AV
 |regs,[]=>regs
 |regs,(s,j)::rest=>TO (regs.set s (Bj regs (.tmp j))) rest
def Ww:List (Nat×Fn×Nat)→List AV→List AV
 |[],regs=>regs
 |(p,fn,j)::l,regs=>Ww l (match regs[j]? with
  |some (.box id _)=>regs.set p (.clo fn [.al id])
  |_=>regs)
def a1H(caps:List (Nat×Fn×Nat))(s:St):St:=match caps with
 |[]=>s
 |c::cs=>⟨Ww (c::cs) s.regs,s.nx⟩
def Wx(regs:List AV):List (Nat×Fn×Nat)→Prop
 |[]=>True
 |(s,fn,j)::rest=>(match Bj regs (.tmp s),Bj regs (.tmp j) with
    | .clo fn' [.al a],.al b=>match TC fn' fn,Nat.beq a b with
      |true,true=>True
      |_,_=>False
    |_,_=>False)∧Wx regs rest
def ON(N:Nat)(L:LS)(i:L.ι):St:=
 ⟨TO (OM (List.replicate N .top) ((L.regs i).map (·.1)) (CO 0 ((L.regs i).map (·.2))).1) L.als,(CO 0 ((L.regs i).map (·.2))).2⟩
def OO(N:Nat)(L:LS)(i:L.ι):St:=a1H L.clos (ON N L i)
def a1I(s:St)(L:LS)(i:L.ι):Prop:=TM (L.regs i) s.regs (fun _=>True)∧TN s.regs L.als
def enter(s:St)(L:LS)(i:L.ι):Prop:=match L.clos with
 |[]=>TM (L.regs i) s.regs (fun _=>True)∧TN s.regs L.als
 |c::cs=>a1I s L i∧Wx s.regs (c::cs)
theorem b7q{i:L.ι}(h:enter s L i):a1I s L i∧Wx s.regs L.clos:=by
 unfold enter at h
 cases hc:L.clos with
 |nil=>rw[hc] at h;exact⟨h,trivial⟩
 |cons c cs=>rw[hc] at h;exact h
theorem a7X{η:Nat→Value}{w:World}{n:Nat}{a:Act}:∀(es:List (Nat×AV)) (regs:List AV) (K:List AV→Prop),TM es regs K→
 ∀(Z B:FP),Am Z η w regs a.tmps.toList B→AN n regs→(∀b,B b→Z b)→
 ∃Z' A',AU Z' w (es.map (·.2)) (es.map fun p=>a.eval (.tmp p.1)) A'∧(∀b,Z' b→Z b)∧(∀b,Z b→¬Z' b→B b)∧(∀b,A' b→B b)∧(∀b,A' b→Z' b)
 |[],regs,K,h,Z,B,hR,hI,hB=>⟨Z,fun _=>False,by simp [AU,emp],fun _ h=>h,fun _ h h'=>(h' h).elim,fun _ h=>h.elim,fun _ h=>h.elim⟩
 |(j,e)::es,regs,K,h,Z,B,hR,hI,hB=>by
  unfold TM at h
  obtain⟨Z1,A1,B1,r1,ho⟩:=a7m e regs _ _ h Z a.tmps.toList (a.eval (.tmp j)) B (fun _=>False) B hR hI (FQ hR (.tmp j)) (Iz hI (.tmp j)) (Cu B)
  obtain⟨Z2,A2,k1,k2,k3,k4,k5⟩:=a7X es r1 K ho.k Z1 B1 ho.rel ho.ids (fun b hb=>ho.ownB rfl b hb (hB b (ho.part b (.inr hb))))
  refine⟨Z2,fun b=>A1 b∨A2 b,?_,fun b hb=>ho.zz b (k2 b hb),?_,?_,?_⟩
  ·simp only[En,AU]
   refine⟨_,_,A1,A2,rfl,⟨fun _=>Cg,fun b x y=>ho.dis b x (k4 b y)⟩,Hw (JG k2) _ _ _ (fun _ _=>rfl) ho.got,k1⟩
  ·intro b hz hz2
   by_cases hz1:Z1 b
   ·exact ho.part b (.inr (k3 b hz1 hz2))
   ·exact ho.gone b hz hz1
  ·intro b hb
   exact hb.elim (fun hb=>ho.part b (.inl hb)) (fun hb=>ho.part b (.inr (k4 b hb)))
  ·intro b hb
   rcases hb with hb|hb
   ·have hz1:=ho.ownA b hb (hB b (ho.part b (.inl hb)))
    exact Classical.byContradiction fun hn=>ho.dis b hb (k3 b hz1 hn)
   ·exact k5 b hb
theorem a1J{Z:FP}{η:Nat→Value}{w:World}{n:Nat}{a:Act}:∀(js:List Nat) (azs regs:List AV) (A B:FP),Am Z η w regs a.tmps.toList B→AN n regs→js.length=azs.length→
 Am Z η w azs (js.map fun j=>a.eval (.tmp j)) A→AN n azs→(∀b,A b→¬B b)→
 ∃S,(∀b,S b→A b∨B b)∧Am Z η w (OM regs js azs) a.tmps.toList S∧AN n (OM regs js azs)
 |[],azs,regs,A,B,hr,hi,hl,ha,hai,hd=>⟨B,fun _ h=> .inr h,by simpa [OM] using hr,by simpa [OM] using hi⟩
 |j::js,[],regs,A,B,hr,hi,hl,ha,hai,hd=>by simp at hl
 |j::js,x::azs,regs,A,B,hr,hi,hl,ha,hai,hd=>by
  simp only[En,Am] at ha
  obtain⟨v,cs',A1,A2,e,hj,h1,h2⟩:=ha
  simp only[HQ] at e
  obtain⟨rfl,rfl⟩:=e
  simp only[OM]
  rcases Ju j regs.length with hlt|hge
  ·obtain⟨S1,hS1,hr1⟩:=Tn hr hlt h1 (fun b hb=>hd b ((hj.1 b).2 (.inl hb)))
   have hset:a.tmps.toList.set j (a.eval (.tmp j))=a.tmps.toList:=by
    have hlen:=GF _ _ _ hr
    have hj2:j<a.tmps.size:=by simp at hlen;omega
    apply LP
    intro i
    rw[Qw]
    split
    ·rename_i h1;subst h1
     simp [Act.eval,hj2,Jr]
    ·rfl
   rw[hset] at hr1
   obtain⟨S,hS,g1,g2⟩:=a1J js azs _ A2 S1 hr1 (Iy _ _ _ hi hai.1) (by simpa using hl) h2 hai.2 (fun b h h'=>(hS1 b h').elim (fun h'=>hd b ((hj.1 b).2 (.inr h)) h') (fun h'=>hj.2 b h' h))
   exact⟨S,fun b hb=>(hS b hb).elim (fun h=> .inl ((hj.1 b).2 (.inr h))) (fun h=>(hS1 b h).elim .inr (fun h=> .inl ((hj.1 b).2 (.inl h)))),g1,g2⟩
  ·rw[Nc hge]
   obtain⟨S,hS,g1,g2⟩:=a1J js azs regs A2 B hr hi (by simpa using hl) h2 hai.2 (fun b h h'=>hd b ((hj.1 b).2 (.inr h)) h')
   exact⟨S,fun b hb=>(hS b hb).elim (fun h=> .inl ((hj.1 b).2 (.inr h))) .inr,g1,g2⟩
theorem a7Y{Z:FP}{η:Nat→Value}{w:World}{n:Nat}{a:Act}:∀(als:List (Nat×Nat)) (regs:List AV) (B:FP),Am Z η w regs a.tmps.toList B→AN n regs→
 (∀p∈als,a.eval (.tmp p.1)=a.eval (.tmp p.2))→∃S,(∀b,S b→B b)∧Am Z η w (TO regs als) a.tmps.toList S∧AN n (TO regs als)
 |[],regs,B,hr,hi,h=>⟨B,fun _ h=>h,hr,hi⟩
 |(s,j)::als,regs,B,hr,hi,h=>by
  simp only[TO]
  have hv:=FQ hr (.tmp j)
  have he:=h (s,j) (by simp)
  simp only at he
  rw[←he] at hv
  obtain⟨S1,hS1,hr1⟩:=Tm hr s hv
  have hset:s<regs.length→a.tmps.toList.set s (a.eval (.tmp s))=a.tmps.toList:=by
   intro hlt
   have hlen:=GF _ _ _ hr
   have hj2:s<a.tmps.size:=by simp at hlen;omega
   apply LP
   intro i
   rw[Qw]
   split
   ·rename_i h1;subst h1
    simp [Act.eval,hj2,Jr]
   ·rfl
  have hr2:Am Z η w (regs.set s (Bj regs (.tmp j))) a.tmps.toList S1:=by
   rcases Ju s regs.length with hlt|hge
   ·rw[hset hlt] at hr1;exact hr1
   ·rw[Nc (l:=a.tmps.toList) (by rw[GF _ _ _ hr];exact hge)] at hr1;exact hr1
  obtain⟨S,hS,g1,g2⟩:=a7Y als _ S1 hr2 (Iy _ _ _ hi (Iz hi (.tmp j))) (fun p hp=>h p (by simp [hp]))
  exact⟨S,fun b hb=>hS1 b (hS b hb),g1,g2⟩
theorem a7Z{Z:FP}{η:Nat→Value}{w:World}{a:Act}{regs:List AV}{B:FP}(hr:Am Z η w regs a.tmps.toList B):∀als:List (Nat×Nat),TN regs als→
 ∀p∈als,a.eval (.tmp p.1)=a.eval (.tmp p.2)
 |[],_,p,hp=>by simp at hp
 |(s,j)::als,h,p,hp=>by
  simp only[TN] at h
  rcases EX.1 hp with rfl|hp
  ·have h1:=FQ hr (.tmp s)
   have h2:=FQ hr (.tmp j)
   have h:=h.1
   split at h
   ·rename_i x y hx hy
    split at h
    ·rename_i hb
     have hb:=Cj hb
     rw[hx] at h1;rw[hy] at h2
     simp only[Af] at h1 h2
     simp only
     rw[h1.1,h2.1,hb]
    ·exact h.elim
   ·exact h.elim
  ·exact a7Z hr als h.2 p hp
theorem a8a(Z:FP)(η:Nat→Value)(w:World):∀(l:List Value),Am Z η w (List.replicate l.length .top) l (fun _=>False)
 |[]=>by simp [Am,emp]
 |v::l=>by
  simp only[AE,List.replicate_succ,Am]
  exact⟨v,l,_,_,rfl,Cu _,AI,a8a Z η w l⟩
theorem a8b(n:Nat):∀N,AN n (List.replicate N .top)
 |0=>trivial
 |N+1=>⟨trivial,a8b n N⟩
theorem a8c{n:Nat}:∀(azs:List AV) (p:Nat) (a:AV),AN n azs→azs[p]? =some a→Az n a
 |[],p,a,h,ha=>by simp at ha
 |x::azs,0,a,h,ha=>by simp at ha;subst ha;exact h.1
 |x::azs,p+1,a,h,ha=>by simp only[List.getElem?_cons_succ] at ha;exact a8c azs p a h.2 ha
theorem Wy{C:Ctx}{a:Act}{w:World}{η:Nat→Value}{Z:FP}{n:Nat}:∀(caps:List (Nat×Fn×Nat)) (regs:List AV) (T:FP),Inst C ⟨regs,n⟩ a w η Z T→
 Ns caps a.tmps.toList→∃T',Inst C ⟨Ww caps regs,n⟩ a w η Z T'
 |[],regs,T,h,_=>⟨T,h⟩
 |(p,fn,j)::l,regs,T,h,hc=>by
  obtain⟨⟨v,h1,h2⟩,h3⟩:=hc
  unfold Ww
  split
  ·rename_i id c hj
   obtain⟨u,B,g1,g2⟩:=Wd _ _ _ _ _ h.rel hj
   have hi:=a8c _ _ _ h.ids hj
   simp only[Af] at g2
   obtain⟨hu,b,arr,ty,S1,hp,_⟩:=g2
   rw[h2] at g1
   have hvu:v=u:=LU g1
   have hnew:Af Z η w (.clo fn [.al id]) (HS fn [v]) (fun _=>False):=by
    simp only[Af,Am]
    refine⟨[v],rfl,v,[],_,_,rfl,Cu _,⟨hvu.trans hu,?_,AI⟩,rfl,AI⟩
    rw[hvu,hp];trivial
   obtain⟨S',hs,hr'⟩:=Tm h.rel p hnew
   have hset:a.tmps.toList.set p (HS fn [v])=a.tmps.toList:=by
    apply LP
    intro i
    rw[Qw]
    split
    ·rename_i e;subst e;split
     ·exact h1.symm
     ·rename_i hlt;rw[Gi (by omega)]
    ·rfl
   rw[hset] at hr'
   exact Wy l _ S' ⟨h.defers,hr',Iy _ _ _ h.ids (by simp only[Az,AN];exact⟨hi.1,trivial⟩),fun b hb=>h.own b (hs b hb),h.ok⟩ h3
  ·exact Wy l regs T h h3
theorem a8d{Z:FP}{η:Nat→Value}{w:World}{regs:List AV}{a:Act}{T:FP}(hR:Am Z η w regs a.tmps.toList T):∀l,Wx regs l→Ns l a.tmps.toList
 |[],_=>trivial
 |(s,fn,j)::l,h=>by
  obtain⟨h1,h2⟩:=h
  refine⟨?_,a8d hR l h2⟩
  have hs:=FQ (a:=a) hR (.tmp s)
  have hj:=FQ (a:=a) hR (.tmp j)
  split at h1
  ·rename_i fn' id id' e1 e2
   split at h1
   ·rename_i q1 q2
    have q1:=a0N q1;have q2:=Cj q2
    subst q1;subst q2
    rw[e1] at hs;rw[e2] at hj
    simp only[Af,Am] at hs hj
    obtain⟨cs,hsv,v',cs',A',B'',rfl,_,⟨rfl,_,_⟩,rfl,_⟩:=hs
    obtain⟨hjv,hjc,_⟩:=hj
    have get:∀(k:Nat) (v:Value),a.eval (.tmp k)=v→Dm v→a.tmps.toList[k]? =some v:=by
     intro k v hv hc
     simp only[Act.eval,Jr] at hv
     rw[Fi]
     cases hx:a.tmps[k]? with
     |none=>rw[hx] at hv;simp only[Option.getD_none] at hv;subst hv;exact hc.elim
     |some u=>rw[hx] at hv;simp only[LT] at hv;rw[hv]
    exact⟨_,get s _ hsv Tk,get j _ hjv (by rw[←hjv];exact hjc)⟩
   ·exact h1.elim
  ·exact h1.elim
theorem b7r(h:Rel C s a w){i:L.ι}(he:a1I s L i):Rel C (ON a.tmps.size L i) a w:=by
 obtain⟨η,Z,T,hi⟩:=h
 obtain⟨Z',A',k1,k2,k3,k4,k5⟩:=a7X (L.regs i) s.regs _ he.1 Z T hi.rel hi.ids (fun b hb=>(hi.own b hb).1)
 have hal:=a7Z hi.rel L.als he.2
 obtain⟨p1,p2,η1,p3,p4⟩:=Lk ((L.regs i).map (·.2)) 0 _ A' η k1
 have hst:=p4 η1 (fun _ _=>rfl)
 have hst':=Dj (n:=(CO 0 ((L.regs i).map (·.2))).2) (Z':=fun c=>Z' c∨w.heap.size≤c) (w':=w) (η':=η1) (fun b hb hl=>⟨fun x=>x.elim hb (fun x=>by omega),rfl⟩) (fun _ _=>rfl) _ _ _ p2 (fun _ _=>rfl) hst
 have htop:=a8a (fun c=>Z' c∨w.heap.size≤c) η1 w a.tmps.toList
 obtain⟨S1,hS1,q1,q2⟩:=a1J (a:=a) (n:=(CO 0 ((L.regs i).map (·.2))).2) ((L.regs i).map (·.1)) _ _ A' (fun _=>False) htop (a8b _ _) (by
  have:∀(l:List AV) (n:Nat),(CO n l).1.length=l.length:=by
   intro l
   induction l with
   |nil=>intro n;rfl
   |cons x l ih=>intro n;simp [CO,ih]
  rw[this];simp) (by rw[List.map_map];exact hst') p2 (fun b _ h=>h)
 obtain⟨S2,hS2,r1,r2⟩:=a7Y L.als _ S1 q1 q2 hal
 have:=hi.next (A1:=fun _=>False) (Z1:=Z') k2 k3 (fun _ h=>h.elim) (w':=w) ⟨rfl,rfl,rfl,Bu _,fun _ _ _=>rfl⟩ (regs':=(ON a.tmps.size L i).regs) (n':=(ON a.tmps.size L i).nx) (η':=η1) (S':=S2) (a':=a) rfl
  (by simpa [ON] using r1) (by simpa [ON] using r2) (fun b hb=>by
    have hA:A' b:=(hS1 b (hS2 b hb)).resolve_right (fun x=>x)
    exact⟨.inl (k5 b hA),.inl (k4 b hA),(hi.own b (k4 b hA)).2.1⟩)
 exact⟨η1,_,S2,this⟩
theorem a1K(h:Rel C s a w){i:L.ι}(he:enter s L i):Rel C (OO a.tmps.size L i) a w:=by
 obtain⟨he1,he2⟩:=b7q he
 have h0:=b7r h he1
 unfold OO
 cases hc:L.clos with
 |nil=>exact h0
 |cons c cs=>
  rw[hc] at he2
  obtain⟨η,Z,T,hi⟩:=h
  have hcap:=a8d hi.rel _ he2
  obtain⟨η2,Z2,T2,hi2⟩:=h0
  obtain⟨T',h'⟩:=Wy (c::cs) (ON a.tmps.size L i).regs T2 hi2 hcap
  exact⟨η2,Z2,T',h'⟩
def TP:Code→Nat
 | .region id _ _=>id
 | .seq x _=>TP x
 | .block _ x=>TP x
 | .loop x=>TP x
 |_=>0
def Hd(js:List Nat):Code→Bool
 | .region _ ops _=>ops.toList.all fun o=>HU js o.dst
 | .seq x y=>Hd js x&&Hd js y
 | .cond _ x y=>Hd js x&&Hd js y
 | .block _ x=>Hd js x
 | .loop x=>Hd js x
 |_=>true
def HA(P:Program)(Γ:FuncId→Nat→Option Sig)(E:TypeId→Option ES)(ov:Bool)(N:Nat)(L:Nat→Option LS):Code→St→(Ex→St→Prop)→Prop
 | .skip,s,K=>K .normal s
 | .label _,s,K=>K .normal s
 | .ret,s,K=>K .ret s
 | .exit id,s,K=>K (.exit id) s
 | .region id ops draw,s,K=>match draw with
   |false=>match L (300000+id) with
    |some _=>Region.noSelect ops=true∧Rh P Γ E ov ops (ops.size+1) (List.range ops.size) s (K .normal)
    |none=>match L (400000+id) with
     |some _=>Region.noSelect ops=true∧Nw P Γ E ov ops (ops.size+1) (List.range ops.size) s (K .normal)
     |none=>EJ P Γ E ov ops (List.range ops.size) s (K .normal)
   |true=>match L (100000+id) with
    |some D=>P.follows .mixedOrders=true∧OL P Γ E ov ops ops.size (Array.replicate ops.size false) s (fun s'=>∃i,D.inv i∧enter s' D i)∧∀i,D.inv i→K .normal (OO N D i)
    |none=>P.follows .mixedOrders=true∧Region.lexB .any ops=true∧vcQ P Γ ov ops ops.toList s (K .normal)
 | .seq x y,s,K=>match L (200000+TP y) with
   |some D=>(HA P Γ E ov N L x s fun e s'=>match e with
    | .normal=>∃i,D.inv i∧enter s' D i
    | .exit i=>K (.exit i) s'
    | .ret=>K .ret s')∧∀i,D.inv i→HA P Γ E ov N (a1G (D.sub i) L) y (OO N D i) K
   |none=>HA P Γ E ov N L x s fun e s'=>match e with
    | .normal=>HA P Γ E ov N L y s' K
    | .exit i=>K (.exit i) s'
    | .ret=>K .ret s'
 | .cond c x y,s,K=>match c with
   | .tmp d=>match s.regs[d]? with
     |some (.bool b)=>Ae b (HA P Γ E ov N L x ⟨s.regs.set d (.bool true),s.nx⟩ K) (HA P Γ E ov N L y ⟨s.regs.set d (.bool false),s.nx⟩ K)
     |_=>False
   |_=>False
 | .block id x,s,K=>HA P Γ E ov N L x s fun e s'=>match e with
   | .normal=>K .normal s'
   | .exit i=>match Nat.beq i id with
     |true=>K .normal s'
     |false=>K (.exit i) s'
   | .ret=>K .ret s'
 | .loop x,s,K=>match L (TP x) with
   |some S=>(∃i,S.inv i∧enter s S i)∧∀i,S.inv i→HA P Γ E ov N (a1G (S.sub i) L) x (OO N S i) fun e s'=>match e with
    | .normal=>∃i',S.inv i'∧S.meas i'<S.meas i∧enter s' S i'
    | .exit k=>K (.exit k) s'
    | .ret=>K .ret s'
   |none=>False
 |_,_,_=>False
theorem OP{p:Nat→Prop}(h:∃n,p n):∃n,p n∧∀m,p m→n≤m:=by
 obtain⟨n,hn⟩:=h
 induction n using Nat.strongRecOn with
 |_ n ih=>
  by_cases hm:∃m,m<n∧p m
  ·obtain⟨m,h1,h2⟩:=hm;exact ih m h1 h2
  ·exact⟨n,hn,fun m hp=>Nat.le_of_not_lt fun hl=>hm ⟨m,hl,hp⟩⟩
theorem Mh{P:Program}{Γ:FuncId→Nat→Option Sig}{C:Ctx}(hΓ:∀f k S,Γ f k=some S→Eb C.G P f S){E:TypeId→Option ES}{ov:Bool}{js:List Nat}{a0:Act}:
 ∀(c:Code) (L:Nat→Option LS) (s:St) (K:Ex→St→Prop) (Q:Exit→Act→World→Prop) (a:Act) (w:World),HA P Γ E ov a0.tmps.size L c s K→Hd js c=true→Rel C s a w→Eo js a0 a→
 (∀e s' a' w',K e s'→Rel C s' a' w'→Eo js a0 a'→Q e.tuu a' w')→c.wp P Q a w
 | .skip,L,s,K,Q,a,w,h,hd,hr,hf,hQ=>wp_skip (hQ .normal s a w h hr hf)
 | .label _,L,s,K,Q,a,w,h,hd,hr,hf,hQ=>wp_label (hQ .normal s a w h hr hf)
 | .ret,L,s,K,Q,a,w,h,hd,hr,hf,hQ=>wp_ret (hQ .ret s a w h hr hf)
 | .exit id,L,s,K,Q,a,w,h,hd,hr,hf,hQ=>wp_exit (hQ (.exit id) s a w h hr hf)
 | .region id ops draw,L,s,K,Q,a,w,h,hd,hr,hf,hQ=>by
   simp only[HA] at h
   cases draw
   ·simp only at h
    have hjs0:∀(i:Nat) (o:Oper),ops[i]? =some o→HU js o.dst=true:=by
     intro i o ho
     simp only[Hd] at hd
     have hmem:o∈ops.toList:=Iv (i:=i) (by simpa [Fi] using ho)
     exact CC.1 hd o hmem
    split at h
    ·refine wp_mono (Q:=JH fun a w=>Q .normal a w) (wp_region (a1E hΓ (js:=js) (a0:=a0) h.1 hjs0 _ _ s _ a w h.2 hr hf fun s' a' w' hk hr' hf'=>hQ .normal s' a' w' hk hr' hf')) (fun e a w h=> ?_)
     cases e<;>simp only[JH] at h<;>exact h
    split at h
    ·refine wp_mono (Q:=JH fun a w=>Q .normal a w) (wp_region (TK hΓ (js:=js) (a0:=a0) h.1 hjs0 _ _ s _ a w h.2 hr hf fun s' a' w' hk hr' hf'=>hQ .normal s' a' w' hk hr' hf')) (fun e a w h=> ?_)
     cases e<;>simp only[JH] at h<;>exact h
    refine wp_region (Rc hΓ (js:=js) (a0:=a0) ?_ _ s _ a w h hr hf fun s' a' w' hk hr' hf'=>hQ .normal s' a' w' hk hr' hf')
    intro i o ho
    simp only[Hd] at hd
    have hmem:o∈ops.toList:=Iv (i:=i) (by simpa [Fi] using ho)
    exact CC.1 hd o hmem
   ·simp only at h
    split at h
    ·rename_i D hD
     obtain⟨h1,h2,h3⟩:=h
     refine b7o hΓ (js:=js) (a0:=a0) h1 h2 ?_ hr hf fun s' a' w' hk hr' hf'=> ?_
     ·intro i o ho
      simp only[Hd] at hd
      have hmem:o∈ops.toList:=Iv (i:=i) (by simpa [Fi] using ho)
      exact CC.1 hd o hmem
     ·obtain⟨i,hi,he⟩:=hk
      have hh:=a1K hr' he
      rw[hf'.1] at hh
      exact hQ .normal _ a' w' (h3 i hi) hh hf'
    obtain⟨h1,h2,h3⟩:=h
    simp only[Hd] at hd
    exact b7j hΓ (js:=js) (a0:=a0) h1 h2 h3 (fun o ho=>CC.1 hd o ho) hr hf fun s' a' w' hk hr' hf'=>hQ .normal s' a' w' hk hr' hf'
 | .seq x y,L,s,K,Q,a,w,h,hd,hr,hf,hQ=>by
   simp only[HA] at h
   simp only[Hd,AY] at hd
   split at h
   ·rename_i D hD
    obtain⟨h1,h2⟩:=h
    refine wp_seq (Mh hΓ x L s _ _ a w h1 hd.1 hr hf ?_)
    intro e s' a' w' hk hr' hf'
    cases e with
    |normal=>
     obtain⟨i,hi,he⟩:=hk
     have hh:=a1K hr' he
     rw[hf'.1] at hh
     exact Mh hΓ y _ _ K Q a' w' (h2 i hi) hd.2 hh hf' hQ
    |exit i=>exact hQ (.exit i) s' a' w' hk hr' hf'
    |ret=>exact hQ .ret s' a' w' hk hr' hf'
   ·refine wp_seq (Mh hΓ x L s _ _ a w h hd.1 hr hf ?_)
    intro e s' a' w' hk hr' hf'
    cases e with
    |normal=>exact Mh hΓ y L s' K Q a' w' hk hd.2 hr' hf' hQ
    |exit i=>exact hQ (.exit i) s' a' w' hk hr' hf'
    |ret=>exact hQ .ret s' a' w' hk hr' hf'
 | .cond c x y,L,s,K,Q,a,w,h,hd,hr,hf,hQ=>by
   simp only[HA] at h
   simp only[Hd,AY] at hd
   split at h
   ·rename_i d
    split at h
    ·rename_i b hb
     obtain⟨hr1,ht⟩:=hr.know hb
     have hc:a.eval (.tmp d)= .bool b:=by simp [Act.eval,Jr,ht]
     unfold Ae at h
     cases b
     ·exact wp_cond_false hc (Mh hΓ y L _ K Q a w h hd.2 hr1 hf hQ)
     ·exact wp_cond_true hc (Mh hΓ x L _ K Q a w h hd.1 hr1 hf hQ)
    ·exact h.elim
   ·exact h.elim
 | .block id x,L,s,K,Q,a,w,h,hd,hr,hf,hQ=>by
   simp only[HA] at h
   simp only[Hd] at hd
   refine wp_block (Mh hΓ x L s _ _ a w h hd hr hf ?_)
   intro e s' a' w' hk hr' hf'
   cases e with
   |normal=>exact hQ .normal s' a' w' hk hr' hf'
   |exit i=>
    simp only[Ex.tuu,Exit.inBlock]
    simp only at hk
    split at hk
    ·rename_i hb
     rw[if_pos (Cj hb)]
     exact hQ .normal s' a' w' hk hr' hf'
    ·rename_i hb
     rw[if_neg (QB hb)]
     exact hQ (.exit i) s' a' w' hk hr' hf'
   |ret=>exact hQ .ret s' a' w' hk hr' hf'
 | .loop x,L,s,K,Q,a,w,h,hd,hr,hf,hQ=>by
   simp only[HA] at h
   simp only[Hd] at hd
   split at h
   ·rename_i S hS
    obtain⟨⟨i0,hi0,he0⟩,hround⟩:=h
    let p:Act→World→Nat→Prop:=fun a w n=>∃i,S.inv i∧S.meas i=n∧Rel C (OO a0.tmps.size S i) a w∧Eo js a0 a
    have hent:∀(s:St) (a:Act) (w:World) (i:S.ι),Rel C s a w→Eo js a0 a→enter s S i→Rel C (OO a0.tmps.size S i) a w:=by
     intro s a w i hr hf he
     have:=a1K hr he
     rwa [hf.1] at this
    refine wp_loop (fun a w=>∃n,p a w n) (fun a w=>open Classical in if h:∃n,p a w n then(OP h).choose else 0) ⟨_,i0,hi0,rfl,hent s a w i0 hr hf he0,hf⟩ ?_
    intro a w hI
    have hμ:(open Classical in if h:∃n,p a w n then(OP h).choose else 0)=(OP hI).choose:=dif_pos hI
    obtain⟨⟨i,h1,h2,h3,h4⟩,hmin⟩:=(OP hI).choose_spec
    refine Mh hΓ x _ _ _ _ a w (hround i h1) hd h3 h4 ?_
    intro e s' a' w' hk hr' hf'
    cases e with
    |normal=>
     obtain⟨i',g1,g2,g3⟩:=hk
     have hp':p a' w' (S.meas i'):=⟨i',g1,rfl,hent s' a' w' i' hr' hf' g3,hf'⟩
     refine⟨⟨_,hp'⟩,?_⟩
     have hμ':(open Classical in if h:∃n,p a' w' n then(OP h).choose else 0)=(OP ⟨_,hp'⟩).choose:=dif_pos ⟨_,hp'⟩
     have h5:=(OP ⟨_,hp'⟩).choose_spec.2 _ hp'
     simp only[hμ,hμ']
     rw[h2] at g2
     exact Nat.lt_of_le_of_lt h5 g2
    |exit k=>exact hQ (.exit k) s' a' w' hk hr' hf'
    |ret=>exact hQ .ret s' a' w' hk hr' hf'
   ·exact h.elim
 | .rangeFunc _ _ _ _,L,s,K,Q,a,w,h,hd,hr,hf,hQ=>h.elim
 | .scope _,L,s,K,Q,a,w,h,hd,hr,hf,hQ=>h.elim
 | .goto _,L,s,K,Q,a,w,h,hd,hr,hf,hQ=>h.elim
 | .refuse _,L,s,K,Q,a,w,h,hd,hr,hf,hQ=>h.elim
def b7s:AV→Bool
 | .box _ _=>true
 | .bv _ _=>true
 |_=>false
def a1L:List AV→Nat→List Nat
 |[],_=>[]
 |a::azs,j=>match b7s a with
  |true=>j::a1L azs (j+1)
  |false=>a1L azs (j+1)
def Mi(js:List Nat):Nat→List AV→Bool
 |_,[]=>true
 |j,o::os=>match o with
  | .top=>Mi js (j+1) os
  | .box _ _=>match js.elem j with
    |true=>Mi js (j+1) os
    |false=>false
  | .bv _ _=>match js.elem j with
    |true=>Mi js (j+1) os
    |false=>false
  | .sl true _ _ _ _ _=>match js.elem j with
    |true=>Mi js (j+1) os
    |false=>false
  | .agg _=>match js.elem j with
    |true=>Mi js (j+1) os
    |false=>false
  |_=>false
def a1M(S:Sig)(x:S.X):List Nat:=a1L (S.args x) 0++S.fixed
def OQ(P:Program)(regs:List AV):List ResultVar→(List AV→Prop)→Prop
 |[],K=>K []
 | .tmp t::rs,K=>OQ P regs rs fun azs=>K (Bj regs (.tmp t)::azs)
 | .cell a t::rs,K=>Tu P regs t (Bj regs (.tmp a)) fun r=>OQ P regs rs fun azs=>K (r::azs)
def Ny:List AV→AV
 |[a]=>a
 |azs=> .tup azs
def TQ(N:Nat)(args:List AV):St:=⟨(CO 0 args).1++List.replicate (N-args.length) (.tup []),(CO 0 args).2⟩
def a8e(P:Program)(S:Sig)(x:S.X)(rs:List ResultVar)(n:Nat)(s:St):Prop:=
 OQ P s.regs rs fun azs=>∃y,S.post x y∧match Mi (a1M S x) 0 (S.outs x y) with
  |true=>Ff false (S.res x y::S.outs x y) s.regs (Ny azs::(List.range n).map fun j=>Bj s.regs (.tmp j)) fun _=>True
  |false=>False
def b7t(P:Program)(S:Sig)(x:S.X)(rs:List ResultVar)(n:Nat):Ex→St→Prop
 | .exit _,_=>False
 |_,s=>a8e P S x rs n s
def Ri(P:Program)(Γ:FuncId→Nat→Option Sig)(E:TypeId→Option ES)(ov:Bool)(L:Nat→Option LS)(N:Nat)(results:List ResultVar)(c:Code)(S:Sig)(x:S.X):Prop:=
 match Nat.ble (S.args x).length N,Hd (a1M S x) c with
 |true,true=>a0P S.keep (∀y,S.post x y→Kn (S.res x y::S.outs x y))∧HA P Γ E ov N L c (a1H S.caps (TQ N (S.args x))) (b7t P S x results (S.args x).length)
 |_,_=>False
theorem a8f{Z:FP}{w:World}{js:List Nat}:∀(j:Nat) (os:List AV) (vals us:List Value) (A:FP),Mi js j os=true→us.length=vals.length→
 (∀(i:Nat),i<vals.length→js.elem (j+i)=true→us[i]? =vals[i]?)→AU Z w os us A→AU Z w os vals A
 |j,[],vals,us,A,ho,hl,hf,h=>by
  simp only[AU] at h ⊢
  rw[h.1] at hl
  exact⟨Hq.1 (by simpa using hl.symm),h.2⟩
 |j,o::os,vals,us,A,ho,hl,hf,h=>by
  simp only[AU] at h ⊢
  obtain⟨u,us',A1,A2,e,hj,h1,h2⟩:=h
  subst e
  cases vals with
  |nil=>simp at hl
  |cons v vals=>
   obtain⟨ho1,ho2⟩:(o= .top∨js.elem j=true)∧Mi js (j+1) os=true:=by
    unfold Mi at ho
    split at ho
    ·exact⟨.inl rfl,ho⟩
    ·split at ho
     ·rename_i hb;exact⟨.inr hb,ho⟩
     ·cases ho
    ·split at ho
     ·rename_i hb;exact⟨.inr hb,ho⟩
     ·cases ho
    ·split at ho
     ·rename_i hb;exact⟨.inr hb,ho⟩
     ·cases ho
    ·split at ho
     ·rename_i hb;exact⟨.inr hb,ho⟩
     ·cases ho
    ·cases ho
   refine⟨v,vals,A1,A2,rfl,hj,?_,a8f (j+1) os vals us' A2 ho2 (by simpa using hl) (fun i h3 h4=>by
    have:=hf (i+1) (by simpa using h3) (by rw[show j+(i+1)=j+1+i from by omega];exact h4)
    simpa using this) h2⟩
   rcases ho1 with rfl|ho1
   ·simpa only[Aj] using h1
   ·have:=hf 0 (by simp) (by simpa using ho1)
    simp at this
    rw[←this];exact h1
def TR:List Value→Value
 |[v]=>v
 |vs=> .tuple vs.toArray
theorem b7u{t:TypeId}{x v:Value}(h:(Instr.loadAt t x).run P w= .ok v w):(do loadVar t (←asAddr x):Sem Value).run P w= .ok v w:=by
 unfold Instr.loadAt at h
 cases x with
 |pointer a=>
  cases a with
  |none=>rw[Ha] at h;cases h
  |some a=>rw[Ha] at h ⊢;exact h
 |_=>rw[Ha] at h;cases h
theorem a1N{P:Program}{regs:List AV}{Z:FP}{η:Nat→Value}{w:World}{n:Nat}{a:Act}{T:FP}(hR:Am Z η w regs a.tmps.toList T)(hI:AN n regs)
 {g:ResultVar→Sem Value} (g1:∀t,g (.tmp t)=pure (a.tmps.getD t undef)) (g2:∀b t,g (.cell b t)=(do loadVar t (←asAddr (a.tmps.getD b undef)))):
 ∀(rs:List ResultVar) (K:List AV→Prop),OQ P regs rs K→∃vs azs,(rs.mapM g).run P w= .ok vs w∧
  Am Z η w azs vs (fun _=>False)∧AN n azs∧K azs
 |[],K,h=>⟨[],[],rfl,by simp [Am,emp],trivial,h⟩
 | .tmp t::rs,K,h=>by
   simp only[OQ] at h
   obtain⟨vs,azs,h1,h2,h3,h4⟩:=a1N hR hI g1 g2 rs _ h
   refine⟨a.tmps.getD t undef::vs,Bj regs (.tmp t)::azs,?_,?_,⟨Iz hI (.tmp t),h3⟩,h4⟩
   ·rw[List.mapM_cons,g1,AC (Cy P _ w),AC h1];rfl
   ·simp only[Am];exact⟨_,_,_,_,rfl,Cu _,FQ hR (.tmp t),h2⟩
 | .cell b t::rs,K,h=>by
   simp only[OQ] at h
   obtain⟨v,r,h1,h2,h3,h4⟩:=a6Y (n:=n) h hR hI (FQ (a:=a) hR (.tmp b))
   obtain⟨vs,azs,k1,k2,k3,k4⟩:=a1N hR hI g1 g2 rs _ h4
   refine⟨v::vs,r::azs,?_,?_,⟨h3,k3⟩,k4⟩
   ·have hl:(do loadVar t (←asAddr (a.tmps.getD b undef)):Sem Value).run P w= .ok v w:=b7u (h1 w (Sees.refl w))
    rw[List.mapM_cons,g2,AC hl,AC k1];rfl
   ·simp only[Am];exact⟨_,_,_,_,rfl,Cu _,h2,k2⟩
theorem b7v{regs:List AV}(hR:Am Z η w regs a.tmps.toList T)(hI:AN n regs)
 {K:List AV→Prop} (h:OQ P regs fn.results.toList K):∃vs azs,(results fn a.tmps).run P w= .ok (TR vs) w∧Am Z η w azs vs (fun _=>False)∧AN n azs∧K azs:=by
 unfold results
 obtain⟨vs,azs,h1,h2⟩:=a1N hR hI (g:=fun| .tmp t=>pure (a.tmps.getD t undef)| .cell b t=>do loadVar t (←asAddr (a.tmps.getD b undef))) (fun _=>rfl) (fun _ _=>rfl) fn.results.toList K h
 refine⟨vs,azs,?_,h2⟩
 rw[Array.mapM_eq_mapM_toList,map_eq_pure_bind]
 refine(AC (x:=vs.toArray) (w':=w) ?_).trans ?_
 ·exact(AC h1).trans rfl
 ·simp only[Cy]
  congr 1
  match vs with
  |[]=>rfl
  |[v]=>rfl
  |v::u::vs=>rfl
theorem a8g(Z:FP)(η:Nat→Value)(w:World):∀n,Am Z η w (List.replicate n (.tup [])) (List.replicate n undef) (fun _=>False)
 |0=>by simp [Am,emp]
 |n+1=>by
  simp only[List.replicate_succ,Am]
  exact⟨undef,_,_,_,rfl,Cu _,a7L Z η w,a8g Z η w n⟩
theorem a8h(n:Nat):∀N,AN n (List.replicate N (.tup []))
 |0=>trivial
 |N+1=>⟨trivial,a8h n N⟩
theorem a8i{n:Nat}:∀(l1 l2:List AV),AN n l1→AN n l2→AN n (l1++l2)
 |[],l2,_,h2=>by simpa using h2
 |x::l1,l2,h1,h2=>⟨h1.1,a8i l1 l2 h1.2 h2⟩
theorem a8j{vs us:List Value}(e:∃r,us=vs++r):∀ {l:List (Nat×Fn×Nat)},Ns l vs→Ns l us
 |[],_=>trivial
 |(p,fn,j)::l,h=>by
  obtain⟨r,rfl⟩:=e
  obtain⟨⟨v,h1,h2⟩,h3⟩:=h
  refine⟨⟨v,?_,?_⟩,a8j ⟨r,rfl⟩ h3⟩
  ·rw[Le ((DT.1 h1).1)];exact h1
  ·rw[Le ((DT.1 h2).1)];exact h2
theorem b7w{E:TypeId→Option ES}{f:FuncId}{c:Code}{S:Sig}{L:S.X→Nat→Option LS}
 (hfn:P.funcs[f]? =some fn) (hbody:fn.body=some c) (hname:(fn.name== "runtime.NumGoroutine")=false)
 (hΓ:∀f k S,Γ f k=some S→Eb G P f S) (h:∀x,S.pre x→Ri P Γ E ov (L x) fn.ntmps fn.results.toList c S x):Eb G P f S:=by
 refine⟨⟨⟨fn,hfn,hname,by simp [hbody]⟩,fun x y hx hy=> ?_⟩,?_⟩
 ·have h:=h x hx
  unfold Ri at h
  split at h
  ·have h:=h.1
   unfold a0P at h ⊢
   split
   ·trivial
   ·rename_i hk;rw[hk] at h;exact h y hy
  ·exact h.elim
 intro x hpre Z w vals A hG hargs hA hcaps
 have h:=h x hpre
 unfold Ri at h
 split at h
 rotate_left
 ·exact h.elim
 ·rename_i hN hd
  have hvc:=h.2
  have hN:=HR hN
  have hvl:vals.length=(S.args x).length:=a7B _ _ _ hargs
  refine calls_of_wp hfn hbody ?_
  let a0:Act:= {tmps:=vals.toArray++Array.replicate (fn.ntmps-vals.toArray.size) undef,defers:=[]}
  have hsz:a0.tmps.size=fn.ntmps:=by simp [a0];omega
  obtain⟨p1,p2,η1,p3,p4⟩:=Lk (S.args x) 0 vals A (fun _=>undef) hargs
  have hst:=p4 η1 (fun _ _=>rfl)
  let C:Ctx:=⟨w,Z,A,G,hG,fun b hb=>(hA b hb).1⟩
  have hinit:Rel C (TQ fn.ntmps (S.args x)) a0 w:=by
   refine⟨η1,Z,A,⟨rfl,?_,a8i _ _ p2 (a8h _ _),fun b hb=>⟨(hA b hb).1,(hA b hb).2,fun _=>hb⟩,⟨rfl,rfl,rfl,Bu _,fun b _ _=>⟨rfl,Cg⟩⟩⟩⟩
   have:=Nv _ _ _ _ _ _ A hst (a8g Z η1 w (fn.ntmps-(S.args x).length)) (Me A)
   simpa [TQ,a0,hvl] using this
  have hinit2:Rel C (a1H S.caps (TQ fn.ntmps (S.args x))) a0 w:=by
   cases hcc:S.caps with
   |nil=>exact hinit
   |cons c cs=>
    obtain⟨η,Z1,T,hi⟩:=hinit
    obtain⟨T',h'⟩:=Wy (c::cs) (TQ fn.ntmps (S.args x)).regs T hi (by
     rw[←hcc]
     exact a8j ⟨List.replicate (fn.ntmps-vals.length) undef,by simp [a0]⟩ hcaps)
    exact⟨η,Z1,T',h'⟩
  refine Mh (C:=C) hΓ (js:=a1M S x) (a0:=a0) (E:=E) (ov:=ov) c (L x) _ _ _ a0 w (by rw[hsz];exact hvc) hd hinit2 ⟨rfl,fun _ _=>rfl⟩ ?_
  intro e s' a' w' hk hr hf
  have fin:a8e P S x fn.results.toList (S.args x).length s'→a'.defers=[]∧∃v,(results fn a'.tmps).run P w'= .ok v w'∧∃y v' Z' A',S.post x y∧Ending.returned v= .returned v'∧AU Z' w' (S.res x y::S.outs x y) (v'::vals) A'∧After Z w A Z' w' A':=by
   intro hfin
   obtain⟨η,Z1,T,hi⟩:=hr
   obtain⟨rvs,ras,hrun,hrr,hri,y,hpost,hh⟩:=b7v hi.rel hi.ids hfin
   split at hh
   rotate_left
   ·exact hh.elim
   rename_i hout
   have hres:Af Z1 η w' (Ny ras) (TR rvs) (fun _=>False):=by
    match ras,rvs,hrr with
    |[],rvs,hrr=>
     simp only[Am] at hrr
     rw[hrr.1]
     simp only[Ny,TR,Af];exact⟨[],rfl,by simp [Am,emp]⟩
    |[r],rvs,hrr=>
     simp only[Am] at hrr
     obtain⟨v,cs',A,B,e,hj,h1,h2,h3⟩:=hrr
     subst h2;subst e
     have:=(Jv hj AI).1
     rw[Fx this] at h1
     exact h1
    |r::q::ras,rvs,hrr=>
     have hl:=GF _ _ _ hrr
     match rvs,hl with
     |v::u::rvs,_=>simp only[Ny,TR,Af];exact⟨_,rfl,hrr⟩
   have hresi:Az s'.nx (Ny ras):=by
    match ras,hri with
    |[],hri=>exact hri
    |[r],hri=>exact hri.1
    |r::q::ras,hri=>simp only[Ny,Az];exact hri
   have hactual:Am Z1 η w' (Ny ras::(List.range (S.args x).length).map fun j=>Bj s'.regs (.tmp j))
    (TR rvs::(List.range (S.args x).length).map fun j=>a'.eval (.tmp j)) (fun _=>False):=by
    simp only[Am]
    refine⟨_,_,_,_,rfl,Cu _,hres,?_⟩
    have:∀l:List Nat,Am Z1 η w' (l.map fun j=>Bj s'.regs (.tmp j)) (l.map fun j=>a'.eval (.tmp j)) (fun _=>False):=by
     intro l
     induction l with
     |nil=>simp [Am,emp]
     |cons t ts ih=>
      simp only[En,Am]
      exact⟨_,_,_,_,rfl,Cu _,FQ hi.rel (.tmp t),ih⟩
    exact this _
   have hactuali:AN s'.nx (Ny ras::(List.range (S.args x).length).map fun j=>Bj s'.regs (.tmp j)):=by
    refine⟨hresi,?_⟩
    have:∀l:List Nat,AN s'.nx (l.map fun j=>Bj s'.regs (.tmp j)):=by
     intro l
     induction l with
     |nil=>trivial
     |cons t ts ih=>exact⟨Iz hi.ids (.tmp t),ih⟩
    exact this _
   obtain⟨Z2,A',B',r',ho⟩:=HT _ s'.regs _ _ hh Z1 a'.tmps.toList _ T (fun _=>False) T hi.rel hi.ids hactual hactuali (Cu T)
   refine⟨hi.defers,_,hrun,y,_,Z2,A',hpost,rfl,?_,?_⟩
   ·have hgot:=ho.got
    simp only[AU] at hgot ⊢
    obtain⟨v',us',A1,A2,e1,hj,h1,h2⟩:=hgot
    simp only[HQ] at e1
    obtain⟨rfl,rfl⟩:=e1
    refine⟨_,vals,A1,A2,rfl,hj,h1,a8f 0 _ vals _ A2 hout (by simp [hvl]) (fun i hil0 hb=> ?_) h2⟩
    have hil:i<(S.args x).length:=by omega
    have hfix:=hf.2 i (by simpa using hb)
    have hav:a0.tmps[i]? =vals[i]? :=by
     simp only[a0]
     rw[Array.getElem?_append_left (by simp;omega)]
     simp
    have hvi:vals[i]? =some vals[i]:=by simp
    simp only[LR,List.getElem?_range hil,Kj,Act.eval]
    rw[hav,hvi] at hfix
    simp [Jr,hfix,hvi]
   ·refine⟨hi.ok.os,hi.ok.tape,hi.ok.output,hi.ok.size,fun b hb hn=> ?_,fun b hb=> ?_⟩
    ·obtain⟨g1,g2⟩:=hi.ok.old b hb hn
     refine⟨g1,fun h=>g2.1 (ho.zz b h),fun h=>Classical.byContradiction fun hn2=> ?_⟩
     have hT:=ho.gone b (g2.2 h) hn2
     exact hn ((hi.own b hT).2.2 hb)
    ·have hT:=ho.part b (.inl hb)
     exact⟨ho.ownA b hb (hi.own b hT).1,(hi.own b hT).2.1,(hi.own b hT).2.2⟩
  cases e with
  |normal=>exact fin hk
  |exit id=>exact hk.elim
  |ret=>exact fin hk
def Γof:List (Nat×Nat×Sig)→FuncId→Nat→Option Sig
 |[],_,_=>none
 |(g,k,S)::l,f,j=>match Nat.beq g f,Nat.beq k j with
  |true,true=>some S
  |_,_=>Γof l f j
def TS(G:GInv)(P:Program):List (Nat×Nat×Sig)→Prop
 |[]=>True
 |(g,_,S)::l=>Eb G P g S∧TS G P l
theorem a8k{G:GInv}{P:Program}:∀ {l:List (Nat×Nat×Sig)},TS G P l→∀f k S,Γof l f k=some S→Eb G P f S
 |[],_,f,k,S,h=>by simp [Γof] at h
 |(g,j,S')::l,ha,f,k,S,h=>by
  unfold Γof at h
  split at h
  ·rename_i hb _
   simp only[AS] at h;subst h
   rw[←Cj hb];exact ha.1
  ·exact a8k ha.2 f k S h
def Lof:List (Nat×LS)→Nat→Option LS
 |[],_=>none
 |(g,S)::l,f=>match Nat.beq g f with
  |true=>some S
  |false=>Lof l f
def Eof:List (Nat×ES)→TypeId→Option ES
 |[],_=>none
 |(g,S)::l,f=>match Nat.beq g f with
  |true=>some S
  |false=>Eof l f
theorem a1O{b:Bool}{p q:Prop}(h1:b=true→p)(h2:b=false→q):Ae b p q:=by
 cases b
 ·exact h2 rfl
 ·exact h1 rfl
abbrev AV.q (n:Int):AV:= .int .i64 n
abbrev Aq:Int:=IntKind.max IntKind.i64
mutual
def AF:AV→AV→Prop→Prop
 | .int _ n,a,R=>match a with
   | .int _ m=>m=n∧R
   |_=>False
 | .bool b,a,R=>match a with
   | .bool c=>c=b∧R
   |_=>False
 | .str l,a,R=>match a with
   | .str m=>m=l∧R
   |_=>False
 | .val v,a,R=>match a with
   | .val u=>u=v∧R
   |_=>False
 | .nil,_,R=>R
 | .any,_,R=>R
 | .top,_,R=>R
 | .agg es,a,R=>match a with
   | .agg azs=>AB es azs R
   |_=>False
 | .tup es,a,R=>match a with
   | .tup azs=>AB es azs R
   |_=>False
 | .clo _ es,a,R=>match a with
   | .clo _ azs=>AB es azs R
   |_=>False
 | .pf c,a,R=>match a with
   | .pf c'=>AV.pf c'=AV.pf c∧R
   | .box _ c'=>AV.pf (fzL c')=AV.pf c∧R
   |_=>False
 | .box _ c,a,R=>match a with
   | .box _ c'=>AB c c' R
   |_=>False
 | .bv y c,a,R=>match a with
   | .bv x c'=>x=y∧AB c c' R
   |_=>False
 | .sl true _ sz α f xs,a,R=>match a with
   | .nil=>xs=[]∧R
   | .sl true _ sz' α' f' xs'=>AV.sl true 0 sz' α' f' xs'=AV.sl true 0 sz α f xs∧R
   |_=>False
 | .sl false _ sz α f xs,a,R=>match a with
   | .nil=>xs=[]∧R
   | .sl false _ sz' α' f' xs'=>AV.sl false 0 sz' α' f' xs'=AV.sl false 0 sz α f xs∧R
   | .sl true _ sz' α' f' xs'=>AV.sl false 0 sz' α' (fun x=>fzL (f' x)) xs'=AV.sl false 0 sz α f xs∧R
   |_=>False
 | .hole _,_,_=>False
 | .hv _,_,_=>False
 | .al _,_,_=>False
 | .po _ _ _ _,_,_=>False
def AB:List AV→List AV→Prop→Prop
 |[],azs,R=>R
 |e::es,azs,R=>match azs with
  |[]=>False
  |a::azs=>AF e a (AB es azs R)
end
def mvH:AV→List AV→AV
 | .int k n,r=> .top
 | .bool b,r=> .top
 | .str l,r=> .top
 | .val v,r=> .top
 | .any,r=> .top
 | .top,r=> .top
 | .nil,r=> .top
 | .hole i,r=> .top
 | .al i,r=> .top
 | .po a b c d,r=> .top
 | .agg l,r=> .top
 | .tup l,r=> .top
 | .hv x,r=> .top
 | .pf c,r=> .top
 | .clo f l,r=> .top
 | .box i c,r=> .top
 | .bv x c,r=> .top
 | .sl false i sz α f xs,r=> .top
 | .sl true i sz α f xs,r=> .agg (.sl true i sz α f xs::r)
def mvG:List AV→AV
 |[]=> .top
 |a::r=>mvH a r
def lnH:AV→List AV→AV
 | .int k n,r=> .agg (.int k n::r)
 | .bool b,r=> .agg (.bool b::r)
 | .str l,r=> .agg (.str l::r)
 | .val v,r=> .agg (.val v::r)
 | .any,r=> .agg (.any::r)
 | .top,r=> .agg (.top::r)
 | .nil,r=> .agg (.nil::r)
 | .hole i,r=> .agg (.hole i::r)
 | .al i,r=> .agg (.al i::r)
 | .po a b c d,r=> .agg (.po a b c d::r)
 | .agg l,r=> .agg (.agg l::r)
 | .tup l,r=> .agg (.tup l::r)
 | .hv x,r=> .agg (.hv x::r)
 | .pf c,r=> .agg (.pf c::r)
 | .clo f l,r=> .agg (.clo f l::r)
 | .box i c,r=> .agg (.box i c::r)
 | .bv x c,r=> .agg (.bv x c::r)
 | .sl false i sz α f xs,r=> .agg (.sl false i sz α f xs::r)
 | .sl true i sz α f xs,r=> .top
def lnG:List AV→AV
 |[]=> .agg []
 |a::r=>lnH a r
def mvE:AV→AV
 | .int _ _=> .top
 | .bool _=> .top
 | .str _=> .top
 | .val _=> .top
 | .any=> .top
 | .top=> .top
 | .nil=> .top
 | .hole _=> .top
 | .al _=> .top
 | .po _ _ _ _=> .top
 | .agg l=>mvG l
 | .tup _=> .top
 | .hv _=> .top
 | .pf _=> .top
 | .clo _ _=> .top
 | .box i c=> .box i c
 | .bv x c=> .bv x c
 | .sl true i sz α f xs=> .sl true i sz α f xs
 | .sl false _ _ _ _ _=> .top
def lnE:AV→AV
 | .int k n=> .int k n
 | .bool b=> .bool b
 | .str l=> .str l
 | .val v=> .val v
 | .any=> .any
 | .top=> .top
 | .nil=> .nil
 | .hole i=> .hole i
 | .al i=> .al i
 | .po a b c d=> .po a b c d
 | .agg l=>lnG l
 | .tup l=> .tup l
 | .hv x=> .hv x
 | .pf c=> .pf c
 | .clo f l=> .clo f l
 | .box _ _=> .top
 | .bv _ _=> .top
 | .sl true _ _ _ _ _=> .top
 | .sl false i sz α f xs=> .sl false i sz α f xs
def mvL:List AV→List AV
 |[]=>[]
 |e::es=>mvE e::mvL es
def lnL:List AV→List AV
 |[]=>[]
 |e::es=>lnE e::lnL es
def Bn:List (Nat×AV)→List AV
 |[]=>[]
 |(_,e)::es=>e::Bn es
def cA(S:Sig)(azs:List AV)(K:S.X→S.Y→Prop):Prop:=
 ∃x:S.X,S.pre x∧AB (mvL (S.args x)) azs (AB (lnL (S.args x)) azs (∀y,S.post x y→K x y))
def eA(L:LS)(azs:List AV):Prop:=∃i,L.inv i∧AB (Bn (L.regs i)) azs True∧True
def eN(L:LS)(i:L.ι)(azs:List AV):Prop:=∃i',L.inv i'∧L.meas i'<L.meas i∧AB (Bn (L.regs i')) azs True∧True
def rA(S:Sig)(x:S.X)(azs:List AV):Prop:=∃y,S.post x y∧AB (S.res x y::S.outs x y) azs True
theorem a8l(l:List (Nat×Nat×Sig))(e:List (Nat×ES))(ov:Bool)(L:S.X→List (Nat×LS))
 (hfn:P.funcs[f]? =some fn) (hbody:fn.body=some (fn.body.getD .skip)) (hname:(fn.name== "runtime.NumGoroutine")=false)
 (ha:TS G P l) (Q:S.X→Prop) (hq:∀x,Ri P (Γof l) (Eof e) ov (Lof (L x)) fn.ntmps fn.results.toList (fn.body.getD .skip) S x=Q x) (h:∀x,S.pre x→Q x):Eb G P f S:=
 b7w (Γ:=Γof l) (E:=Eof e) (ov:=ov) (L:=fun x=>Lof (L x)) hfn hbody hname (a8k ha) fun x hx=>(hq x).mpr (h x hx)
theorem vFq(l:List (Nat×Nat×Sig))(e:List (Nat×ES))(L:S.X→List (Nat×LS))(hfn:P.funcs[f]? =some fn)(ha:TS G P l)(Q:S.X→Prop)
 (hq:(fn.body,(fn.name== "runtime.NumGoroutine"),fun x=>Ri P (Γof l) (Eof e) false (Lof (L x)) fn.ntmps fn.results.toList (fn.body.getD .skip) S x)=(some (fn.body.getD .skip),false,Q)) (h:∀x,S.pre x→Q x):Eb G P f S:=by
 simp only[BM] at hq
 exact a8l l e false L hfn hq.1 hq.2.1 ha Q (fun x=>congrFun hq.2.2 x) h
theorem vFqt(l:List (Nat×Nat×Sig))(e:List (Nat×ES))(L:S.X→List (Nat×LS))(hfn:P.funcs[f]? =some fn)(ha:TS G P l)(Q:S.X→Prop)
 (hq:(fn.body,(fn.name== "runtime.NumGoroutine"),fun x=>Ri P (Γof l) (Eof e) true (Lof (L x)) fn.ntmps fn.results.toList (fn.body.getD .skip) S x)=(some (fn.body.getD .skip),false,Q)) (h:∀x,S.pre x→Q x):Eb G P f S:=by
 simp only[BM] at hq
 exact a8l l e true L hfn hq.1 hq.2.1 ha Q (fun x=>congrFun hq.2.2 x) h
end Go.Eng
end
section
namespace Go.My
open Go.Eng
variable {n:Nat}
structure Nd where
 kind:Int
 text:Aa
 kids:Ad
 blank:Bool
def BE:Int→List AV:=fun n=>[.int .i64 n]
def Bo:Aa→List AV:=fun s=>[.str s]
def Al(l:Ad):AV:= .sl false 0 1 Int BE l
def An(l:Ad):AV:= .sl true 0 1 Int BE l
def ndA(o:Bool):Nd→List AV:=fun x=>[.int .i64 x.kind,.str x.text,.sl o 0 1 Int BE x.kids,.bool x.blank]
theorem Ce(o:Bool)(x:Nd):ndA o x=[.int .i64 x.kind,.str x.text,.sl o 0 1 Int BE x.kids,.bool x.blank]:=rfl
def nds(l:List Nd):AV:= .sl false 0 4 Nd (ndA false) l
def BJ(l:List Nd):AV:= .sl true 0 4 Nd (ndA true) l
abbrev G4 {α0 α1 α2 α3 α4 α5:Type} (x:α0×α1×α2×α3×α4×α5):α4:=x.2.2.2.2.1
abbrev Z4 {α0 α1 α2 α3 α4:Type} (x:α0×α1×α2×α3×α4):α4:=x.2.2.2.2
abbrev G5 {α0 α1 α2 α3 α4 α5 α6:Type} (x:α0×α1×α2×α3×α4×α5×α6):α5:=x.2.2.2.2.2.1
abbrev Z5 {α0 α1 α2 α3 α4 α5:Type} (x:α0×α1×α2×α3×α4×α5):α5:=x.2.2.2.2.2
abbrev G6 {α0 α1 α2 α3 α4 α5 α6 α7:Type} (x:α0×α1×α2×α3×α4×α5×α6×α7):α6:=x.2.2.2.2.2.2.1
abbrev Z6 {α0 α1 α2 α3 α4 α5 α6:Type} (x:α0×α1×α2×α3×α4×α5×α6):α6:=x.2.2.2.2.2.2
abbrev G7 {α0 α1 α2 α3 α4 α5 α6 α7 α8:Type} (x:α0×α1×α2×α3×α4×α5×α6×α7×α8):α7:=x.2.2.2.2.2.2.2.1
abbrev Z7 {α0 α1 α2 α3 α4 α5 α6 α7:Type} (x:α0×α1×α2×α3×α4×α5×α6×α7):α7:=x.2.2.2.2.2.2.2
abbrev G8 {α0 α1 α2 α3 α4 α5 α6 α7 α8 α9:Type} (x:α0×α1×α2×α3×α4×α5×α6×α7×α8×α9):α8:=x.2.2.2.2.2.2.2.2.1
abbrev Z9 {α0 α1 α2 α3 α4 α5 α6 α7 α8 α9:Type} (x:α0×α1×α2×α3×α4×α5×α6×α7×α8×α9):α9:=x.2.2.2.2.2.2.2.2.2
abbrev U3:Prop:=∀_:Unit,True→True∧True∧True
abbrev U4:Prop:=∀_:Unit,True→True∧True∧True∧True
abbrev U5:Prop:=∀_:Unit,True→True∧True∧True∧True∧True
theorem AJ{α:Type}{p q:α→Prop}(x:α)(h2:q x)(h1:p x):∃x,p x∧q x:=⟨x,h1,h2⟩
theorem AK{α β:Type}{p q:α×β→Prop}(a:α)(h:∃b,p (a,b)∧q (a,b)):∃x,p x∧q x:=let⟨b,hb⟩:=h;⟨(a,b),hb⟩
theorem AL{o:Bool}{id sz:Nat}{α:Type}{f:α→List AV}{l l':List α}(h:l=l'):AV.sl o id sz α f l=AV.sl o id sz α f l':=by rw[h]
theorem b7x{p:Prop}[Decidable p]{P Q:Prop}(h1:p→P)(h2:¬p→Q):Ae (decide p) P Q:=
 a1O (fun h=>h1 (of_decide_eq_true h)) (fun h=>h2 (of_decide_eq_false h))
theorem Ec{α:Type}{l:List α}{e:α}(h:l[n]? =some e):∃h:n<l.length,l[n]=e:=DT.1 h
theorem Bq{α:Type}{l:List α}{e:α}(h:l[n]? =some e):e∈l:=Iv h
theorem GI{α:Type}{l:List α}{e:α}(h:l[n]? =some e):l.drop n=e::l.drop (n+1):=by
 obtain⟨h1,h2⟩:=Ec h
 rw[←h2];exact Gh h1
theorem FS{α:Type}{l:List α}{e:α}(h:l[n]? =some e):l.take (n+1)=l.take n++[e]:=by
 rw[List.take_add_one,h];rfl
theorem b7y{α:Type}[BEq α][LawfulBEq α]{a b:α}{P Q:Prop}(h1:a=b→P)(h2:a≠b→Q):Ae (a==b) P Q:=
 a1O (fun h=>h1 (by simpa using h)) (fun h=>h2 (by simpa using h))
class Bc (b:Bool) (p q:outParam Prop):Prop where
 one:b=true→p
 two:b=false→q
instance (priority:=low) {b:Bool}:Bc b (b=true) (b=false):=⟨id,id⟩
instance {p:Prop} [Decidable p]:Bc (decide p) p (¬p):=⟨of_decide_eq_true,of_decide_eq_false⟩
instance {α:Type} [BEq α] [LawfulBEq α] {a b:α}:Bc (a != b) (a≠b) (a=b):=⟨fun h=>by simpa using h,fun h=>by simpa using h⟩
instance {α:Type} [BEq α] [LawfulBEq α] {a b:α}:Bc (a==b) (a=b) (a≠b):=⟨fun h=>by simpa using h,fun h=>by simpa using h⟩
instance {b:Bool}:Bc (!b) (b=false) (b=true):=⟨fun h=>by simpa using h,fun h=>by simpa using h⟩
theorem b7z{b:Bool}{p q P Q:Prop}[h:Bc b p q](h1:p→P)(h2:q→Q):Ae b P Q:=
 a1O (fun e=>h1 (h.one e)) (fun e=>h2 (h.two e))
theorem b7A{n:Int}(h1: -9223372036854775808≤n)(h2:n≤9223372036854775807):inR .i64 n:=by
 unfold inR;simp [IntKind.min,IntKind.max,IntKind.bits,IntKind.signed];omega
class Stp (P:Prop) (Q:outParam Prop):Prop where
 one:Q→P
instance {n:Int}:Stp (inR .i64 n) (-9223372036854775808≤n∧n≤9223372036854775807):=⟨fun h=>b7A h.1 h.2⟩
instance {b:Bool} {p q P Q:Prop} [h:Bc b p q]:Stp (Ae b P Q) ((p→P)∧(q→Q)):=⟨fun h=>b7z h.1 h.2⟩
instance {p q:Unit→Prop}:Stp (∃x,p x∧q x) (q ()∧p ()):=⟨fun h=>⟨(),h.2,h.1⟩⟩
theorem AM{P Q:Prop}[h:Stp P Q](x:Q):P:=h.one x
abbrev CtG (G:GInv) (f:FuncId) (S:Sig):Prop:=Eb G Go.Proofs.Tryz.prog f S
abbrev nL {α:Type} (l:List α):Int:=l.length
theorem CW{i:Int}(h:0≤i):(i+1).toNat=i.toNat+1:=by omega
theorem Aw:IntKind.i64.max=9223372036854775807:=rfl
end Go.My
end
