/- A part of the proof: the engine and the contracts, joined. -/
import Derived.Test.YtjmoahjpdapjkaaGreatDoorQC
import Derived.Deep.Quiet
import Derived.Orders
import Derived.OrdersHeld
import Derived.Test.YtjmoahjpdapjkaaGreatDoorProg
import Derived.WalkKit
import Derived.Lib.Bytealg
import Derived.Laws.Externs
section
set_option linter.unusedVariables false
set_option linter.unusedSimpArgs false
namespace Go.Eng
def GE(js:List Nat):Option Nat→Bool
 |some d=> !(js.elem d)
 |none=>true
def Dt(js:List Nat)(a0 a:Act):Prop:=a.tmps.size=a0.tmps.size∧∀j,js.elem j=true→a.tmps[j]? =a0.tmps[j]?
theorem Dt.put{js:List Nat}{a0 a:Act}(h:Dt js a0 a){d:Option Nat}(hd:GE js d=true)(v:Value):Dt js a0 (a.put d v):=by
 refine⟨by cases d<;>simp [Act.put,h.1],?_⟩
 intro j hj
 cases d with
 |none=>exact h.2 j hj
 |some d=>
  simp only[GE,Bool.not_eq_true'] at hd
  have:d≠j:=fun e=>by rw[e,hj] at hd;cases hd
  simp only[Act.put]
  rw[Array.getElem?_setIfInBounds_ne this]
  exact h.2 j hj
def EP(want c:Bool)(p q:Prop):Prop:=match want,c with
 |true,true=>p
 |false,false=>p
 |_,_=>q
def Nf(P:Program)(Γ:FuncId→Nat→Option Sig)(ops:Array Oper)(o:Oper):List Nat→Bool
 |i1::i2::_=>match ops[i1]?,ops[i2]? with
  |some o1,some o2=>WM P Γ o o1 o2
  |_,_=>false
 |_=>false
def DF(P:Program)(Γ:FuncId→Nat→Option Sig)(E:TypeId→Option ES)(ov:Bool)(ops:Array Oper):List Nat→St→(St→Prop)→Prop
 |[],s,K=>K s
 |i::rest,s,K=>match ops[i]? with
  |none=>DF P Γ E ov ops rest s K
  |some o=>match o.guard with
   |none=>match Nf P Γ ops o rest with
    |true=>match rest with
     |i1::i2::rest'=>match ops[i1]?,ops[i2]? with
      |some o1,some o2=>Sw P Γ o o1 o2 s fun s'=>DF P Γ E ov ops rest' s' K
      |_,_=>False
     |_=>False
    |false=>Iu P Γ E ov o s fun s'=>DF P Γ E ov ops rest s' K
   |some (j,want)=>match(ops[j]?).bind (·.dst) with
    |none=>False
    |some d=>match s.regs[d]? with
     |some (.tup _)=>DF P Γ E ov ops rest ⟨setR s.regs o.dst (.tup []),s.nx⟩ K
     |some (.bool c)=>Aa c
       (EP want true (Iu P Γ E ov o ⟨s.regs.set d (.bool true),s.nx⟩ fun s'=>DF P Γ E ov ops rest s' K)
         (DF P Γ E ov ops rest ⟨setR (s.regs.set d (.bool true)) o.dst (.tup []),s.nx⟩ K))
       (EP want false (Iu P Γ E ov o ⟨s.regs.set d (.bool false),s.nx⟩ fun s'=>DF P Γ E ov ops rest s' K)
         (DF P Γ E ov ops rest ⟨setR (s.regs.set d (.bool false)) o.dst (.tup []),s.nx⟩ K))
     |_=>False
theorem WP(Z:FP)(η:Nat→Value)(w:World):Ab Z η w (.tup []) undef (fun _=>False):=by
 simp only[Ab,An];exact⟨[],rfl,rfl,AP⟩
theorem Rel.skip{C:Ctx}{s:St}{a:Act}{w:World}(h:Rel C s a w)(dst:Option Nat):Rel C ⟨setR s.regs dst (.tup []),s.nx⟩ (a.put dst undef) w:=by
 obtain⟨η,Z,T,hi⟩:=h
 exact hi.put dst (WP Z η w) trivial
theorem Rel.know{C:Ctx}{s:St}{a:Act}{w:World}(h:Rel C s a w){d:Nat}{c:Bool}(hd:s.regs[d]? =some (.bool c)):
 Rel C ⟨s.regs.set d (.bool c),s.nx⟩ a w∧a.tmps[d]? =some (.bool c):=by
 have e:s.regs.set d (.bool c)=s.regs:=by
  apply List.ext_getElem?
  intro i
  rw[List.getElem?_set]
  split
  ·rename_i h1;subst h1
   split
   ·exact hd.symm
   ·rename_i h2;simp at h2;rw[List.getElem?_eq_none h2] at hd;cases hd
  ·rfl
 obtain⟨η,Z,T,hi⟩:=h
 obtain⟨v,A,B,hv,hr,_⟩:=GZ s.regs _ T d _ hi.rel hd
 simp only[Ab,Am] at hr
 refine⟨by rw[e];exact⟨η,Z,T,hi⟩,?_⟩
 rw[←Array.getElem?_toList,hv,hr.1]
theorem LL{P:Program}{Γ:FuncId→Nat→Option Sig}{C:Ctx}(hΓ:∀f k S,Γ f k=some S→Aq C.G P f S){E:TypeId→Option ES}{ov:Bool}{ops:Array Oper}{js:List Nat}{a0:Act}
 (hjs:∀(i:Nat) (o:Oper),ops[i]? =some o→GE js o.dst=true) {Q:Exit→Act→World→Prop}:∀(l:List Nat) (s:St) (K:St→Prop) (a:Act) (w:World),DF P Γ E ov ops l s K→
 Rel C s a w→Dt js a0 a→(∀s' a' w',K s'→Rel C s' a' w'→Dt js a0 a'→Q .normal a' w')→wpOps P ops Q l a w
 |[],s,K,a,w,h,hr,hf,hQ=>hQ s a w h hr hf
 |i::rest,s,K,a,w,h,hr,hf,hQ=>by
  unfold DF at h
  unfold wpOps
  split at h
  ·rename_i ho
   simp only[ho]
   exact LL hΓ hjs rest s K a w h hr hf hQ
  ·rename_i o ho
   simp only[ho]
   have hav:=hjs i o ho
   have run:∀(s1:St),Rel C s1 a w→Iu P Γ E ov o s1 (fun s'=>DF P Γ E ov ops rest s' K)→o.wp P a w (wpOps P ops Q rest) Q:=by
    intro s1 hr1 h1
    have:=WG hΓ h1 hr1 Q
    refine Oper_wp_mono this ?_
    rintro a' w' ⟨s',hk,hr',v,rfl⟩
    exact LL hΓ hjs rest s' K _ w' hk hr' (hf.put hav v) hQ
   have skip:∀(s1:St),Rel C s1 a w→DF P Γ E ov ops rest ⟨setR s1.regs o.dst (.tup []),s1.nx⟩ K→wpOps P ops Q rest (a.put o.dst undef) w:=by
    intro s1 hr1 h1
    exact LL hΓ hjs rest _ K _ w h1 (hr1.skip o.dst) (hf.put hav undef) hQ
   split at h
   ·rename_i hg
    have hw:Region.wanted o (yielded ops a.tmps)=true:=by simp [Region.wanted,hg]
    rw[if_pos hw]
    split at h
    ·rename_i hn
     split at h
     ·rename_i i1 i2 rest'
      split at h
      ·rename_i o1 o2 ho1 ho2
       have hg12:o1.guard=none∧o2.guard=none:=by
        simp only[Nf,ho1,ho2,WM] at hn
        split at hn
        ·rename_i h1 h2 h3;exact⟨h2,h3⟩
        ·cases hn
       obtain⟨v,v1,e1,e2,e3⟩:=a4e hΓ h hr Q
       refine .inl ?_
       unfold Oper.wp
       rw[e1,Oper.upon_value]
       unfold wpOps
       simp only[ho1]
       have hw1:∀t,Region.wanted o1 (yielded ops t)=true:=fun t=>by simp [Region.wanted,hg12.1]
       rw[if_pos (hw1 _)]
       refine .inl ?_
       unfold Oper.wp
       rw[e2,Oper.upon_value]
       unfold wpOps
       simp only[ho2]
       have hw2:∀t,Region.wanted o2 (yielded ops t)=true:=fun t=>by simp [Region.wanted,hg12.2]
       rw[if_pos (hw2 _)]
       refine .inl ?_
       refine Oper_wp_mono e3 ?_
       rintro a' w' ⟨s',hk,hr',v2,rfl⟩
       exact LL hΓ hjs rest' s' K _ w' hk hr' (((hf.put hav v).put (hjs i1 o1 ho1) v1).put (hjs i2 o2 ho2) v2) hQ
      ·exact h.elim
     ·exact h.elim
    ·exact .inl (run s hr h)
   ·rename_i j want hg
    split at h
    ·exact h.elim
    ·rename_i d hd
     have hy:yielded ops a.tmps j=(match a.tmps[d]? with|some (.bool b)=>some b|_=>none):=by
      simp only[yielded,hd];rfl
     split at h
     ·rename_i fs hreg
      have hnone:yielded ops a.tmps j=none:=by
       obtain⟨η,Z,T,hi⟩:=hr
       obtain⟨v,A,B,hv,hrr,_⟩:=GZ s.regs _ T d _ hi.rel hreg
       simp only[Ab] at hrr
       obtain⟨cs,e,_⟩:=hrr
       have:a.tmps[d]? =some v:=by rw[←Array.getElem?_toList,hv]
       rw[hy,this,e]
      have hw:¬Region.wanted o (yielded ops a.tmps)=true:=by simp [Region.wanted,hg,hnone]
      rw[if_neg hw]
      exact skip s hr h
     ·rename_i c hreg
      obtain⟨hr1,ht⟩:=hr.know hreg
      have hyc:yielded ops a.tmps j=some c:=by rw[hy,ht]
      have hw:Region.wanted o (yielded ops a.tmps)=(c==want):=by simp [Region.wanted,hg,hyc]
      rw[hw]
      unfold Aa at h
      cases c
      ·cases want
       ·simp only[EP] at h
        rw[if_pos (by rfl)];exact .inl (run _ hr1 h)
       ·simp only[EP] at h
        rw[if_neg (by decide)];exact skip _ hr1 h
      ·cases want
       ·simp only[EP] at h
        rw[if_neg (by decide)];exact skip _ hr1 h
       ·simp only[EP] at h
        rw[if_pos (by rfl)];exact .inl (run _ hr1 h)
     ·exact h.elim
where
 Oper_wp_mono {P:Program} {o:Oper} {a:Act} {w:World} {N N':Act→World→Prop} {Q:Exit→Act→World→Prop} (h:o.wp P a w N Q) (hn:∀a' w',N a' w'→N' a' w'):o.wp P a w N' Q:=by
  unfold Oper.wp Oper.upon at*
  split at h
  ·exact hn _ _ h
  ·exact hn _ _ h
  ·exact hn _ _ h
  ·refine h.mono ?_
   intro e w' he
   cases e with
   |returned v=>exact hn _ _ he
   |panicked c=>exact he
   |outgrown=>exact he
  ·exact h.mono fun v w' hh=>hn _ _ hh
  ·exact h
  ·exact h.elim
end Go.Eng
end
section
set_option linter.unusedVariables false
set_option linter.unusedSimpArgs false
namespace Go.Eng
structure Ext (w w':World):Prop where
 os:w'.os=w.os
 tape:w'.tape=w.tape
 output:w'.output=w.output
 sees:Sees w w'
theorem Rel.ext{C:Ctx}{s:St}{a:Act}{w w':World}(h:Rel C s a w)(he:Ext w w'):Rel C s a w':=by
 obtain⟨η,Z,T,hi⟩:=h
 refine⟨η,Z,T,hi.defers,?_,hi.ids,fun b hb=>⟨(hi.own b hb).1,Nat.lt_of_lt_of_le (hi.own b hb).2.1 he.sees.size,(hi.own b hb).2.2⟩,?_⟩
 ·exact CK (n:=s.nx) (fun b hz hb=>⟨hz,he.sees.old b hb⟩) (fun _ _=>rfl) _ _ _ hi.ids (fun b hb=>he.sees.old b (hi.own b hb).2.1) hi.rel
 ·refine⟨he.os.trans hi.ok.os,he.tape.trans hi.ok.tape,he.output.trans hi.ok.output,Nat.le_trans hi.ok.size he.sees.size,fun b hb hn=> ?_⟩
  obtain⟨g1,g2⟩:=hi.ok.old b hb hn
  exact⟨(he.sees.old b (Nat.lt_of_lt_of_le hb hi.ok.size)).trans g1,g2⟩
def LM(P:Program)(Γ:FuncId→Nat→Option Sig)(ov:Bool)(o:Oper)(s:St)(K:AV→Prop):Prop:=
 match o.op with
 | .call ⟨.value f,args,ts⟩=>match Be s.regs f with
   | .clo (.func g) caps=>match Γ g (ON (args.toList.map (Be s.regs)++caps)) with
     |some S=>match S.caps with
      |[]=>∃x:S.X,S.pre x∧DA true (S.args x) s.regs (args.toList.map (Be s.regs)++caps) fun _=>
       ∃y0,(∀y,S.post x y→S.res x y=S.res x y0)∧Nc (S.res x y0)=true∧K (S.res x y0)
      |_::_=>False
     |none=>False
   |_=>False
 |op=>DZ P ov s.regs op K
theorem a4f{P:Program}{Γ:FuncId→Nat→Option Sig}{C:Ctx}(hΓ:∀f k S,Γ f k=some S→Aq C.G P f S){ov:Bool}{o:Oper}{s:St}{K:AV→Prop}(h:LM P Γ ov o s K)
 {a:Act} {w:World} (hr:Rel C s a w) {N:Act→Prop} (hN:∀v r,K r→Rel C ⟨setR s.regs o.dst r,s.nx⟩ (a.put o.dst v) w→N (a.put o.dst v)):o.quiet P a (Ext w) N:=by
  obtain⟨η,Z,T,hi⟩:=hr
  have hop:=Er hi.rel
  have hid:=Gy hi.ids
  unfold LM at h
  split at h
  ·rename_i f args ts heq
   split at h
   ·rename_i g caps hf
    split at h
    ·rename_i S hS
     have hc:=hΓ g _ S hS
     have hcap0:S.caps=[]:=by
      cases hcc:S.caps with
      |nil=>rfl
      |cons c cs=>rw[hcc] at h;exact h.elim
     rw[hcap0] at h
     obtain⟨x,hpre,h⟩:=h
     have hfv:=hop f
     have hfi:=hid f
     rw[hf] at hfv hfi
     simp only[Ab] at hfv
     simp only[Aw] at hfi
     obtain⟨cs,hfe,hcs⟩:=hfv
     have hargs:=Jo _ _ _ _ _ _ _ (MU (a:=a) hi.rel args.toList) hcs (BV _)
     have happ:∀(l1 l2:List AV),AS s.nx l1→AS s.nx l2→AS s.nx (l1++l2):=by
      intro l1
      induction l1 with
      |nil=>intro l2 _ h2;simpa using h2
      |cons x l1 ih=>intro l2 h1 h2;exact⟨h1.1,ih l2 h1.2 h2⟩
     obtain⟨Z1,A1,B1,r1,ho⟩:=FC (S.args x) s.regs _ _ h Z a.tmps.toList _ T (fun _=>False) T hi.rel hi.ids hargs (happ _ _ (MV hi.ids args.toList) hfi) (BV T)
     obtain⟨y0,hy0,hsc,hk⟩:=ho.k
     have hA1:A1=fun _=>False:=Ep fun b hb=>ho.stay rfl b hb
     have hgot:=ho.got
     rw[hA1] at hgot
     obtain⟨⟨⟨fn,hfn,hnm,hbody⟩,_⟩,hcc⟩:=hc
     refine⟨scV (S.res x y0),fun w' hw'=> ?_,hN _ _ hk ?_⟩
     ·unfold Oper.quietAt
      have he:(execOp a.eval o).run P w'= .ok (.enter g (args.toList.map a.eval++cs).toArray) w':=by
       simp only[execOp,heq,resolve,hfe,Fz,Deferred.ofValue]
       rw[AQ (Cb P _ w')]
       simp only[invoke,callFunc,program]
       rw[AQ (x:=P) (w':=w') rfl]
       simp only[hfn,hnm,Bool.false_eq_true,if_false,hbody]
       simp only[Cb]
       congr 2
       apply Array.ext';simp
      rw[he]
      refine⟨rfl,?_⟩
      have hgot':=Dk (Z':=Z1) (w':=w') (fun b hz hb=>⟨hz,hw'.sees.old b hb⟩) _ _ _ (fun b hb=>hb.elim) hgot
      refine(hcc x hpre Z1 w' _ _ (C.G.mono _ _ _ _ (fun b hb hlt=>⟨fun x=>hb (ho.zz b x),hw'.sees.old b hlt⟩) hi.ok.glob) hgot' (fun b hb=>hb.elim) (by rw[hcap0];trivial)).mono ?_
      rintro e w'' ⟨y,v,Z',A',hpost,rfl,hres,haft⟩
      simp only[AX] at hres
      obtain⟨v',us',Ar,Ao,e1,hjr,hr1,hr3⟩:=hres
      simp only[List.cons.injEq] at e1
      obtain⟨rfl,rfl⟩:=e1
      rw[hy0 y hpost] at hr1
      refine⟨by rw[a4a hr1 hsc],haft.os.trans hw'.os,haft.tape.trans hw'.tape,haft.output.trans hw'.output,Nat.le_trans hw'.sees.size haft.size,fun b hb=> ?_⟩
      exact(haft.old b (Nat.lt_of_lt_of_le hb hw'.sees.size) id).1.trans (hw'.sees.old b hb)
     ·exact hi.put o.dst (WK hsc Z η w s.nx).1 (WK hsc Z η w s.nx).2
    ·exact h.elim
   ·exact h.elim
  ·obtain⟨v,r,h1,h2,h3,h4⟩:=RT h hi.rel hi.ids
   refine⟨v,fun w' hw'=> ?_,hN v r h4 (hi.put o.dst h2 h3)⟩
   unfold Oper.quietAt
   rw[h1 w' hw'.sees]
   exact⟨rfl,rfl⟩
def vcQ(P:Program)(Γ:FuncId→Nat→Option Sig)(ov:Bool)(ops:Array Oper):List Oper→St→(St→Prop)→Prop
 |[],s,K=>K s
 |o::rest,s,K=>match o.guard with
  |none=>LM P Γ ov o s fun r=>vcQ P Γ ov ops rest ⟨setR s.regs o.dst r,s.nx⟩ K
  |some (j,want)=>match(ops[j]?).bind (·.dst) with
   |none=>False
   |some d=>match s.regs[d]? with
    |some (.tup _)=>vcQ P Γ ov ops rest ⟨setR s.regs o.dst (.tup []),s.nx⟩ K
    |some (.bool c)=>Aa c
      (EP want true (LM P Γ ov o ⟨s.regs.set d (.bool true),s.nx⟩ fun r=>vcQ P Γ ov ops rest ⟨setR (s.regs.set d (.bool true)) o.dst r,s.nx⟩ K)
        (vcQ P Γ ov ops rest ⟨setR (s.regs.set d (.bool true)) o.dst (.tup []),s.nx⟩ K))
      (EP want false (LM P Γ ov o ⟨s.regs.set d (.bool false),s.nx⟩ fun r=>vcQ P Γ ov ops rest ⟨setR (s.regs.set d (.bool false)) o.dst r,s.nx⟩ K)
        (vcQ P Γ ov ops rest ⟨setR (s.regs.set d (.bool false)) o.dst (.tup []),s.nx⟩ K))
    |_=>False
theorem Sx{P:Program}{Γ:FuncId→Nat→Option Sig}{C:Ctx}(hΓ:∀f k S,Γ f k=some S→Aq C.G P f S){ov:Bool}{ops:Array Oper}{js:List Nat}{a0:Act}{w:World}:
 ∀(l:List Oper) (s:St) (K:St→Prop) (a:Act),(∀o∈l,GE js o.dst=true)→vcQ P Γ ov ops l s K→Rel C s a w→Dt js a0 a→
 wpQuiet P ops (Ext w) (fun a'=>∃s',K s'∧Rel C s' a' w∧Dt js a0 a') l a
 |[],s,K,a,hjs,h,hr,hf=>⟨s,h,hr,hf⟩
 |o::rest,s,K,a,hjs,h,hr,hf=>by
  unfold vcQ at h
  unfold wpQuiet
  have hav:=hjs o (by simp)
  have hjs':∀o∈rest,GE js o.dst=true:=fun o ho=>hjs o (by simp [ho])
  have run:∀(s1:St),Rel C s1 a w→LM P Γ ov o s1 (fun r=>vcQ P Γ ov ops rest ⟨setR s1.regs o.dst r,s1.nx⟩ K)→
   o.quiet P a (Ext w) (wpQuiet P ops (Ext w) (fun a'=>∃s',K s'∧Rel C s' a' w∧Dt js a0 a') rest):=by
   intro s1 hr1 h1
   exact a4f hΓ h1 hr1 fun v r hk hr'=>Sx hΓ rest _ K _ hjs' hk hr' (hf.put hav v)
  have skip:∀(s1:St),Rel C s1 a w→vcQ P Γ ov ops rest ⟨setR s1.regs o.dst (.tup []),s1.nx⟩ K→
   wpQuiet P ops (Ext w) (fun a'=>∃s',K s'∧Rel C s' a' w∧Dt js a0 a') rest (a.put o.dst undef):=by
   intro s1 hr1 h1
   exact Sx hΓ rest _ K _ hjs' h1 (hr1.skip o.dst) (hf.put hav undef)
  split at h
  ·rename_i hg
   have hw:Region.wanted o (yielded ops a.tmps)=true:=by simp [Region.wanted,hg]
   rw[if_pos hw]
   exact run s hr h
  ·rename_i j want hg
   split at h
   ·exact h.elim
   ·rename_i d hd
    have hy:yielded ops a.tmps j=(match a.tmps[d]? with|some (.bool b)=>some b|_=>none):=by
     simp only[yielded,hd];rfl
    split at h
    ·rename_i fs hreg
     have hnone:yielded ops a.tmps j=none:=by
      obtain⟨η,Z,T,hi⟩:=hr
      obtain⟨v,A,B,hv,hrr,_⟩:=GZ s.regs _ T d _ hi.rel hreg
      simp only[Ab] at hrr
      obtain⟨cs,e,_⟩:=hrr
      have:a.tmps[d]? =some v:=by rw[←Array.getElem?_toList,hv]
      rw[hy,this,e]
     have hw:¬Region.wanted o (yielded ops a.tmps)=true:=by simp [Region.wanted,hg,hnone]
     rw[if_neg hw]
     exact skip s hr h
    ·rename_i c hreg
     obtain⟨hr1,ht⟩:=hr.know hreg
     have hyc:yielded ops a.tmps j=some c:=by rw[hy,ht]
     have hw:Region.wanted o (yielded ops a.tmps)=(c==want):=by simp [Region.wanted,hg,hyc]
     rw[hw]
     unfold Aa at h
     cases c
     ·cases want
      ·simp only[EP] at h
       rw[if_pos (by rfl)];exact run _ hr1 h
      ·simp only[EP] at h
       rw[if_neg (by decide)];exact skip _ hr1 h
     ·cases want
      ·simp only[EP] at h
       rw[if_neg (by decide)];exact skip _ hr1 h
      ·simp only[EP] at h
       rw[if_pos (by rfl)];exact run _ hr1 h
    ·exact h.elim
theorem a4g{P:Program}{Γ:FuncId→Nat→Option Sig}{C:Ctx}(hΓ:∀f k S,Γ f k=some S→Aq C.G P f S){ov:Bool}{id:Nat}{ops:Array Oper}{js:List Nat}{a0:Act}{Q:Exit→Act→World→Prop}
 {s:St} {K:St→Prop} {a:Act} {w:World} (hm:P.follows .mixedOrders=true) (hB:Region.lexB .any ops=true) (h:vcQ P Γ ov ops ops.toList s K) (hjs:∀o∈ops.toList,GE js o.dst=true)
 (hr:Rel C s a w) (hf:Dt js a0 a) (hQ:∀s' a' w',K s'→Rel C s' a' w'→Dt js a0 a'→Q .normal a' w'):(Code.region id ops true).wp P Q a w:=by
 refine wp_region_quiet (C:=Ext w) hm hB ⟨rfl,rfl,rfl,Nat.le_refl _,fun _ _=>rfl⟩ ?_
 have:=Sx hΓ (a0:=a0) ops.toList s K a hjs h hr hf
 refine wpQuiet_mono' ?_ ops.toList a this
 rintro a' ⟨s',hk,hr',hf'⟩ w' hw'
 exact hQ s' a' w' hk (hr'.ext hw') hf'
where
 wpQuiet_mono' {P:Program} {ops:Array Oper} {C:World→Prop} {R R':Act→Prop} (h:∀a,R a→R' a):∀(l:List Oper) (a:Act),wpQuiet P ops C R l a→wpQuiet P ops C R' l a
  |[],a,hh=>h a hh
  |o::l,a,hh=>by
   unfold wpQuiet at hh ⊢
   split at hh
   ·rename_i hw;rw[if_pos hw];exact Oper.quiet_mono (wpQuiet_mono' h l) hh
   ·rename_i hw;rw[if_neg hw];exact wpQuiet_mono' h l _ hh
end Go.Eng
end
section
set_option linter.unusedVariables false
set_option linter.unusedSimpArgs false
namespace Go.Eng
theorem WQ{P:Program}{Γ:FuncId→Nat→Option Sig}{C:Ctx}(hΓ:∀f k S,Γ f k=some S→Aq C.G P f S){E:TypeId→Option ES}{ov:Bool}{ops:Array Oper}{js:List Nat}{a0:Act}
 (hjs:∀(i:Nat) (o:Oper),ops[i]? =some o→GE js o.dst=true) {Q:Exit→Act→World→Prop} {N:Act→World→Prop} (i:Nat) (s:St) (K:St→Prop) (a:Act) (w:World) (h:DF P Γ E ov ops [i] s K)
 (hr:Rel C s a w) (hf:Dt js a0 a) (hQ:∀s' a' w',K s'→Rel C s' a' w'→Dt js a0 a'→N a' w'):wpOp P ops Q i N a w:=by
 simp only[DF] at h
 unfold wpOp
 split at h
 ·rename_i ho
  simp only[ho]
  exact hQ s a w h hr hf
 ·rename_i o ho
  simp only[ho]
  have hav:=hjs i o ho
  have run:∀(s1:St),Rel C s1 a w→Iu P Γ E ov o s1 K→o.wp P a w N Q:=by
   intro s1 hr1 h1
   have:=WG hΓ h1 hr1 Q
   refine LL.Oper_wp_mono this ?_
   rintro a' w' ⟨s',hk,hr',v,rfl⟩
   exact hQ s' _ w' hk hr' (hf.put hav v)
  have skip:∀(s1:St),Rel C s1 a w→K ⟨setR s1.regs o.dst (.tup []),s1.nx⟩→N (a.put o.dst undef) w:=by
   intro s1 hr1 h1
   exact hQ _ _ w h1 (hr1.skip o.dst) (hf.put hav undef)
  split at h
  ·rename_i hg
   have hw:Region.wanted o (yielded ops a.tmps)=true:=by simp [Region.wanted,hg]
   rw[if_pos hw]
   simp only[Nf] at h
   exact .inl (run s hr h)
  ·rename_i j want hg
   split at h
   ·exact h.elim
   ·rename_i d hd
    have hy:yielded ops a.tmps j=(match a.tmps[d]? with|some (.bool b)=>some b|_=>none):=by
     simp only[yielded,hd];rfl
    split at h
    ·rename_i fs hreg
     have hnone:yielded ops a.tmps j=none:=by
      obtain⟨η,Z,T,hi⟩:=hr
      obtain⟨v,A,B,hv,hrr,_⟩:=GZ s.regs _ T d _ hi.rel hreg
      simp only[Ab] at hrr
      obtain⟨cs,e,_⟩:=hrr
      have:a.tmps[d]? =some v:=by rw[←Array.getElem?_toList,hv]
      rw[hy,this,e]
     have hw:¬Region.wanted o (yielded ops a.tmps)=true:=by simp [Region.wanted,hg,hnone]
     rw[if_neg hw]
     exact skip s hr h
    ·rename_i c hreg
     obtain⟨hr1,ht⟩:=hr.know hreg
     have hyc:yielded ops a.tmps j=some c:=by rw[hy,ht]
     have hw:Region.wanted o (yielded ops a.tmps)=(c==want):=by simp [Region.wanted,hg,hyc]
     rw[hw]
     unfold Aa at h
     cases c
     ·cases want
      ·simp only[EP] at h
       rw[if_pos (by rfl)];exact .inl (run _ hr1 h)
      ·simp only[EP] at h
       rw[if_neg (by decide)];exact skip _ hr1 h
     ·cases want
      ·simp only[EP] at h
       rw[if_neg (by decide)];exact skip _ hr1 h
      ·simp only[EP] at h
       rw[if_pos (by rfl)];exact .inl (run _ hr1 h)
    ·exact h.elim
def Sy:List Nat→(Nat→Prop)→Prop
 |[],_=>True
 |[i],p=>p i
 |i::l,p=>p i∧Sy l p
theorem WR{p:Nat→Prop}:∀ {l:List Nat},Sy l p→∀i∈l,p i
 |[],_,i,h=>by simp at h
 |[j],hp,i,h=>by simp at h;subst h;exact hp
 |j::k::l,hp,i,h=>by
  rcases List.mem_cons.1 h with rfl|h
  ·exact hp.1
  ·exact WR hp.2 i h
def Sz(regs:List AV)(ops:Array Oper)(listed:Array Bool)(i:Nat):Bool:=match ops[i]? with
 |some o=>match o.guard with
  |none=>match LD regs o.op with
   |true=>Region.free .any ops listed i
   |false=>false
  |some _=>false
 |none=>false
def OQ(regs:List AV)(ops:Array Oper)(listed:Array Bool):List Nat→Option Nat
 |[]=>none
 |i::l=>match Sz regs ops listed i with
  |true=>some i
  |false=>OQ regs ops listed l
theorem WS{regs:List AV}{ops:Array Oper}{listed:Array Bool}:∀ {l:List Nat} {i:Nat},OQ regs ops listed l=some i→i∈l∧Sz regs ops listed i=true
 |[],i,h=>by cases h
 |j::l,i,h=>by
  unfold OQ at h
  split at h
  ·rename_i hj;cases h;exact⟨by simp,hj⟩
  ·have:=WS h;exact⟨by simp [this.1],this.2⟩
def Kd(P:Program)(Γ:FuncId→Nat→Option Sig)(E:TypeId→Option ES)(ov:Bool)(ops:Array Oper):Nat→Array Bool→St→(St→Prop)→Prop
 |0,listed,s,K=>(Region.ready .any ops listed).isEmpty=true∧K s
 |fuel+1,listed,s,K=>match Region.ready .any ops listed with
  |[]=>K s
  |i::l=>match Region.noSelect ops,OQ s.regs ops listed (i::l) with
   |true,some j=>DF P Γ E ov ops [j] s fun s'=>Kd P Γ E ov ops fuel (listed.setIfInBounds j true) s' K
   |_,_=>Sy (i::l) fun i=>DF P Γ E ov ops [i] s fun s'=>Kd P Γ E ov ops fuel (listed.setIfInBounds i true) s' K
def Jp(R:Act→World→Prop):Exit→Act→World→Prop
 | .normal,a,w=>R a w
 |_,_,_=>False
theorem WT{P:Program}{ops:Array Oper}{Q:Exit→Act→World→Prop}{S S':World→Prop}(h:∀w,S w→S' w):∀(fuel:Nat) (listed:Array Bool) (a:Act) (w:World),
 wpAnyH P .any ops Q S fuel listed a w→wpAnyH P .any ops Q S' fuel listed a w
 |0,_,_,_,hh=>hh
 |fuel+1,listed,a,w,hh=>⟨hh.1,fun i hi=>wpOp_mono (fun a' w' h'=>⟨h w' h'.1,WT h fuel _ a' w' h'.2⟩) (hh.2 i hi)⟩
def Inst.here{C:Ctx}{s:St}{a:Act}{w:World}{η:Nat→Value}{Z T:FP}(hi:Inst C s a w η Z T):Ctx:=⟨w,Z,T,C.G,hi.ok.glob,fun b hb=>(hi.own b hb).1⟩
theorem Inst.at_here{C:Ctx}{s:St}{a:Act}{w:World}{η:Nat→Value}{Z T:FP}(hi:Inst C s a w η Z T):Inst hi.here s a w η Z T:=
 ⟨hi.defers,hi.rel,hi.ids,fun b hb=>⟨(hi.own b hb).1,(hi.own b hb).2.1,fun _=>hb⟩,⟨rfl,rfl,rfl,Nat.le_refl _,fun b _ _=>⟨rfl,Iff.rfl⟩⟩⟩
theorem Inst.from_here{C:Ctx}{s:St}{a:Act}{w:World}{η:Nat→Value}{Z T:FP}(hi:Inst C s a w η Z T){s':St}{a':Act}{w':World}{η':Nat→Value}{Z' T':FP}(h:Inst hi.here s' a' w' η' Z' T'):
 Inst C s' a' w' η' Z' T':=by
 refine⟨h.defers,h.rel,h.ids,fun b hb=> ?_,?_⟩
 ·obtain⟨h1,h2,h3⟩:=h.own b hb
  refine⟨h1,h2,fun hlt=> ?_⟩
  exact(hi.own b (h3 (Nat.lt_of_lt_of_le hlt hi.ok.size))).2.2 hlt
 ·refine⟨h.ok.os.trans hi.ok.os,h.ok.tape.trans hi.ok.tape,h.ok.output.trans hi.ok.output,Nat.le_trans hi.ok.size h.ok.size,fun b hlt hn=> ?_⟩
  obtain⟨g1,g2⟩:=hi.ok.old b hlt hn
  have hT:¬T b:=fun hb=>hn ((hi.own b hb).2.2 hlt)
  obtain⟨g3,g4⟩:=h.ok.old b (Nat.lt_of_lt_of_le hlt hi.ok.size) hT
  exact⟨g3.trans g1,g4.trans g2⟩
theorem Inst.agree{C:Ctx}{s:St}{a:Act}{w:World}{η:Nat→Value}{Z T:FP}(hi:Inst C s a w η Z T){s':St}{a':Act}{w':World}{η':Nat→Value}{Z' T':FP}(h:Inst hi.here s' a' w' η' Z' T'):
 Kb Z w w'∧∀b,¬Z b→b<w.heap.size→¬Z' b:=by
 have key:∀b,¬Z b→b<w.heap.size→w'.heap[b]? =w.heap[b]? ∧¬Z' b:=fun b hz hlt=>by
  obtain⟨g1,g2⟩:=h.ok.old b hlt (fun hb=>hz (hi.own b hb).1)
  exact⟨g1,fun x=>hz (g2.1 x)⟩
 exact⟨fun b hz hlt=>(key b hz hlt).1,fun b hz hlt=>(key b hz hlt).2⟩
theorem SA{P:Program}{Γ:FuncId→Nat→Option Sig}{C:Ctx}(hΓ:∀f k S,Γ f k=some S→Aq C.G P f S){E:TypeId→Option ES}{ov:Bool}{ops:Array Oper}{js:List Nat}{a0:Act}
 (hjs:∀(i:Nat) (o:Oper),ops[i]? =some o→GE js o.dst=true) {R:Act→World→Prop}:
 ∀(fuel:Nat) (listed:Array Bool) (s:St) (K:St→Prop) (a:Act) (w:World) (η:Nat→Value) (Z T:FP) (S:World→Prop),Kd P Γ E ov ops fuel listed s K→Inst C s a w η Z T→Dt js a0 a→
 (∀w',w.heap.size≤w'.heap.size→Kb Z w w'→S w')→(∀s' a' w',K s'→Rel C s' a' w'→Dt js a0 a'→R a' w')→wpAnyH P .any ops (Jp R) S fuel listed a w
 |0,listed,s,K,a,w,η,Z,T,S,h,hi,hf,hS,hQ=>by
  obtain⟨h1,h2⟩:=h
  exact⟨List.isEmpty_iff.1 h1,hQ s a w h2 ⟨η,Z,T,hi⟩ hf⟩
 |fuel+1,listed,s,K,a,w,η,Z,T,S,h,hi,hf,hS,hQ=>by
  unfold Kd at h
  split at h
  ·rename_i he
   unfold wpAnyH
   rw[he]
   exact⟨fun _=>hQ s a w h ⟨η,Z,T,hi⟩ hf,fun i hi=>(by cases hi)⟩
  ·rename_i i l he
   split at h
   ·rename_i j hns hj
    obtain⟨hm,hej⟩:=WS hj
    unfold Sz at hej
    split at hej
    rotate_left
    ·cases hej
    rename_i o ho
    split at hej
    rotate_left
    ·cases hej
    rename_i hg
    split at hej
    rotate_left
    ·cases hej
    rename_i hop
    have hav:=hjs j o ho
    simp only[DF,ho,hg,Nf] at h
    have hp:DZ P ov s.regs o.op (fun r=>Kd P Γ E ov ops fuel (listed.setIfInBounds j true) ⟨setR s.regs o.dst r,s.nx⟩ K):=by
     unfold Iu at h
     have hop0:=hop
     cases heq:o.op<;>simp only[heq,LD,Bool.false_eq_true] at hop
     case call c=>
      rw[heq] at hop0
      obtain⟨args,ts,rfl⟩:=Wh hop0
      simp only[heq] at h ⊢;exact h
     all_goals(simp only[heq] at h ⊢;exact h)
    obtain⟨v,r,h1,h2,h3,h4⟩:=a3v hop hp hi.rel hi.ids
    have hw:Region.wanted o (yielded ops a.tmps)=true:=by simp [Region.wanted,hg]
    obtain⟨η2,Z2,T2,hi2⟩:=hi.at_here.put o.dst h2 h3
    obtain⟨hag,hzz⟩:=hi.agree hi2
    have hsz:=hi2.ok.size
    refine WT (S:=fun w'=>S w'∧Kb Z w w') (fun w' h=>h.1) _ _ _ _ ?_
    refine wpAnyH_take ho hns hej (by rw[he];simpa using hm) (fun c a w h=>h) (.inl ⟨hw,fun w' hw'=>h1 w' hw'.2⟩) ⟨hS w (Nat.le_refl _) (fun _ _ _=>rfl),fun _ _ _=>rfl⟩ ?_
    refine SA hΓ hjs fuel _ _ K _ w η2 Z2 T2 _ h4 (hi.from_here hi2) (hf.put hav v) (fun w' hle hA=> ?_) hQ
    have hA':Kb Z w w':=fun b hz hlt=>hA b (hzz b hz hlt) hlt
    exact⟨hS w' hle hA',hA'⟩
   ·unfold wpAnyH
    rw[he]
    refine⟨fun h=>(by cases h),fun j hj=> ?_⟩
    refine WQ (C:=hi.here) hΓ hjs j s _ a w (WR h j hj) ⟨η,Z,T,hi.at_here⟩ hf fun s' a' w' hk hr' hf'=> ?_
    obtain⟨η2,Z2,T2,hi2⟩:=hr'
    obtain⟨hag,hzz⟩:=hi.agree hi2
    have hsz:w.heap.size≤w'.heap.size:=hi2.ok.size
    refine⟨hS w' hsz hag,SA hΓ hjs fuel _ s' K a' w' η2 Z2 T2 S hk (hi.from_here hi2) hf' (fun w2 hle hA=> ?_) hQ⟩
    exact hS w2 (Nat.le_trans hsz hle) fun b hz hlt=>(hA b (hzz b hz hlt) (Nat.lt_of_lt_of_le hlt hsz)).trans (hag b hz hlt)
theorem a4h{P:Program}{Γ:FuncId→Nat→Option Sig}{C:Ctx}(hΓ:∀f k S,Γ f k=some S→Aq C.G P f S){E:TypeId→Option ES}{ov:Bool}{id:Nat}{ops:Array Oper}{js:List Nat}{a0:Act}
 {Q:Exit→Act→World→Prop} {s:St} {K:St→Prop} {a:Act} {w:World} (hm:P.follows .mixedOrders=true) (h:Kd P Γ E ov ops ops.size (Array.replicate ops.size false) s K)
 (hjs:∀(i:Nat) (o:Oper),ops[i]? =some o→GE js o.dst=true)
 (hr:Rel C s a w) (hf:Dt js a0 a) (hQ:∀s' a' w',K s'→Rel C s' a' w'→Dt js a0 a'→Q .normal a' w'):(Code.region id ops true).wp P Q a w:=by
 refine wp_mono (Q:=Jp fun a w=>Q .normal a w) (wp_region_any hm ?_) (fun e a w h=> ?_)
 ·obtain⟨η,Z,T,hi⟩:=hr.ext (w':= {w with drawn:=w.drawn+1}) ⟨rfl,rfl,rfl,Nat.le_refl _,fun _ _=>rfl⟩
  exact wpAny_of_held _ _ _ _ (SA hΓ hjs _ _ s K a _ η Z T (fun _=>True) h hi hf (fun _ _ _=>trivial) hQ)
 ·cases e<;>simp only[Jp] at h<;>exact h
def SB(ops:Array Oper)(i:Nat):Bool:=match ops[i]? with
 |some o=>match o.guard with
  |none=>OD o.op
  |some _=>false
 |none=>false
def OT(ops:Array Oper)(oi:Oper):List Nat→Bool
 |[]=>true
 |j::l=>match ops[j]? with
  |some oj=>match oi.apart ops oj with
   |true=>OT ops oi l
   |false=>false
  |none=>false
def SC(ops:Array Oper)(i:Nat)(pre:List Nat):Bool:=match ops[i]? with
 |some oi=>OT ops oi pre
 |none=>false
def OU(ops:Array Oper):List Nat→List Nat→Option (List Nat×Nat×List Nat)
 |_,[]=>none
 |pre,i::rest=>match SB ops i,SC ops i pre with
  |true,true=>some (pre,i,rest)
  |_,_=>OU ops (pre++[i]) rest
def LN(P:Program)(Γ:FuncId→Nat→Option Sig)(E:TypeId→Option ES)(ov:Bool)(ops:Array Oper):Nat→List Nat→St→(St→Prop)→Prop
 |0,_,_,_=>False
 |_+1,[],s,K=>K s
 |n+1,j::rest,s,K=>match OU ops [j] rest with
  |some (pre,i,post)=>DF P Γ E ov ops [i] s fun s'=>LN P Γ E ov ops n (pre++post) s' K
  |none=>DF P Γ E ov ops [j] s fun s'=>LN P Γ E ov ops n rest s' K
theorem WU{ops:Array Oper}:∀ {l pre pre' post:List Nat} {i:Nat},OU ops pre l=some (pre',i,post)→SB ops i=true∧SC ops i pre'=true∧pre++l=pre'++i::post
 |[],pre,pre',post,i,h=>by cases h
 |j::l,pre,pre',post,i,h=>by
  unfold OU at h
  split at h
  ·rename_i h1 h2
   simp only[Option.some.injEq,Prod.mk.injEq] at h
   obtain⟨rfl,rfl,rfl⟩:=h
   exact⟨h1,h2,rfl⟩
  ·obtain⟨h1,h2,h3⟩:=WU h
   exact⟨h1,h2,by rw[←h3];simp⟩
theorem WV{P:Program}{ops:Array Oper}{R:Act→World→Prop}{i:Nat}{oi:Oper}{v:Value}(hi:ops[i]? =some oi)(hs:Region.noSelect ops=true){post:List Nat}:
 ∀ {pre:List Nat} {a:Act} {w:World},OT ops oi pre=true→Yields P ops oi v a→wpOps P ops (Jp R) (pre++post) (a.put oi.dst v) w→wpOps P ops (Jp R) (pre++i::post) a w
 |[],a,w,_,hy,h=>by
  rw[List.nil_append,wpOps_cons];exact hy.wpOp hi h
 |j::pre,a,w,hap,hy,h=>by
  unfold OT at hap
  split at hap
  rotate_left
  ·cases hap
  rename_i oj hj
  split at hap
  rotate_left
  ·cases hap
  rename_i hapj
  rw[List.cons_append,wpOps_cons] at h ⊢
  have:=wpOp_put hj hapj (fun cs b=>Region.noSelect_spec hs i oi cs b hi) (fun cs b=>Region.noSelect_spec hs j oj cs b hj) (fun c a w h=>h) hy h
  exact wpOp_mono (fun a' w' h'=>WV hi hs hap h'.1 h'.2) this
theorem SD{P:Program}{Γ:FuncId→Nat→Option Sig}{C:Ctx}(hΓ:∀f k S,Γ f k=some S→Aq C.G P f S){E:TypeId→Option ES}{ov:Bool}{ops:Array Oper}{js:List Nat}{a0:Act}
 (hs:Region.noSelect ops=true) (hjs:∀(i:Nat) (o:Oper),ops[i]? =some o→GE js o.dst=true) {R:Act→World→Prop}:
 ∀(n:Nat) (l:List Nat) (s:St) (K:St→Prop) (a:Act) (w:World),LN P Γ E ov ops n l s K→Rel C s a w→Dt js a0 a→
 (∀s' a' w',K s'→Rel C s' a' w'→Dt js a0 a'→R a' w')→wpOps P ops (Jp R) l a w
 |0,l,s,K,a,w,h,hr,hf,hQ=>h.elim
 |n+1,[],s,K,a,w,h,hr,hf,hQ=>hQ s a w h hr hf
 |n+1,j::rest,s,K,a,w,h,hr,hf,hQ=>by
  unfold LN at h
  split at h
  ·rename_i pre i post hfi
   obtain⟨h1,h2,h3⟩:=WU hfi
   have h3:j::rest=pre++i::post:=h3
   rw[h3]
   unfold SB at h1
   split at h1
   rotate_left
   ·cases h1
   rename_i o ho
   split at h1
   rotate_left
   ·cases h1
   rename_i hg
   unfold SC at h2
   rw[ho] at h2
   simp only[DF,ho,hg,Nf] at h
   obtain⟨η,Z,T,hi⟩:=hr
   have hp:DZ P ov s.regs o.op (fun r=>LN P Γ E ov ops n (pre++post) ⟨setR s.regs o.dst r,s.nx⟩ K):=by
    unfold Iu at h
    unfold OD at h1
    split at h1
    ·rename_i x heq
     simp only[heq] at h ⊢;exact h
    ·rename_i args ts heq
     simp only[heq] at h ⊢;exact h
    ·cases h1
   obtain⟨v,r,g1,g2,g3,g4⟩:=a3w h1 hp hi.rel hi.ids
   have hw:Region.wanted o (yielded ops a.tmps)=true:=by simp [Region.wanted,hg]
   exact WV ho hs h2 (.inl ⟨hw,g1⟩) (SD hΓ hs hjs n _ _ K _ w g4 (hi.put o.dst g2 g3) (hf.put (hjs i o ho) v) hQ)
  ·rw[wpOps_cons]
   exact WQ hΓ hjs j s _ a w h hr hf fun s' a' w' hk hr' hf'=>SD hΓ hs hjs n _ s' K a' w' hk hr' hf' hQ
end Go.Eng
end
section
set_option linter.unusedVariables false
set_option linter.unusedSimpArgs false
namespace Go.Eng
inductive Ex where
 |normal
 |exit (id:Nat)
 |ret
def Ex.to:Ex→Exit
 | .normal=> .normal
 | .exit id=> .exit id
 | .ret=> .ret
structure LS:Type 1 where
 ι:Type
 inv:ι→Prop
 regs:ι→List (Nat×AV)
 als:List (Nat×Nat)
 meas:ι→Nat
 sub:ι→List (Nat×LS):=fun _=>[]
 clos:List (Nat×Fn×Nat):=[]
def SE:List (Nat×LS)→(Nat→Option LS)→Nat→Option LS
 |[],L=>L
 |(g,S)::l,L=>fun f=>match Nat.beq g f with
  |true=>some S
  |false=>SE l L f
def Ng:List (Nat×AV)→List AV→(List AV→Prop)→Prop
 |[],regs,K=>K regs
 |(j,e)::rest,regs,K=>Dz false e regs (Be regs (.tmp j)) fun regs'=>Ng rest regs' K
def Nh(regs:List AV):List (Nat×Nat)→Prop
 |[]=>True
 |(s,j)::rest=>(match Be regs (.tmp s),Be regs (.tmp j) with
    | .al a,.al b=>match Nat.beq a b with
      |true=>True
      |false=>False
    |_,_=>False)∧Nh regs rest
def Ke:List AV→List Nat→List AV→List AV
 |regs,j::js,a::azs=>Ke (regs.set j a) js azs
 |regs,_,_=>regs
def Ni:List AV→List (Nat×Nat)→List AV
 |regs,[]=>regs
 |regs,(s,j)::rest=>Ni (regs.set s (Be regs (.tmp j))) rest
def OV:List (Nat×Fn×Nat)→List AV→List AV
 |[],regs=>regs
 |(p,fn,j)::l,regs=>OV l (match regs[j]? with
  |some (.box id _)=>regs.set p (.clo fn [.al id])
  |_=>regs)
def SF(caps:List (Nat×Fn×Nat))(s:St):St:=match caps with
 |[]=>s
 |c::cs=>⟨OV (c::cs) s.regs,s.nx⟩
def OW(regs:List AV):List (Nat×Fn×Nat)→Prop
 |[]=>True
 |(s,fn,j)::rest=>(match Be regs (.tmp s),Be regs (.tmp j) with
    | .clo fn' [.al a],.al b=>match MY fn' fn,Nat.beq a b with
      |true,true=>True
      |_,_=>False
    |_,_=>False)∧OW regs rest
def Kf(N:Nat)(L:LS)(i:L.ι):St:=
 ⟨Ni (Ke (List.replicate N .top) ((L.regs i).map (·.1)) (Cn 0 ((L.regs i).map (·.2))).1) L.als,(Cn 0 ((L.regs i).map (·.2))).2⟩
def Kg(N:Nat)(L:LS)(i:L.ι):St:=SF L.clos (Kf N L i)
def SG(s:St)(L:LS)(i:L.ι):Prop:=Ng (L.regs i) s.regs (fun _=>True)∧Nh s.regs L.als
def enter(s:St)(L:LS)(i:L.ι):Prop:=match L.clos with
 |[]=>Ng (L.regs i) s.regs (fun _=>True)∧Nh s.regs L.als
 |c::cs=>SG s L i∧OW s.regs (c::cs)
theorem a4i{s:St}{L:LS}{i:L.ι}(h:enter s L i):SG s L i∧OW s.regs L.clos:=by
 unfold enter at h
 cases hc:L.clos with
 |nil=>rw[hc] at h;exact⟨h,trivial⟩
 |cons c cs=>rw[hc] at h;exact h
theorem WW{η:Nat→Value}{w:World}{n:Nat}{a:Act}:∀(es:List (Nat×AV)) (regs:List AV) (K:List AV→Prop),Ng es regs K→
 ∀(Z B:FP),An Z η w regs a.tmps.toList B→AS n regs→(∀b,B b→Z b)→
 ∃Z' A',AX Z' w (es.map (·.2)) (es.map fun p=>a.eval (.tmp p.1)) A'∧(∀b,Z' b→Z b)∧(∀b,Z b→¬Z' b→B b)∧(∀b,A' b→B b)∧(∀b,A' b→Z' b)
 |[],regs,K,h,Z,B,hR,hI,hB=>⟨Z,fun _=>False,by simp [AX,emp],fun _ h=>h,fun _ h h'=>(h' h).elim,fun _ h=>h.elim,fun _ h=>h.elim⟩
 |(j,e)::es,regs,K,h,Z,B,hR,hI,hB=>by
  unfold Ng at h
  obtain⟨Z1,A1,B1,r1,ho⟩:=Wn e regs _ _ h Z a.tmps.toList (a.eval (.tmp j)) B (fun _=>False) B hR hI (Er hR (.tmp j)) (Gy hI (.tmp j)) (BV B)
  obtain⟨Z2,A2,k1,k2,k3,k4,k5⟩:=WW es r1 K ho.k Z1 B1 ho.rel ho.ids (fun b hb=>ho.ownB rfl b hb (hB b (ho.part b (.inr hb))))
  refine⟨Z2,fun b=>A1 b∨A2 b,?_,fun b hb=>ho.zz b (k2 b hb),?_,?_,?_⟩
  ·simp only[List.map_cons,AX]
   refine⟨_,_,A1,A2,rfl,⟨fun _=>Iff.rfl,fun b x y=>ho.dis b x (k4 b y)⟩,FA (GC k2) _ _ _ (fun _ _=>rfl) ho.got,k1⟩
  ·intro b hz hz2
   by_cases hz1:Z1 b
   ·exact ho.part b (.inr (k3 b hz1 hz2))
   ·exact ho.gone b hz hz1
  ·intro b hb
   exact hb.elim (fun hb=>ho.part b (.inl hb)) (fun hb=>ho.part b (.inr (k4 b hb)))
  ·intro b hb
   rcases hb with hb|hb
   ·have hz1:=ho.ownA b hb (hB b (ho.part b (.inl hb)))
    exact Classical.byContradiction fun hn=>ho.dis b hb (k3 b hz1 hn)
   ·exact k5 b hb
theorem SH{Z:FP}{η:Nat→Value}{w:World}{n:Nat}{a:Act}:∀(js:List Nat) (azs regs:List AV) (A B:FP),An Z η w regs a.tmps.toList B→AS n regs→js.length=azs.length→
 An Z η w azs (js.map fun j=>a.eval (.tmp j)) A→AS n azs→(∀b,A b→¬B b)→
 ∃S,(∀b,S b→A b∨B b)∧An Z η w (Ke regs js azs) a.tmps.toList S∧AS n (Ke regs js azs)
 |[],azs,regs,A,B,hr,hi,hl,ha,hai,hd=>⟨B,fun _ h=> .inr h,by simpa [Ke] using hr,by simpa [Ke] using hi⟩
 |j::js,[],regs,A,B,hr,hi,hl,ha,hai,hd=>by simp at hl
 |j::js,x::azs,regs,A,B,hr,hi,hl,ha,hai,hd=>by
  simp only[List.map_cons,An] at ha
  obtain⟨v,cs',A1,A2,e,hj,h1,h2⟩:=ha
  simp only[List.cons.injEq] at e
  obtain⟨rfl,rfl⟩:=e
  simp only[Ke]
  rcases Nat.lt_or_ge j regs.length with hlt|hge
  ·obtain⟨S1,hS1,hr1⟩:=Rs hr hlt h1 (fun b hb=>hd b ((hj.1 b).2 (.inl hb)))
   have hset:a.tmps.toList.set j (a.eval (.tmp j))=a.tmps.toList:=by
    have hlen:=EM _ _ _ hr
    have hj2:j<a.tmps.size:=by simp at hlen;omega
    apply List.ext_getElem?
    intro i
    rw[List.getElem?_set]
    split
    ·rename_i h1;subst h1
     simp [Act.eval,hj2,Array.getD_eq_getD_getElem?]
    ·rfl
   rw[hset] at hr1
   obtain⟨S,hS,g1,g2⟩:=SH js azs _ A2 S1 hr1 (Ip _ _ _ hi hai.1) (by simpa using hl) h2 hai.2 (fun b h h'=>(hS1 b h').elim (fun h'=>hd b ((hj.1 b).2 (.inr h)) h') (fun h'=>hj.2 b h' h))
   exact⟨S,fun b hb=>(hS b hb).elim (fun h=> .inl ((hj.1 b).2 (.inr h))) (fun h=>(hS1 b h).elim .inr (fun h=> .inl ((hj.1 b).2 (.inl h)))),g1,g2⟩
  ·rw[List.set_eq_of_length_le hge]
   obtain⟨S,hS,g1,g2⟩:=SH js azs regs A2 B hr hi (by simpa using hl) h2 hai.2 (fun b h h'=>hd b ((hj.1 b).2 (.inr h)) h')
   exact⟨S,fun b hb=>(hS b hb).elim (fun h=> .inl ((hj.1 b).2 (.inr h))) .inr,g1,g2⟩
theorem WX{Z:FP}{η:Nat→Value}{w:World}{n:Nat}{a:Act}:∀(als:List (Nat×Nat)) (regs:List AV) (B:FP),An Z η w regs a.tmps.toList B→AS n regs→
 (∀p∈als,a.eval (.tmp p.1)=a.eval (.tmp p.2))→∃S,(∀b,S b→B b)∧An Z η w (Ni regs als) a.tmps.toList S∧AS n (Ni regs als)
 |[],regs,B,hr,hi,h=>⟨B,fun _ h=>h,hr,hi⟩
 |(s,j)::als,regs,B,hr,hi,h=>by
  simp only[Ni]
  have hv:=Er hr (.tmp j)
  have he:=h (s,j) (by simp)
  simp only at he
  rw[←he] at hv
  obtain⟨S1,hS1,hr1⟩:=MJ hr s hv
  have hset:s<regs.length→a.tmps.toList.set s (a.eval (.tmp s))=a.tmps.toList:=by
   intro hlt
   have hlen:=EM _ _ _ hr
   have hj2:s<a.tmps.size:=by simp at hlen;omega
   apply List.ext_getElem?
   intro i
   rw[List.getElem?_set]
   split
   ·rename_i h1;subst h1
    simp [Act.eval,hj2,Array.getD_eq_getD_getElem?]
   ·rfl
  have hr2:An Z η w (regs.set s (Be regs (.tmp j))) a.tmps.toList S1:=by
   rcases Nat.lt_or_ge s regs.length with hlt|hge
   ·rw[hset hlt] at hr1;exact hr1
   ·rw[List.set_eq_of_length_le (l:=a.tmps.toList) (by rw[EM _ _ _ hr];exact hge)] at hr1;exact hr1
  obtain⟨S,hS,g1,g2⟩:=WX als _ S1 hr2 (Ip _ _ _ hi (Gy hi (.tmp j))) (fun p hp=>h p (by simp [hp]))
  exact⟨S,fun b hb=>hS1 b (hS b hb),g1,g2⟩
theorem WY{Z:FP}{η:Nat→Value}{w:World}{a:Act}{regs:List AV}{B:FP}(hr:An Z η w regs a.tmps.toList B):∀als:List (Nat×Nat),Nh regs als→
 ∀p∈als,a.eval (.tmp p.1)=a.eval (.tmp p.2)
 |[],_,p,hp=>by simp at hp
 |(s,j)::als,h,p,hp=>by
  simp only[Nh] at h
  rcases List.mem_cons.1 hp with rfl|hp
  ·have h1:=Er hr (.tmp s)
   have h2:=Er hr (.tmp j)
   have h:=h.1
   split at h
   ·rename_i x y hx hy
    split at h
    ·rename_i hb
     have hb:=Nat.eq_of_beq_eq_true hb
     rw[hx] at h1;rw[hy] at h2
     simp only[Ab] at h1 h2
     simp only
     rw[h1.1,h2.1,hb]
    ·exact h.elim
   ·exact h.elim
  ·exact WY hr als h.2 p hp
theorem WZ(Z:FP)(η:Nat→Value)(w:World):∀(l:List Value),An Z η w (List.replicate l.length .top) l (fun _=>False)
 |[]=>by simp [An,emp]
 |v::l=>by
  simp only[List.length_cons,List.replicate_succ,An]
  exact⟨v,l,_,_,rfl,BV _,AP,WZ Z η w l⟩
theorem Xa(n:Nat):∀N,AS n (List.replicate N .top)
 |0=>trivial
 |N+1=>⟨trivial,Xa n N⟩
theorem Xb{n:Nat}:∀(azs:List AV) (p:Nat) (a:AV),AS n azs→azs[p]? =some a→Aw n a
 |[],p,a,h,ha=>by simp at ha
 |x::azs,0,a,h,ha=>by simp at ha;subst ha;exact h.1
 |x::azs,p+1,a,h,ha=>by simp only[List.getElem?_cons_succ] at ha;exact Xb azs p a h.2 ha
theorem OX{C:Ctx}{a:Act}{w:World}{η:Nat→Value}{Z:FP}{n:Nat}:∀(caps:List (Nat×Fn×Nat)) (regs:List AV) (T:FP),Inst C ⟨regs,n⟩ a w η Z T→
 Jm caps a.tmps.toList→∃T',Inst C ⟨OV caps regs,n⟩ a w η Z T'
 |[],regs,T,h,_=>⟨T,h⟩
 |(p,fn,j)::l,regs,T,h,hc=>by
  obtain⟨⟨v,h1,h2⟩,h3⟩:=hc
  unfold OV
  split
  ·rename_i id c hj
   obtain⟨u,B,g1,g2⟩:=OE _ _ _ _ _ h.rel hj
   have hi:=Xb _ _ _ h.ids hj
   simp only[Ab] at g2
   obtain⟨hu,b,arr,ty,S1,hp,_⟩:=g2
   rw[h2] at g1
   have hvu:v=u:=Option.some.inj g1
   have hnew:Ab Z η w (.clo fn [.al id]) (Fz fn [v]) (fun _=>False):=by
    simp only[Ab,An]
    refine⟨[v],rfl,v,[],_,_,rfl,BV _,⟨hvu.trans hu,?_,AP⟩,rfl,AP⟩
    rw[hvu,hp];trivial
   obtain⟨S',hs,hr'⟩:=MJ h.rel p hnew
   have hset:a.tmps.toList.set p (Fz fn [v])=a.tmps.toList:=by
    apply List.ext_getElem?
    intro i
    rw[List.getElem?_set]
    split
    ·rename_i e;subst e;split
     ·exact h1.symm
     ·rename_i hlt;rw[List.getElem?_eq_none (by omega)]
    ·rfl
   rw[hset] at hr'
   exact OX l _ S' ⟨h.defers,hr',Ip _ _ _ h.ids (by simp only[Aw,AS];exact⟨hi.1,trivial⟩),fun b hb=>h.own b (hs b hb),h.ok⟩ h3
  ·exact OX l regs T h h3
theorem Xc{Z:FP}{η:Nat→Value}{w:World}{regs:List AV}{a:Act}{T:FP}(hR:An Z η w regs a.tmps.toList T):∀l,OW regs l→Jm l a.tmps.toList
 |[],_=>trivial
 |(s,fn,j)::l,h=>by
  obtain⟨h1,h2⟩:=h
  refine⟨?_,Xc hR l h2⟩
  have hs:=Er (a:=a) hR (.tmp s)
  have hj:=Er (a:=a) hR (.tmp j)
  split at h1
  ·rename_i fn' id id' e1 e2
   split at h1
   ·rename_i q1 q2
    have q1:=RW q1;have q2:=Nat.eq_of_beq_eq_true q2
    subst q1;subst q2
    rw[e1] at hs;rw[e2] at hj
    simp only[Ab,An] at hs hj
    obtain⟨cs,hsv,v',cs',A',B'',rfl,_,⟨rfl,_,_⟩,rfl,_⟩:=hs
    obtain⟨hjv,hjc,_⟩:=hj
    have get:∀(k:Nat) (v:Value),a.eval (.tmp k)=v→CV v→a.tmps.toList[k]? =some v:=by
     intro k v hv hc
     simp only[Act.eval,Array.getD_eq_getD_getElem?] at hv
     rw[Array.getElem?_toList]
     cases hx:a.tmps[k]? with
     |none=>rw[hx] at hv;simp only[Option.getD_none] at hv;subst hv;exact hc.elim
     |some u=>rw[hx] at hv;simp only[Option.getD_some] at hv;rw[hv]
    exact⟨_,get s _ hsv MH,get j _ hjv (by rw[←hjv];exact hjc)⟩
   ·exact h1.elim
  ·exact h1.elim
theorem a4j{C:Ctx}{s:St}{a:Act}{w:World}(h:Rel C s a w){L:LS}{i:L.ι}(he:SG s L i):Rel C (Kf a.tmps.size L i) a w:=by
 obtain⟨η,Z,T,hi⟩:=h
 obtain⟨Z',A',k1,k2,k3,k4,k5⟩:=WW (L.regs i) s.regs _ he.1 Z T hi.rel hi.ids (fun b hb=>(hi.own b hb).1)
 have hal:=WY hi.rel L.als he.2
 obtain⟨p1,p2,η1,p3,p4⟩:=HR ((L.regs i).map (·.2)) 0 _ A' η k1
 have hst:=p4 η1 (fun _ _=>rfl)
 have hst':=CK (n:=(Cn 0 ((L.regs i).map (·.2))).2) (Z':=fun c=>Z' c∨w.heap.size≤c) (w':=w) (η':=η1) (fun b hb hl=>⟨fun x=>x.elim hb (fun x=>by omega),rfl⟩) (fun _ _=>rfl) _ _ _ p2 (fun _ _=>rfl) hst
 have htop:=WZ (fun c=>Z' c∨w.heap.size≤c) η1 w a.tmps.toList
 obtain⟨S1,hS1,q1,q2⟩:=SH (a:=a) (n:=(Cn 0 ((L.regs i).map (·.2))).2) ((L.regs i).map (·.1)) _ _ A' (fun _=>False) htop (Xa _ _) (by
  have:∀(l:List AV) (n:Nat),(Cn n l).1.length=l.length:=by
   intro l
   induction l with
   |nil=>intro n;rfl
   |cons x l ih=>intro n;simp [Cn,ih]
  rw[this];simp) (by rw[List.map_map];exact hst') p2 (fun b _ h=>h)
 obtain⟨S2,hS2,r1,r2⟩:=WX L.als _ S1 q1 q2 hal
 have:=hi.next (A1:=fun _=>False) (Z1:=Z') k2 k3 (fun _ h=>h.elim) (w':=w) ⟨rfl,rfl,rfl,Nat.le_refl _,fun _ _ _=>rfl⟩ (regs':=(Kf a.tmps.size L i).regs) (n':=(Kf a.tmps.size L i).nx) (η':=η1) (S':=S2) (a':=a) rfl
  (by simpa [Kf] using r1) (by simpa [Kf] using r2) (fun b hb=>by
    have hA:A' b:=(hS1 b (hS2 b hb)).resolve_right (fun x=>x)
    exact⟨.inl (k5 b hA),.inl (k4 b hA),(hi.own b (k4 b hA)).2.1⟩)
 exact⟨η1,_,S2,this⟩
theorem SI{C:Ctx}{s:St}{a:Act}{w:World}(h:Rel C s a w){L:LS}{i:L.ι}(he:enter s L i):Rel C (Kg a.tmps.size L i) a w:=by
 obtain⟨he1,he2⟩:=a4i he
 have h0:=a4j h he1
 unfold Kg
 cases hc:L.clos with
 |nil=>exact h0
 |cons c cs=>
  rw[hc] at he2
  obtain⟨η,Z,T,hi⟩:=h
  have hcap:=Xc hi.rel _ he2
  obtain⟨η2,Z2,T2,hi2⟩:=h0
  obtain⟨T',h'⟩:=OX (c::cs) (Kf a.tmps.size L i).regs T2 hi2 hcap
  exact⟨η2,Z2,T',h'⟩
def Nj:Code→Nat
 | .region id _ _=>id
 | .seq x _=>Nj x
 | .block _ x=>Nj x
 | .loop x=>Nj x
 |_=>0
def EQ(js:List Nat):Code→Bool
 | .region _ ops _=>ops.toList.all fun o=>GE js o.dst
 | .seq x y=>EQ js x&&EQ js y
 | .cond _ x y=>EQ js x&&EQ js y
 | .block _ x=>EQ js x
 | .loop x=>EQ js x
 |_=>true
def Ff(P:Program)(Γ:FuncId→Nat→Option Sig)(E:TypeId→Option ES)(ov:Bool)(N:Nat)(L:Nat→Option LS):Code→St→(Ex→St→Prop)→Prop
 | .skip,s,K=>K .normal s
 | .label _,s,K=>K .normal s
 | .ret,s,K=>K .ret s
 | .exit id,s,K=>K (.exit id) s
 | .region id ops draw,s,K=>match draw with
   |false=>match L (300000+id) with
    |some _=>Region.noSelect ops=true∧LN P Γ E ov ops (ops.size+1) (List.range ops.size) s (K .normal)
    |none=>DF P Γ E ov ops (List.range ops.size) s (K .normal)
   |true=>match L (100000+id) with
    |some D=>P.follows .mixedOrders=true∧Kd P Γ E ov ops ops.size (Array.replicate ops.size false) s (fun s'=>∃i,D.inv i∧enter s' D i)∧∀i,D.inv i→K .normal (Kg N D i)
    |none=>P.follows .mixedOrders=true∧Region.lexB .any ops=true∧vcQ P Γ ov ops ops.toList s (K .normal)
 | .seq x y,s,K=>match L (200000+Nj y) with
   |some D=>(Ff P Γ E ov N L x s fun e s'=>match e with
    | .normal=>∃i,D.inv i∧enter s' D i
    | .exit i=>K (.exit i) s'
    | .ret=>K .ret s')∧∀i,D.inv i→Ff P Γ E ov N (SE (D.sub i) L) y (Kg N D i) K
   |none=>Ff P Γ E ov N L x s fun e s'=>match e with
    | .normal=>Ff P Γ E ov N L y s' K
    | .exit i=>K (.exit i) s'
    | .ret=>K .ret s'
 | .cond c x y,s,K=>match c with
   | .tmp d=>match s.regs[d]? with
     |some (.bool b)=>Aa b (Ff P Γ E ov N L x ⟨s.regs.set d (.bool true),s.nx⟩ K) (Ff P Γ E ov N L y ⟨s.regs.set d (.bool false),s.nx⟩ K)
     |_=>False
   |_=>False
 | .block id x,s,K=>Ff P Γ E ov N L x s fun e s'=>match e with
   | .normal=>K .normal s'
   | .exit i=>match Nat.beq i id with
     |true=>K .normal s'
     |false=>K (.exit i) s'
   | .ret=>K .ret s'
 | .loop x,s,K=>match L (Nj x) with
   |some S=>(∃i,S.inv i∧enter s S i)∧∀i,S.inv i→Ff P Γ E ov N (SE (S.sub i) L) x (Kg N S i) fun e s'=>match e with
    | .normal=>∃i',S.inv i'∧S.meas i'<S.meas i∧enter s' S i'
    | .exit k=>K (.exit k) s'
    | .ret=>K .ret s'
   |none=>False
 |_,_,_=>False
theorem Kh{p:Nat→Prop}(h:∃n,p n):∃n,p n∧∀m,p m→n≤m:=by
 obtain⟨n,hn⟩:=h
 induction n using Nat.strongRecOn with
 |_ n ih=>
  by_cases hm:∃m,m<n∧p m
  ·obtain⟨m,h1,h2⟩:=hm;exact ih m h1 h2
  ·exact⟨n,hn,fun m hp=>Nat.le_of_not_lt fun hl=>hm ⟨m,hl,hp⟩⟩
theorem Iv{P:Program}{Γ:FuncId→Nat→Option Sig}{C:Ctx}(hΓ:∀f k S,Γ f k=some S→Aq C.G P f S){E:TypeId→Option ES}{ov:Bool}{js:List Nat}{a0:Act}:
 ∀(c:Code) (L:Nat→Option LS) (s:St) (K:Ex→St→Prop) (Q:Exit→Act→World→Prop) (a:Act) (w:World),Ff P Γ E ov a0.tmps.size L c s K→EQ js c=true→Rel C s a w→Dt js a0 a→
 (∀e s' a' w',K e s'→Rel C s' a' w'→Dt js a0 a'→Q e.to a' w')→c.wp P Q a w
 | .skip,L,s,K,Q,a,w,h,hd,hr,hf,hQ=>wp_skip (hQ .normal s a w h hr hf)
 | .label _,L,s,K,Q,a,w,h,hd,hr,hf,hQ=>wp_label (hQ .normal s a w h hr hf)
 | .ret,L,s,K,Q,a,w,h,hd,hr,hf,hQ=>wp_ret (hQ .ret s a w h hr hf)
 | .exit id,L,s,K,Q,a,w,h,hd,hr,hf,hQ=>wp_exit (hQ (.exit id) s a w h hr hf)
 | .region id ops draw,L,s,K,Q,a,w,h,hd,hr,hf,hQ=>by
   simp only[Ff] at h
   cases draw
   ·simp only at h
    have hjs0:∀(i:Nat) (o:Oper),ops[i]? =some o→GE js o.dst=true:=by
     intro i o ho
     simp only[EQ] at hd
     have hmem:o∈ops.toList:=List.mem_of_getElem? (i:=i) (by simpa [Array.getElem?_toList] using ho)
     exact List.all_eq_true.1 hd o hmem
    split at h
    ·refine wp_mono (Q:=Jp fun a w=>Q .normal a w) (wp_region (SD hΓ (js:=js) (a0:=a0) h.1 hjs0 _ _ s _ a w h.2 hr hf fun s' a' w' hk hr' hf'=>hQ .normal s' a' w' hk hr' hf')) (fun e a w h=> ?_)
     cases e<;>simp only[Jp] at h<;>exact h
    refine wp_region (LL hΓ (js:=js) (a0:=a0) ?_ _ s _ a w h hr hf fun s' a' w' hk hr' hf'=>hQ .normal s' a' w' hk hr' hf')
    intro i o ho
    simp only[EQ] at hd
    have hmem:o∈ops.toList:=List.mem_of_getElem? (i:=i) (by simpa [Array.getElem?_toList] using ho)
    exact List.all_eq_true.1 hd o hmem
   ·simp only at h
    split at h
    ·rename_i D hD
     obtain⟨h1,h2,h3⟩:=h
     refine a4h hΓ (js:=js) (a0:=a0) h1 h2 ?_ hr hf fun s' a' w' hk hr' hf'=> ?_
     ·intro i o ho
      simp only[EQ] at hd
      have hmem:o∈ops.toList:=List.mem_of_getElem? (i:=i) (by simpa [Array.getElem?_toList] using ho)
      exact List.all_eq_true.1 hd o hmem
     ·obtain⟨i,hi,he⟩:=hk
      have hh:=SI hr' he
      rw[hf'.1] at hh
      exact hQ .normal _ a' w' (h3 i hi) hh hf'
    obtain⟨h1,h2,h3⟩:=h
    simp only[EQ] at hd
    exact a4g hΓ (js:=js) (a0:=a0) h1 h2 h3 (fun o ho=>List.all_eq_true.1 hd o ho) hr hf fun s' a' w' hk hr' hf'=>hQ .normal s' a' w' hk hr' hf'
 | .seq x y,L,s,K,Q,a,w,h,hd,hr,hf,hQ=>by
   simp only[Ff] at h
   simp only[EQ,Bool.and_eq_true] at hd
   split at h
   ·rename_i D hD
    obtain⟨h1,h2⟩:=h
    refine wp_seq (Iv hΓ x L s _ _ a w h1 hd.1 hr hf ?_)
    intro e s' a' w' hk hr' hf'
    cases e with
    |normal=>
     obtain⟨i,hi,he⟩:=hk
     have hh:=SI hr' he
     rw[hf'.1] at hh
     exact Iv hΓ y _ _ K Q a' w' (h2 i hi) hd.2 hh hf' hQ
    |exit i=>exact hQ (.exit i) s' a' w' hk hr' hf'
    |ret=>exact hQ .ret s' a' w' hk hr' hf'
   ·refine wp_seq (Iv hΓ x L s _ _ a w h hd.1 hr hf ?_)
    intro e s' a' w' hk hr' hf'
    cases e with
    |normal=>exact Iv hΓ y L s' K Q a' w' hk hd.2 hr' hf' hQ
    |exit i=>exact hQ (.exit i) s' a' w' hk hr' hf'
    |ret=>exact hQ .ret s' a' w' hk hr' hf'
 | .cond c x y,L,s,K,Q,a,w,h,hd,hr,hf,hQ=>by
   simp only[Ff] at h
   simp only[EQ,Bool.and_eq_true] at hd
   split at h
   ·rename_i d
    split at h
    ·rename_i b hb
     obtain⟨hr1,ht⟩:=hr.know hb
     have hc:a.eval (.tmp d)= .bool b:=by simp [Act.eval,Array.getD_eq_getD_getElem?,ht]
     unfold Aa at h
     cases b
     ·exact wp_cond_false hc (Iv hΓ y L _ K Q a w h hd.2 hr1 hf hQ)
     ·exact wp_cond_true hc (Iv hΓ x L _ K Q a w h hd.1 hr1 hf hQ)
    ·exact h.elim
   ·exact h.elim
 | .block id x,L,s,K,Q,a,w,h,hd,hr,hf,hQ=>by
   simp only[Ff] at h
   simp only[EQ] at hd
   refine wp_block (Iv hΓ x L s _ _ a w h hd hr hf ?_)
   intro e s' a' w' hk hr' hf'
   cases e with
   |normal=>exact hQ .normal s' a' w' hk hr' hf'
   |exit i=>
    simp only[Ex.to,Exit.inBlock]
    simp only at hk
    split at hk
    ·rename_i hb
     rw[if_pos (Nat.eq_of_beq_eq_true hb)]
     exact hQ .normal s' a' w' hk hr' hf'
    ·rename_i hb
     rw[if_neg (Nat.ne_of_beq_eq_false hb)]
     exact hQ (.exit i) s' a' w' hk hr' hf'
   |ret=>exact hQ .ret s' a' w' hk hr' hf'
 | .loop x,L,s,K,Q,a,w,h,hd,hr,hf,hQ=>by
   simp only[Ff] at h
   simp only[EQ] at hd
   split at h
   ·rename_i S hS
    obtain⟨⟨i0,hi0,he0⟩,hround⟩:=h
    let p:Act→World→Nat→Prop:=fun a w n=>∃i,S.inv i∧S.meas i=n∧Rel C (Kg a0.tmps.size S i) a w∧Dt js a0 a
    have hent:∀(s:St) (a:Act) (w:World) (i:S.ι),Rel C s a w→Dt js a0 a→enter s S i→Rel C (Kg a0.tmps.size S i) a w:=by
     intro s a w i hr hf he
     have:=SI hr he
     rwa [hf.1] at this
    refine wp_loop (fun a w=>∃n,p a w n) (fun a w=>open Classical in if h:∃n,p a w n then(Kh h).choose else 0) ⟨_,i0,hi0,rfl,hent s a w i0 hr hf he0,hf⟩ ?_
    intro a w hI
    have hμ:(open Classical in if h:∃n,p a w n then(Kh h).choose else 0)=(Kh hI).choose:=dif_pos hI
    obtain⟨⟨i,h1,h2,h3,h4⟩,hmin⟩:=(Kh hI).choose_spec
    refine Iv hΓ x _ _ _ _ a w (hround i h1) hd h3 h4 ?_
    intro e s' a' w' hk hr' hf'
    cases e with
    |normal=>
     obtain⟨i',g1,g2,g3⟩:=hk
     have hp':p a' w' (S.meas i'):=⟨i',g1,rfl,hent s' a' w' i' hr' hf' g3,hf'⟩
     refine⟨⟨_,hp'⟩,?_⟩
     have hμ':(open Classical in if h:∃n,p a' w' n then(Kh h).choose else 0)=(Kh ⟨_,hp'⟩).choose:=dif_pos ⟨_,hp'⟩
     have h5:=(Kh ⟨_,hp'⟩).choose_spec.2 _ hp'
     simp only[hμ,hμ']
     rw[h2] at g2
     exact Nat.lt_of_le_of_lt h5 g2
    |exit k=>exact hQ (.exit k) s' a' w' hk hr' hf'
    |ret=>exact hQ .ret s' a' w' hk hr' hf'
   ·exact h.elim
 | .rangeFunc _ _ _ _,L,s,K,Q,a,w,h,hd,hr,hf,hQ=>h.elim
 | .scope _,L,s,K,Q,a,w,h,hd,hr,hf,hQ=>h.elim
 | .goto _,L,s,K,Q,a,w,h,hd,hr,hf,hQ=>h.elim
 | .refuse _,L,s,K,Q,a,w,h,hd,hr,hf,hQ=>h.elim
end Go.Eng
end
section
set_option linter.unusedVariables false
set_option linter.unusedSimpArgs false
namespace Go.Eng
def a4k:AV→Bool
 | .box _ _=>true
 | .bv _ _=>true
 |_=>false
def SJ:List AV→Nat→List Nat
 |[],_=>[]
 |a::azs,j=>match a4k a with
  |true=>j::SJ azs (j+1)
  |false=>SJ azs (j+1)
def Jq(js:List Nat):Nat→List AV→Bool
 |_,[]=>true
 |j,o::os=>match o with
  | .top=>Jq js (j+1) os
  | .box _ _=>match js.elem j with
    |true=>Jq js (j+1) os
    |false=>false
  | .bv _ _=>match js.elem j with
    |true=>Jq js (j+1) os
    |false=>false
  | .sl true _ _ _ _ _=>match js.elem j with
    |true=>Jq js (j+1) os
    |false=>false
  |_=>false
def SK(S:Sig)(x:S.X):List Nat:=SJ (S.args x) 0++S.fixed
def Ki(P:Program)(regs:List AV):List ResultVar→(List AV→Prop)→Prop
 |[],K=>K []
 | .tmp t::rs,K=>Ki P regs rs fun azs=>K (Be regs (.tmp t)::azs)
 | .cell a t::rs,K=>MR P regs t (Be regs (.tmp a)) fun r=>Ki P regs rs fun azs=>K (r::azs)
def Jr:List AV→AV
 |[a]=>a
 |azs=> .tup azs
def Nk(N:Nat)(args:List AV):St:=⟨(Cn 0 args).1++List.replicate (N-args.length) (.tup []),(Cn 0 args).2⟩
def Xd(P:Program)(S:Sig)(x:S.X)(rs:List ResultVar)(n:Nat)(s:St):Prop:=
 Ki P s.regs rs fun azs=>∃y,S.post x y∧match Jq (SK S x) 0 (S.outs x y) with
  |true=>DA false (S.res x y::S.outs x y) s.regs (Jr azs::(List.range n).map fun j=>Be s.regs (.tmp j)) fun _=>True
  |false=>False
def a4l(P:Program)(S:Sig)(x:S.X)(rs:List ResultVar)(n:Nat):Ex→St→Prop
 | .exit _,_=>False
 |_,s=>Xd P S x rs n s
def OY(P:Program)(Γ:FuncId→Nat→Option Sig)(E:TypeId→Option ES)(ov:Bool)(L:Nat→Option LS)(N:Nat)(results:List ResultVar)(c:Code)(S:Sig)(x:S.X):Prop:=
 match Nat.ble (S.args x).length N,EQ (SK S x) c with
 |true,true=>RY S.keep (∀y,S.post x y→He (S.res x y::S.outs x y))∧Ff P Γ E ov N L c (SF S.caps (Nk N (S.args x))) (a4l P S x results (S.args x).length)
 |_,_=>False
theorem Xe{Z:FP}{w:World}{js:List Nat}:∀(j:Nat) (os:List AV) (vals us:List Value) (A:FP),Jq js j os=true→us.length=vals.length→
 (∀(i:Nat),i<vals.length→js.elem (j+i)=true→us[i]? =vals[i]?)→AX Z w os us A→AX Z w os vals A
 |j,[],vals,us,A,ho,hl,hf,h=>by
  simp only[AX] at h ⊢
  rw[h.1] at hl
  exact⟨List.length_eq_zero_iff.1 (by simpa using hl.symm),h.2⟩
 |j,o::os,vals,us,A,ho,hl,hf,h=>by
  simp only[AX] at h ⊢
  obtain⟨u,us',A1,A2,e,hj,h1,h2⟩:=h
  subst e
  cases vals with
  |nil=>simp at hl
  |cons v vals=>
   obtain⟨ho1,ho2⟩:(o= .top∨js.elem j=true)∧Jq js (j+1) os=true:=by
    unfold Jq at ho
    split at ho
    ·exact⟨.inl rfl,ho⟩
    ·split at ho
     ·rename_i hb;exact⟨.inr hb,ho⟩
     ·cases ho
    ·split at ho
     ·rename_i hb;exact⟨.inr hb,ho⟩
     ·cases ho
    ·split at ho
     ·rename_i hb;exact⟨.inr hb,ho⟩
     ·cases ho
    ·cases ho
   refine⟨v,vals,A1,A2,rfl,hj,?_,Xe (j+1) os vals us' A2 ho2 (by simpa using hl) (fun i h3 h4=>by
    have:=hf (i+1) (by simpa using h3) (by rw[show j+(i+1)=j+1+i from by omega];exact h4)
    simpa using this) h2⟩
   rcases ho1 with rfl|ho1
   ·simpa only[Am] using h1
   ·have:=hf 0 (by simp) (by simpa using ho1)
    simp at this
    rw[←this];exact h1
def Nl:List Value→Value
 |[v]=>v
 |vs=> .tuple vs.toArray
theorem a4m{P:Program}{t:TypeId}{x v:Value}{w:World}(h:(Instr.loadAt t x).run P w= .ok v w):(do loadVar t (←asAddr x):Sem Value).run P w= .ok v w:=by
 unfold Instr.loadAt at h
 cases x with
 |pointer a=>
  cases a with
  |none=>rw[EN] at h;cases h
  |some a=>rw[EN] at h ⊢;exact h
 |_=>rw[EN] at h;cases h
theorem SL{P:Program}{regs:List AV}{Z:FP}{η:Nat→Value}{w:World}{n:Nat}{a:Act}{T:FP}(hR:An Z η w regs a.tmps.toList T)(hI:AS n regs)
 {g:ResultVar→Sem Value} (g1:∀t,g (.tmp t)=pure (a.tmps.getD t undef)) (g2:∀b t,g (.cell b t)=(do loadVar t (←asAddr (a.tmps.getD b undef)))):
 ∀(rs:List ResultVar) (K:List AV→Prop),Ki P regs rs K→∃vs azs,(rs.mapM g).run P w= .ok vs w∧
  An Z η w azs vs (fun _=>False)∧AS n azs∧K azs
 |[],K,h=>⟨[],[],rfl,by simp [An,emp],trivial,h⟩
 | .tmp t::rs,K,h=>by
   simp only[Ki] at h
   obtain⟨vs,azs,h1,h2,h3,h4⟩:=SL hR hI g1 g2 rs _ h
   refine⟨a.tmps.getD t undef::vs,Be regs (.tmp t)::azs,?_,?_,⟨Gy hI (.tmp t),h3⟩,h4⟩
   ·rw[List.mapM_cons,g1,AQ (Cb P _ w),AQ h1];rfl
   ·simp only[An];exact⟨_,_,_,_,rfl,BV _,Er hR (.tmp t),h2⟩
 | .cell b t::rs,K,h=>by
   simp only[Ki] at h
   obtain⟨v,r,h1,h2,h3,h4⟩:=VX (n:=n) h hR hI (Er (a:=a) hR (.tmp b))
   obtain⟨vs,azs,k1,k2,k3,k4⟩:=SL hR hI g1 g2 rs _ h4
   refine⟨v::vs,r::azs,?_,?_,⟨h3,k3⟩,k4⟩
   ·have hl:(do loadVar t (←asAddr (a.tmps.getD b undef)):Sem Value).run P w= .ok v w:=a4m (h1 w (Sees.refl w))
    rw[List.mapM_cons,g2,AQ hl,AQ k1];rfl
   ·simp only[An];exact⟨_,_,_,_,rfl,BV _,h2,k2⟩
theorem a4n{P:Program}{fn:Func}{regs:List AV}{Z:FP}{η:Nat→Value}{w:World}{n:Nat}{a:Act}{T:FP}(hR:An Z η w regs a.tmps.toList T)(hI:AS n regs)
 {K:List AV→Prop} (h:Ki P regs fn.results.toList K):∃vs azs,(results fn a.tmps).run P w= .ok (Nl vs) w∧An Z η w azs vs (fun _=>False)∧AS n azs∧K azs:=by
 unfold results
 obtain⟨vs,azs,h1,h2⟩:=SL hR hI (g:=fun| .tmp t=>pure (a.tmps.getD t undef)| .cell b t=>do loadVar t (←asAddr (a.tmps.getD b undef))) (fun _=>rfl) (fun _ _=>rfl) fn.results.toList K h
 refine⟨vs,azs,?_,h2⟩
 rw[Array.mapM_eq_mapM_toList,map_eq_pure_bind]
 refine(AQ (x:=vs.toArray) (w':=w) ?_).trans ?_
 ·exact(AQ h1).trans rfl
 ·simp only[Cb]
  congr 1
  match vs with
  |[]=>rfl
  |[v]=>rfl
  |v::u::vs=>rfl
theorem Xf(Z:FP)(η:Nat→Value)(w:World):∀n,An Z η w (List.replicate n (.tup [])) (List.replicate n undef) (fun _=>False)
 |0=>by simp [An,emp]
 |n+1=>by
  simp only[List.replicate_succ,An]
  exact⟨undef,_,_,_,rfl,BV _,WP Z η w,Xf Z η w n⟩
theorem Xg(n:Nat):∀N,AS n (List.replicate N (.tup []))
 |0=>trivial
 |N+1=>⟨trivial,Xg n N⟩
theorem Xh{n:Nat}:∀(l1 l2:List AV),AS n l1→AS n l2→AS n (l1++l2)
 |[],l2,_,h2=>by simpa using h2
 |x::l1,l2,h1,h2=>⟨h1.1,Xh l1 l2 h1.2 h2⟩
theorem Xi{vs us:List Value}(e:∃r,us=vs++r):∀ {l:List (Nat×Fn×Nat)},Jm l vs→Jm l us
 |[],_=>trivial
 |(p,fn,j)::l,h=>by
  obtain⟨r,rfl⟩:=e
  obtain⟨⟨v,h1,h2⟩,h3⟩:=h
  refine⟨⟨v,?_,?_⟩,Xi ⟨r,rfl⟩ h3⟩
  ·rw[List.getElem?_append_left ((List.getElem?_eq_some_iff.1 h1).1)];exact h1
  ·rw[List.getElem?_append_left ((List.getElem?_eq_some_iff.1 h2).1)];exact h2
theorem a4o{G:GInv}{P:Program}{Γ:FuncId→Nat→Option Sig}{E:TypeId→Option ES}{ov:Bool}{f:FuncId}{fn:Func}{c:Code}{S:Sig}{L:S.X→Nat→Option LS}
 (hfn:P.funcs[f]? =some fn) (hbody:fn.body=some c) (hname:(fn.name== "runtime.NumGoroutine")=false)
 (hΓ:∀f k S,Γ f k=some S→Aq G P f S) (h:∀x,S.pre x→OY P Γ E ov (L x) fn.ntmps fn.results.toList c S x):Aq G P f S:=by
 refine⟨⟨⟨fn,hfn,hname,by simp [hbody]⟩,fun x y hx hy=> ?_⟩,?_⟩
 ·have h:=h x hx
  unfold OY at h
  split at h
  ·have h:=h.1
   unfold RY at h ⊢
   split
   ·trivial
   ·rename_i hk;rw[hk] at h;exact h y hy
  ·exact h.elim
 intro x hpre Z w vals A hG hargs hA hcaps
 have h:=h x hpre
 unfold OY at h
 split at h
 rotate_left
 ·exact h.elim
 ·rename_i hN hd
  have hvc:=h.2
  have hN:=Nat.le_of_ble_eq_true hN
  have hvl:vals.length=(S.args x).length:=WC _ _ _ hargs
  refine calls_of_wp hfn hbody ?_
  let a0:Act:= {tmps:=vals.toArray++Array.replicate (fn.ntmps-vals.toArray.size) undef,defers:=[]}
  have hsz:a0.tmps.size=fn.ntmps:=by simp [a0];omega
  obtain⟨p1,p2,η1,p3,p4⟩:=HR (S.args x) 0 vals A (fun _=>undef) hargs
  have hst:=p4 η1 (fun _ _=>rfl)
  let C:Ctx:=⟨w,Z,A,G,hG,fun b hb=>(hA b hb).1⟩
  have hinit:Rel C (Nk fn.ntmps (S.args x)) a0 w:=by
   refine⟨η1,Z,A,⟨rfl,?_,Xh _ _ p2 (Xg _ _),fun b hb=>⟨(hA b hb).1,(hA b hb).2,fun _=>hb⟩,⟨rfl,rfl,rfl,Nat.le_refl _,fun b _ _=>⟨rfl,Iff.rfl⟩⟩⟩⟩
   have:=Jo _ _ _ _ _ _ A hst (Xf Z η1 w (fn.ntmps-(S.args x).length)) (HK A)
   simpa [Nk,a0,hvl] using this
  have hinit2:Rel C (SF S.caps (Nk fn.ntmps (S.args x))) a0 w:=by
   cases hcc:S.caps with
   |nil=>exact hinit
   |cons c cs=>
    obtain⟨η,Z1,T,hi⟩:=hinit
    obtain⟨T',h'⟩:=OX (c::cs) (Nk fn.ntmps (S.args x)).regs T hi (by
     rw[←hcc]
     exact Xi ⟨List.replicate (fn.ntmps-vals.length) undef,by simp [a0]⟩ hcaps)
    exact⟨η,Z1,T',h'⟩
  refine Iv (C:=C) hΓ (js:=SK S x) (a0:=a0) (E:=E) (ov:=ov) c (L x) _ _ _ a0 w (by rw[hsz];exact hvc) hd hinit2 ⟨rfl,fun _ _=>rfl⟩ ?_
  intro e s' a' w' hk hr hf
  have fin:Xd P S x fn.results.toList (S.args x).length s'→a'.defers=[]∧∃v,(results fn a'.tmps).run P w'= .ok v w'∧∃y v' Z' A',S.post x y∧Ending.returned v= .returned v'∧AX Z' w' (S.res x y::S.outs x y) (v'::vals) A'∧After Z w A Z' w' A':=by
   intro hfin
   obtain⟨η,Z1,T,hi⟩:=hr
   obtain⟨rvs,ras,hrun,hrr,hri,y,hpost,hh⟩:=a4n hi.rel hi.ids hfin
   split at hh
   rotate_left
   ·exact hh.elim
   rename_i hout
   have hres:Ab Z1 η w' (Jr ras) (Nl rvs) (fun _=>False):=by
    match ras,rvs,hrr with
    |[],rvs,hrr=>
     simp only[An] at hrr
     rw[hrr.1]
     simp only[Jr,Nl,Ab];exact⟨[],rfl,by simp [An,emp]⟩
    |[r],rvs,hrr=>
     simp only[An] at hrr
     obtain⟨v,cs',A,B,e,hj,h1,h2,h3⟩:=hrr
     subst h2;subst e
     have:=(HL hj AP).1
     rw[Ep this] at h1
     exact h1
    |r::q::ras,rvs,hrr=>
     have hl:=EM _ _ _ hrr
     match rvs,hl with
     |v::u::rvs,_=>simp only[Jr,Nl,Ab];exact⟨_,rfl,hrr⟩
   have hresi:Aw s'.nx (Jr ras):=by
    match ras,hri with
    |[],hri=>exact hri
    |[r],hri=>exact hri.1
    |r::q::ras,hri=>simp only[Jr,Aw];exact hri
   have hactual:An Z1 η w' (Jr ras::(List.range (S.args x).length).map fun j=>Be s'.regs (.tmp j))
    (Nl rvs::(List.range (S.args x).length).map fun j=>a'.eval (.tmp j)) (fun _=>False):=by
    simp only[An]
    refine⟨_,_,_,_,rfl,BV _,hres,?_⟩
    have:∀l:List Nat,An Z1 η w' (l.map fun j=>Be s'.regs (.tmp j)) (l.map fun j=>a'.eval (.tmp j)) (fun _=>False):=by
     intro l
     induction l with
     |nil=>simp [An,emp]
     |cons t ts ih=>
      simp only[List.map_cons,An]
      exact⟨_,_,_,_,rfl,BV _,Er hi.rel (.tmp t),ih⟩
    exact this _
   have hactuali:AS s'.nx (Jr ras::(List.range (S.args x).length).map fun j=>Be s'.regs (.tmp j)):=by
    refine⟨hresi,?_⟩
    have:∀l:List Nat,AS s'.nx (l.map fun j=>Be s'.regs (.tmp j)):=by
     intro l
     induction l with
     |nil=>trivial
     |cons t ts ih=>exact⟨Gy hi.ids (.tmp t),ih⟩
    exact this _
   obtain⟨Z2,A',B',r',ho⟩:=FC _ s'.regs _ _ hh Z1 a'.tmps.toList _ T (fun _=>False) T hi.rel hi.ids hactual hactuali (BV T)
   refine⟨hi.defers,_,hrun,y,_,Z2,A',hpost,rfl,?_,?_⟩
   ·have hgot:=ho.got
    simp only[AX] at hgot ⊢
    obtain⟨v',us',A1,A2,e1,hj,h1,h2⟩:=hgot
    simp only[List.cons.injEq] at e1
    obtain⟨rfl,rfl⟩:=e1
    refine⟨_,vals,A1,A2,rfl,hj,h1,Xe 0 _ vals _ A2 hout (by simp [hvl]) (fun i hil0 hb=> ?_) h2⟩
    have hil:i<(S.args x).length:=by omega
    have hfix:=hf.2 i (by simpa using hb)
    have hav:a0.tmps[i]? =vals[i]? :=by
     simp only[a0]
     rw[Array.getElem?_append_left (by simp;omega)]
     simp
    have hvi:vals[i]? =some vals[i]:=by simp
    simp only[List.getElem?_map,List.getElem?_range hil,Option.map_some,Act.eval]
    rw[hav,hvi] at hfix
    simp [Array.getD_eq_getD_getElem?,hfix,hvi]
   ·refine⟨hi.ok.os,hi.ok.tape,hi.ok.output,hi.ok.size,fun b hb hn=> ?_,fun b hb=> ?_⟩
    ·obtain⟨g1,g2⟩:=hi.ok.old b hb hn
     refine⟨g1,fun h=>g2.1 (ho.zz b h),fun h=>Classical.byContradiction fun hn2=> ?_⟩
     have hT:=ho.gone b (g2.2 h) hn2
     exact hn ((hi.own b hT).2.2 hb)
    ·have hT:=ho.part b (.inl hb)
     exact⟨ho.ownA b hb (hi.own b hT).1,(hi.own b hT).2.1,(hi.own b hT).2.2⟩
  cases e with
  |normal=>exact fin hk
  |exit id=>exact hk.elim
  |ret=>exact fin hk
def Γof:List (Nat×Nat×Sig)→FuncId→Nat→Option Sig
 |[],_,_=>none
 |(g,k,S)::l,f,j=>match Nat.beq g f,Nat.beq k j with
  |true,true=>some S
  |_,_=>Γof l f j
def SM(G:GInv)(P:Program):List (Nat×Nat×Sig)→Prop
 |[]=>True
 |(g,_,S)::l=>Aq G P g S∧SM G P l
theorem Xj{G:GInv}{P:Program}:∀ {l:List (Nat×Nat×Sig)},SM G P l→∀f k S,Γof l f k=some S→Aq G P f S
 |[],_,f,k,S,h=>by simp [Γof] at h
 |(g,j,S')::l,ha,f,k,S,h=>by
  unfold Γof at h
  split at h
  ·rename_i hb _
   simp only[Option.some.injEq] at h;subst h
   rw[←Nat.eq_of_beq_eq_true hb];exact ha.1
  ·exact Xj ha.2 f k S h
def Lof:List (Nat×LS)→Nat→Option LS
 |[],_=>none
 |(g,S)::l,f=>match Nat.beq g f with
  |true=>some S
  |false=>Lof l f
def Eof:List (Nat×ES)→TypeId→Option ES
 |[],_=>none
 |(g,S)::l,f=>match Nat.beq g f with
  |true=>some S
  |false=>Eof l f
theorem Ax{b:Bool}{p q:Prop}(h1:b=true→p)(h2:b=false→q):Aa b p q:=by
 cases b
 ·exact h2 rfl
 ·exact h1 rfl
end Go.Eng
end
section
set_option linter.unusedVariables false
namespace Go.Eng
mutual
def Az:AV→AV→Prop→Prop
 | .int _ n,a,R=>match a with
   | .int _ m=>m=n∧R
   |_=>False
 | .bool b,a,R=>match a with
   | .bool c=>c=b∧R
   |_=>False
 | .str l,a,R=>match a with
   | .str m=>m=l∧R
   |_=>False
 | .val v,a,R=>match a with
   | .val u=>u=v∧R
   |_=>False
 | .nil,_,R=>R
 | .any,_,R=>R
 | .top,_,R=>R
 | .agg es,a,R=>match a with
   | .agg azs=>Av es azs R
   |_=>False
 | .tup es,a,R=>match a with
   | .tup azs=>Av es azs R
   |_=>False
 | .clo _ es,a,R=>match a with
   | .clo _ azs=>Av es azs R
   |_=>False
 | .pf c,a,R=>match a with
   | .pf c'=>AV.pf c'=AV.pf c∧R
   | .box _ c'=>AV.pf (fzL c')=AV.pf c∧R
   |_=>False
 | .box _ c,a,R=>match a with
   | .box _ c'=>Av c c' R
   |_=>False
 | .bv y c,a,R=>match a with
   | .bv x c'=>x=y∧Av c c' R
   |_=>False
 | .sl true _ sz α f xs,a,R=>match a with
   | .nil=>xs=[]∧R
   | .sl true _ sz' α' f' xs'=>AV.sl true 0 sz' α' f' xs'=AV.sl true 0 sz α f xs∧R
   |_=>False
 | .sl false _ sz α f xs,a,R=>match a with
   | .nil=>xs=[]∧R
   | .sl false _ sz' α' f' xs'=>AV.sl false 0 sz' α' f' xs'=AV.sl false 0 sz α f xs∧R
   | .sl true _ sz' α' f' xs'=>AV.sl false 0 sz' α' (fun x=>fzL (f' x)) xs'=AV.sl false 0 sz α f xs∧R
   |_=>False
 | .hole _,_,_=>False
 | .hv _,_,_=>False
 | .al _,_,_=>False
 | .po _ _ _ _,_,_=>False
def Av:List AV→List AV→Prop→Prop
 |[],azs,R=>R
 |e::es,azs,R=>match azs with
  |[]=>False
  |a::azs=>Az e a (Av es azs R)
end
def mvE:AV→AV
 | .int _ _=> .top
 | .bool _=> .top
 | .str _=> .top
 | .val _=> .top
 | .any=> .top
 | .top=> .top
 | .nil=> .top
 | .hole _=> .top
 | .al _=> .top
 | .po _ _ _ _=> .top
 | .agg _=> .top
 | .tup _=> .top
 | .hv _=> .top
 | .pf _=> .top
 | .clo _ _=> .top
 | .box i c=> .box i c
 | .bv x c=> .bv x c
 | .sl true i sz α f xs=> .sl true i sz α f xs
 | .sl false _ _ _ _ _=> .top
def lnE:AV→AV
 | .int k n=> .int k n
 | .bool b=> .bool b
 | .str l=> .str l
 | .val v=> .val v
 | .any=> .any
 | .top=> .top
 | .nil=> .nil
 | .hole i=> .hole i
 | .al i=> .al i
 | .po a b c d=> .po a b c d
 | .agg l=> .agg l
 | .tup l=> .tup l
 | .hv x=> .hv x
 | .pf c=> .pf c
 | .clo f l=> .clo f l
 | .box _ _=> .top
 | .bv _ _=> .top
 | .sl true _ _ _ _ _=> .top
 | .sl false i sz α f xs=> .sl false i sz α f xs
def mvL:List AV→List AV
 |[]=>[]
 |e::es=>mvE e::mvL es
def lnL:List AV→List AV
 |[]=>[]
 |e::es=>lnE e::lnL es
def BA:List (Nat×AV)→List AV
 |[]=>[]
 |(_,e)::es=>e::BA es
def cA(S:Sig)(azs:List AV)(K:S.X→S.Y→Prop):Prop:=
 ∃x:S.X,S.pre x∧Av (mvL (S.args x)) azs (Av (lnL (S.args x)) azs (∀y,S.post x y→K x y))
def eA(L:LS)(azs:List AV):Prop:=∃i,L.inv i∧Av (BA (L.regs i)) azs True∧True
def eN(L:LS)(i:L.ι)(azs:List AV):Prop:=∃i',L.inv i'∧L.meas i'<L.meas i∧Av (BA (L.regs i')) azs True∧True
def rA(S:Sig)(x:S.X)(azs:List AV):Prop:=∃y,S.post x y∧Av (S.res x y::S.outs x y) azs True
theorem vcFun_okP{G:GInv}{P:Program}(l:List (Nat×Nat×Sig))(e:List (Nat×ES))(ov:Bool){f:FuncId}{S:Sig}(L:S.X→List (Nat×LS)){fn:Func}
 (hfn:P.funcs[f]? =some fn) (hbody:fn.body=some (fn.body.getD .skip)) (hname:(fn.name== "runtime.NumGoroutine")=false)
 (ha:SM G P l) (Q:S.X→Prop) (hq:∀x,OY P (Γof l) (Eof e) ov (Lof (L x)) fn.ntmps fn.results.toList (fn.body.getD .skip) S x=Q x) (h:∀x,S.pre x→Q x):Aq G P f S:=
 a4o (Γ:=Γof l) (E:=Eof e) (ov:=ov) (L:=fun x=>Lof (L x)) hfn hbody hname (Xj ha) fun x hx=>(hq x).mpr (h x hx)
end Go.Eng
end
section
set_option linter.unusedVariables false
namespace Go.My
open Go.Eng
structure Nd where
 kind:Int
 text:List UInt8
 kids:List Int
 blank:Bool
def Ba:Int→List AV:=fun n=>[.int .i64 n]
def Bo:List UInt8→List AV:=fun s=>[.str s]
def AU(l:List Int):AV:= .sl false 0 1 Int Ba l
def Ad(l:List Int):AV:= .sl true 0 1 Int Ba l
def ndA(o:Bool):Nd→List AV:=fun x=>[.int .i64 x.kind,.str x.text,.sl o 0 1 Int Ba x.kids,.bool x.blank]
theorem Bf(o:Bool)(x:Nd):ndA o x=[.int .i64 x.kind,.str x.text,.sl o 0 1 Int Ba x.kids,.bool x.blank]:=rfl
def nds(l:List Nd):AV:= .sl false 0 4 Nd (ndA false) l
def As(l:List Nd):AV:= .sl true 0 4 Nd (ndA true) l
theorem Af{α:Type}{p q:α→Prop}(x:α)(h2:q x)(h1:p x):∃x,p x∧q x:=⟨x,h1,h2⟩
theorem AC{α β:Type}{p q:α×β→Prop}(a:α)(b:β)(h2:q (a,b))(h1:p (a,b)):∃x,p x∧q x:=⟨_,h1,h2⟩
theorem AD{α β γ:Type}{p q:α×β×γ→Prop}(a:α)(b:β)(c:γ)(h2:q (a,b,c))(h1:p (a,b,c)):∃x,p x∧q x:=⟨_,h1,h2⟩
theorem AE{α β γ δ:Type}{p q:α×β×γ×δ→Prop}(a:α)(b:β)(c:γ)(d:δ)(h2:q (a,b,c,d))(h1:p (a,b,c,d)):∃x,p x∧q x:=⟨_,h1,h2⟩
theorem AF{α β γ δ ε:Type}{p q:α×β×γ×δ×ε→Prop}(a:α)(b:β)(c:γ)(d:δ)(e:ε)(h2:q (a,b,c,d,e))(h1:p (a,b,c,d,e)):∃x,p x∧q x:=⟨_,h1,h2⟩
theorem AG{α β γ δ ε ζ:Type}{p q:α×β×γ×δ×ε×ζ→Prop}(a:α)(b:β)(c:γ)(d:δ)(e:ε)(f:ζ)(h2:q (a,b,c,d,e,f))(h1:p (a,b,c,d,e,f)):∃x,p x∧q x:=⟨_,h1,h2⟩
theorem AH{o:Bool}{id sz:Nat}{α:Type}{f:α→List AV}{l l':List α}(h:l=l'):AV.sl o id sz α f l=AV.sl o id sz α f l':=by rw[h]
theorem AA{p:Prop}[Decidable p]{P Q:Prop}(h1:p→P)(h2:¬p→Q):Aa (decide p) P Q:=
 Ax (fun h=>h1 (of_decide_eq_true h)) (fun h=>h2 (of_decide_eq_false h))
theorem DS{α:Type}{l:List α}{n:Nat}{e:α}(h:l[n]? =some e):∃h:n<l.length,l[n]=e:=List.getElem?_eq_some_iff.1 h
theorem Dl{α:Type}{l:List α}{n:Nat}{e:α}(h:l[n]? =some e):e∈l:=List.mem_of_getElem? h
theorem Js{α:Type}{l:List α}{n:Nat}{e:α}(h:l[n]? =some e):l.drop n=e::l.drop (n+1):=by
 obtain⟨h1,h2⟩:=DS h
 rw[←h2];exact List.drop_eq_getElem_cons h1
theorem Fg{α:Type}{l:List α}{n:Nat}{e:α}(h:l[n]? =some e):l.take (n+1)=l.take n++[e]:=by
 rw[List.take_add_one,h];rfl
theorem AI{α:Type}[BEq α][LawfulBEq α]{a b:α}{P Q:Prop}(h1:a≠b→P)(h2:a=b→Q):Aa (a != b) P Q:=
 Ax (fun h=>h1 (by simpa using h)) (fun h=>h2 (by simpa using h))
theorem AB{α:Type}[BEq α][LawfulBEq α]{a b:α}{P Q:Prop}(h1:a=b→P)(h2:a≠b→Q):Aa (a==b) P Q:=
 Ax (fun h=>h1 (by simpa using h)) (fun h=>h2 (by simpa using h))
theorem AJ{b:Bool}{P Q:Prop}(h1:b=false→P)(h2:b=true→Q):Aa (!b) P Q:=
 Ax (fun h=>h1 (by simpa using h)) (fun h=>h2 (by simpa using h))
theorem Db{i:Int}(h:0≤i):(i+1).toNat=i.toNat+1:=by omega
theorem AR:IntKind.i64.max=9223372036854775807:=rfl
theorem AK{n:Int}(h1: -9223372036854775808≤n)(h2:n≤9223372036854775807):inR .i64 n:=by
 unfold inR;simp [IntKind.min,IntKind.max,IntKind.bits,IntKind.signed];omega
end Go.My
end
section
set_option linter.unusedVariables false
set_option linter.unusedSimpArgs false
namespace Go.My
open Go.Eng
def Bq(c:UInt8):Bool:=decide (48≤c.toNat)&&decide (c.toNat≤57)
def Cp(c:UInt8):Bool:=(decide (97≤c.toNat)&&decide (c.toNat≤122))||((decide (65≤c.toNat)&&decide (c.toNat≤90))||decide (c.toNat=95))
def BN(c:UInt8):Bool:=Cp c||Bq c
def Cg(c:UInt8):Bool:=decide (32≤c.toNat)&&decide (c.toNat≤126)
def Cf(c:UInt8):Bool:=decide (c.toNat≠10)
def kw(s:List UInt8):Bool:=s==[99,108,97,115,115]||(s==[118,97,114]||(s==[105,102]||(s==[101,108,115,101]||(s==[119,104,105,108,101]||s==[114,101,116,117,114,110]))))
def mk2(s:List UInt8):Bool:=s==[38,38]||(s==[124,124]||(s==[61,61]||(s==[61,62]||s==[46,46])))
def mk1:List UInt8:=[40,41,123,125,91,93,59,44,46,61,43,45,42,60,63,58]
def CB(s:List UInt8):Bool:=mk2 s||match s with
 |[c]=>mk1.elem c
 |_=>false
def DG(p:UInt8→Bool):List UInt8→Option Nat
 |[]=>none
 |c::s=>if p c then some 0 else(DG p s).map (· +1)
def CC(s:List UInt8):List UInt8:=(s.reverse.dropWhile (fun c=>decide (c.toNat=32))).reverse
def Dm(s:List UInt8):List UInt8×Bool:=match DG (fun c=>decide (c.toNat=39)) (s.drop 1) with
 |none=>([],false)
 |some i=>(s.take (i+2),(s.take (i+2)).all Cg)
structure SgR where
 kind:Int
 text:List UInt8
 size:Int
 ok:Bool
def Bb(s:List UInt8):SgR:=match s with
 |[]=>⟨0,[],0,false⟩
 |b::_=>
  if Cp b then⟨1,s.takeWhile BN,(s.takeWhile BN).length,decide ((s.takeWhile BN).length≤30)⟩
  else if Bq b then⟨2,s.takeWhile Bq,(s.takeWhile Bq).length,decide ((s.takeWhile Bq).length≤12)⟩
  else if b.toNat=39 then⟨3,(Dm s).1,(Dm s).1.length,(Dm s).2⟩
  else if s.take 2=[47,47] then⟨5,CC (s.takeWhile Cf),(s.takeWhile Cf).length,(s.takeWhile Cf).all Cg⟩
  else if CB (s.take 2) then⟨4,s.take 2,(s.take 2).length,true⟩
  else if CB (s.take 1) then⟨4,s.take 1,1,true⟩
  else⟨0,[],0,false⟩
def Cs(s:List UInt8)(k:Int):Bool:= !(s==[])&&((Bb s).ok&&(decide ((Bb s).kind=k)&&((Bb s).text==s&&decide ((Bb s).size=s.length))))
def DH(s:List UInt8):Bool:=Cs s 1&& !kw s
def Nm(s:List UInt8):Bool:=s==[38,38]||(s==[124,124]||(s==[61,61]||(s==[60]||(s==[43]||(s==[45]||s==[42])))))
def Fh(k:Int)(s:List UInt8):Bool:=
 if k=1∨k=6∨k=12∨k=13∨k=20∨k=21 then DH s
 else if k=2 then Cs s 2
 else if k=3 then Cs s 3
 else if k=19 then Cs s 5
 else if k=7 then Nm s
 else s==[]
theorem Iw{p:UInt8→Bool}:∀ {s:List UInt8} {n:Nat},(∀e∈s.take n,p e=true)→(s.length≤n∨∃e,s[n]? =some e∧p e=false)→s.take n=s.takeWhile p
 |[],n,_,_=>by simp
 |c::s,0,_,h=>by
  rcases h with h|⟨e,he,hp⟩
  ·simp at h
  ·simp at he;subst he;simp [List.takeWhile,hp]
 |c::s,n+1,ha,h=>by
  have hc:p c=true:=ha c (by simp)
  rw[List.take_succ_cons,List.takeWhile_cons,if_pos hc,Iw (fun e he=>ha e (by simp [he]))]
  rcases h with h|⟨e,he,hp⟩
  ·exact .inl (by simpa using h)
  ·exact .inr ⟨e,by simpa using he,hp⟩
theorem Nn{p:UInt8→Bool}{s:List UInt8}{n:Nat}{e:UInt8}(h:∀e∈s.take n,p e=true)(he:s[n]? =some e)(hp:p e=true):∀e∈s.take (n+1),p e=true:=by
 rw[Fg he];intro x hx
 rcases List.mem_append.1 hx with hx|hx
 ·exact h x hx
 ·simp at hx;subst hx;exact hp
theorem SN{p:UInt8→Bool}{s:List UInt8}{n:Nat}(h:∀e∈s.take n,p e=true)(hn:s.length≤n):s.all p=true:=by
 rw[List.take_of_length_le hn] at h;exact List.all_eq_true.2 h
theorem OZ{p:UInt8→Bool}{s:List UInt8}{n:Nat}{e:UInt8}(he:s[n]? =some e)(hp:p e=false):s.all p=false:=by
 rw[Bool.eq_false_iff];intro h
 rw[List.all_eq_true.1 h e (List.mem_of_getElem? he)] at hp;cases hp
theorem Pa{p:UInt8→Bool}{s:List UInt8}:s.takeWhile p=s↔s.all p=true:=by
 constructor
 ·intro h;rw[←h];exact List.all_takeWhile
 ·intro h;induction s with
  |nil=>rfl
  |cons c s ih=>
   simp only[List.all_cons,Bool.and_eq_true] at h
   rw[List.takeWhile_cons,if_pos h.1,ih h.2]
theorem SO{p:UInt8→Bool}:∀ {s:List UInt8},DG p s=none↔∀e∈s,p e=false
 |[]=>by simp [DG]
 |c::s=>by
  unfold DG
  by_cases h:p c=true
  ·simp [h]
  ·simp [h,SO (s:=s)]
theorem Kj{p:UInt8→Bool}:∀ {s:List UInt8} {i:Nat},DG p s=some i↔(∀e∈s.take i,p e=false)∧∃e,s[i]? =some e∧p e=true
 |[],i=>by simp [DG]
 |c::s,i=>by
  unfold DG
  by_cases h:p c=true
  ·cases i with
   |zero=>simp [h]
   |succ i=>simp [h]
  ·cases i with
   |zero=>simp [h]
   |succ i=>
    simp only[h,Bool.false_eq_true,if_false,Option.map_eq_some_iff]
    constructor
    ·rintro⟨j,hj,e⟩
     obtain rfl:j=i:=by omega
     obtain⟨h1,h2⟩:=Kj.1 hj
     refine⟨?_,by simpa using h2⟩
     intro e he;simp at he
     rcases he with rfl|he
     ·simpa using h
     ·exact h1 e he
    ·rintro⟨h1,h2⟩
     exact⟨i,Kj.2 ⟨fun e he=>h1 e (by simp [he]),by simpa using h2⟩,rfl⟩
end Go.My
end
section
set_option linter.unusedVariables false
set_option linter.unusedSimpArgs false
namespace Go.My
open Go.Eng
def inn(x a b:Int):Bool:=decide (a≤x)&&decide (x≤b)
def BO(l:List Nd)(k:Int):Bool:=decide (0≤k)&&decide (k<l.length)
def BK(k:Int):Bool:=inn k 1 11
def FD(k:Int):Bool:=inn k 12 17
def EG(k:Int):Bool:=decide (k=12)||(decide (k=20)||decide (k=19))
def DT(k:Int):Bool:=decide (k=18)
def Ev(k:Int):Bool:=decide (k=1)
def FE(k:Int):Bool:=decide (k=5)
def Ec(k:Int):Bool:=FD k||decide (k=19)
def GF(k:Int):Bool:=EG k||decide (k=21)
def Hf(p:Int→Bool)(ks:List Int):Bool:=match ks.getLast? with
 |some k=>p k&&ks.dropLast.all Ev
 |none=>false
def Ed(k:Int)(ks:List Int):Bool:=
 if k=1∨k=2∨k=3∨k=19 then decide (ks.length=0)
 else if k=4 then ks.all BK
 else if k=5 then decide (1≤ks.length)&&ks.all BK
 else if k=7 then decide (2≤ks.length)&&ks.all BK
 else if k=8 then decide (ks.length=3)&&ks.all BK
 else if k=6∨k=11∨k=13∨k=14 then decide (ks.length=1)&&ks.all BK
 else if k=12∨k=15 then decide (ks.length≤1)&&ks.all BK
 else if k=9 then Hf BK ks
 else if k=10 then decide (2≤ks.length)&&(BK (ks.headD 0)&&(ks.drop 1).all FE)
 else if k=16 then(decide (2≤ks.length)&&decide (ks.length≤3))&&(BK (ks.headD 0)&&(ks.drop 1).all DT)
 else if k=17 then decide (ks.length=2)&&(BK (ks.headD 0)&&DT (ks.getD 1 0))
 else if k=18 then ks.all Ec
 else if k=20 then Hf DT ks
 else if k=21 then ks.all EG
 else if k=22 then ks.all GF
 else false
def Ag(ns:List Nd)(c:Int):Nd:=ns.getD c.toNat ⟨0,[],[],false⟩
def BG(ns:List Nd)(c:Int):Int:=(Ag ns c).kind
def CP(ns:List Nd)(x:Nd)(i:Nat)(c:Int):Bool:=
 let y:=Ag ns c
 if y.kind=5 then match y.kids with
  |[]=>false
  |h::_=>BO ns h&& !(decide (x.kind=10)&&(decide (0<i)&& !decide (BG ns h=1)))
 else true
def ER(ns:List Nd)(x:Nd):Bool:=(x.kids.zipIdx).all fun p=>CP ns x p.2 p.1
def DI(l:List Int)(k:Int):Bool:=l.all fun c=>decide (0≤c)&&decide (c<k)
def Hg(k:Int):Bool:=FD k||(EG k||decide (k=21))
def HT(ns:List Nd)(k:Int)(x:Nd):Bool:=
 decide (x.kids.length≤12)&&(Fh x.kind x.text&&((DI x.kids k&&decide x.kids.Nodup)&&(Ed x.kind (x.kids.map (BG ns))&&(ER ns x&&(Hg x.kind|| !x.blank)))))
def Ch(ns:List Nd)(k:Int):Bool:=BO ns k&&HT ns k (Ag ns k)
def mx(ds:List Int):List Int→Int→Int
 |[],d=>d
 |c::l,d=>mx ds l (max d (ds.getD c.toNat 0))
def Du(ns:List Nd):Nat→Option (List Int)
 |0=>some []
 |n+1=>match Du ns n with
  |none=>none
  |some ds=>if Ch ns n then(if 14≤mx ds (Ag ns n).kids 0 then none else some (ds++[mx ds (Ag ns n).kids 0+1])) else none
def Bi(ns:List Nd)(k:Int):Int:=if BO ns k then match Du ns (k.toNat+1) with
    |none=>0
    |some ds=>ds.getD k.toNat 0
 else 0
def Cl(ns:List Nd):List Int:=ns.flatMap (·.kids)
def Dn(ns:List Nd):Bool:=
 (decide (1≤ns.length)&&decide (ns.length≤300))&&(decide (BG ns (ns.length-1)=22)&&(!decide (Bi ns (ns.length-1)=0)&&((List.range (ns.length-1)).all fun i=>decide ((Cl ns).count (i:Int)=1))))
theorem Dv{l:List Nd}{k:Int}:BO l k=true↔0≤k∧k<l.length:=by simp [BO]
theorem BH{ns:List Nd}{c:Int}{x:Nd}(h:ns[c.toNat]? =some x):Ag ns c=x:=by
 simp [Ag,List.getD,h]
theorem SP(ds:List Int):∀(l:List Int) (d:Int),d≤mx ds l d
 |[],d=>Int.le_refl d
 |c::l,d=>by unfold mx;have:=SP ds l (max d (ds.getD c.toNat 0));omega
theorem No{ns:List Nd}:∀ {n:Nat} {ds:List Int},Du ns n=some ds→ds.length=n
 |0,ds,h=>by cases h;rfl
 |n+1,ds,h=>by
  unfold Du at h
  split at h
  ·cases h
  ·rename_i ds' hd
   split at h
   ·split at h
    ·cases h
    ·simp at h;rw[←h];simp [No hd]
   ·cases h
theorem SQ{ns:List Nd}:∀ {n:Nat} {ds:List Int},Du ns n=some ds→∀d∈ds,1≤d∧d≤14
 |0,ds,h=>by cases h;simp
 |n+1,ds,h=>by
  unfold Du at h
  split at h
  ·cases h
  ·rename_i ds' hd
   split at h
   ·split at h
    ·cases h
    ·simp at h;rw[←h]
     intro d hdm
     rcases List.mem_append.1 hdm with hdm|hdm
     ·exact SQ hd d hdm
     ·simp at hdm
      have:=SP ds' (Ag ns n).kids 0
      omega
   ·cases h
theorem Xk{ns:List Nd}:∀ {n:Nat} {ds:List Int},Du ns n=some ds→∀i,i<n→Ch ns i=true
 |0,ds,h,i,hi=>by omega
 |n+1,ds,h,i,hi=>by
  unfold Du at h
  split at h
  ·cases h
  ·rename_i ds' hd
   split at h
   ·rename_i hok
    by_cases e:i=n
    ·subst e;exact hok
    ·exact Xk hd i (by omega)
   ·cases h
theorem Xl{ns:List Nd}{n m:Nat}(h:Du ns n=none)(hm:n≤m):Du ns m=none:=by
 induction m with
 |zero=>obtain rfl:n=0:=by omega
        exact h
 |succ m ih=>
  by_cases e:n=m+1
  ·subst e;exact h
  ·unfold Du;rw[ih (by omega)]
theorem SR{ns:List Nd}{k:Int}(h:Bi ns k≠0):BO ns k=true∧(∃ds,Du ns (k.toNat+1)=some ds)∧∀i:Nat,(i:Int)≤k→Ch ns i=true:=by
 unfold Bi at h
 split at h
 ·rename_i hn
  split at h
  ·exact(h rfl).elim
  ·rename_i ds hd
   exact⟨hn,⟨ds,hd⟩,fun i hi=>Xk hd i (by have:=Dv.1 hn;omega)⟩
 ·exact(h rfl).elim
theorem HU{ns:List Nd}{k:Int}(h:Ch ns k=true):(0≤k∧k<ns.length)∧(Ag ns k).kids.length≤12∧Fh (Ag ns k).kind (Ag ns k).text=true∧
 (∀c∈(Ag ns k).kids,0≤c∧c<k)∧(Ag ns k).kids.Nodup∧Ed (Ag ns k).kind ((Ag ns k).kids.map (BG ns))=true∧ER ns (Ag ns k)=true:=by
 simp only[Ch,HT,Bool.and_eq_true,decide_eq_true_eq,DI,List.all_eq_true] at h
 exact⟨Dv.1 h.1,h.2.1,h.2.2.1,h.2.2.2.1.1,h.2.2.2.1.2,h.2.2.2.2.1,h.2.2.2.2.2.1⟩
end Go.My
end
section
set_option linter.unusedVariables false
set_option linter.unusedSimpArgs false
namespace Go.My
open Go.Eng Go.Proofs Go.RowKit
variable {G:GInv}
def CD(s:List UInt8)(c:UInt8):Int:=match DG (fun d=>decide (d.toNat=c.toNat)) s with
 |none=> -1
 |some i=>i
theorem Xm:∀(s:List UInt8) (c:UInt8),Lib.indexByte s c=CD s c
 |[],c=>rfl
 |b::s,c=>by
  unfold Lib.indexByte CD DG
  have e:(b==c)=decide (b.toNat=c.toNat):=by
   rw[Bool.eq_iff_iff];simp [UInt8.toNat_inj]
  rw[e]
  by_cases h:b.toNat=c.toNat
  ·simp [h]
  ·have ih:=Xm s c
   unfold CD at ih
   simp only[h,decide_false,Bool.false_eq_true,if_false]
   rw[ih]
   cases hh:DG (fun d=>decide (d.toNat=c.toNat)) s with
   |none=>simp
   |some i=>simp
set_option maxHeartbeats 1000000 in
set_option maxRecDepth 100000 in
theorem a4p(s:ByteArray)(c:Int)(w:World):
 Calls Tryz.prog 145 #[.string s,.int .u8 c] w fun e w'=>e= .returned (.int .i64 (Lib.indexByte s.data.toList c.toNat.toUInt8))∧w'=w:=by
 go_enter Tryz.func145,Tryz.ntmps145
 go_wp2
 rw[run_callFunc_extern Tryz.func172 (by kernel_rfl) (by kernel_rfl) (by kernel_rfl) (e:=Extern.BytealgIndexByte.indexByte) (by kernel_rfl),Lib.run_indexByteString]
 simp only[Result.andThen]
 rw[Oper.upon_value]
 go_wp2
 go_ret
 exact⟨rfl,rfl⟩
def LO:Sig:= {X:=List UInt8×UInt8,args:=fun x=>[.str x.1,.int .u8 x.2.toNat],pre:=fun _=>True,Y:=Unit,post:=fun _ _=>True,res:=fun x _=> .int .i64 (CD x.1 x.2),outs:=fun _ _=>[.top,.top],keep:=false}
theorem SS:Aq G Tryz.prog 145 LO:=by
 refine⟨⟨⟨_,Tryz.func145,by kernel_rfl,by kernel_rfl⟩,fun x y _ _=>⟨trivial,trivial,trivial,trivial⟩⟩,?_⟩
 rintro⟨l,c⟩ _ Z w vals A _ h hA _
 simp only[LO,AX,Am] at h
 obtain⟨v,cs,A1,A2,rfl,_,⟨rfl,_⟩,v',cs',A3,A4,rfl,_,⟨rfl,_⟩,rfl,_⟩:=h
 refine(a4p ⟨l.toArray⟩ c.toNat w).mono ?_
 rintro e w' ⟨rfl,rfl⟩
 refine⟨(),_,Z,(fun _=>False),trivial,rfl,?_,⟨rfl,rfl,rfl,Nat.le_refl _,fun _ _ _=>⟨rfl,Iff.rfl⟩,fun _ h=>h.elim⟩⟩
 simp only[LO,AX,Am]
 refine⟨_,_,_,_,rfl,BV _,⟨?_,AP⟩,_,_,_,_,rfl,BV _,AP,_,_,_,_,rfl,BV _,AP,rfl,AP⟩
 rw[Xm];simp
def Pb:Sig:= {X:=List UInt8,args:=fun x=>[.str x,.int .u8 39],pre:=fun _=>True,Y:=Unit,post:=fun _ _=>True,res:=fun x _=> .int .i64 (CD x 39),outs:=fun _ _=>[.top,.top],keep:=false}
theorem a4q:Aq G Tryz.prog 145 Pb:=⟨⟨(SS (G:=G)).1.1,fun x y _ _=>⟨trivial,trivial,trivial,trivial⟩⟩,fun x hx=>(SS (G:=G)).2 (x,39) trivial⟩
def LP:Sig:= {X:=List UInt8,args:=fun x=>[.str x,.int .u8 39],pre:=fun x=>True,Y:=Unit,post:=fun x y=>True,res:=fun x y=> .int .i64 (CD x 39),outs:=fun x y=>[.top,.top],keep:=false}
theorem a4r:Aq G Tryz.prog 111 LP:=
 vcFun_okP [(145,0,Pb)] [] false (fun x=>[]) Tryz.func111 rfl (by decide) ⟨a4q,trivial⟩ (fun(x:List UInt8)=>(∀(y:Unit),True→True∧True∧True∧True)∧cA Pb [.str x,AV.int IntKind.u8 (39:Int)] fun x_1 y=>rA LP x [.int .i64 (CD x_1 (39:UInt8)),.top,.top]) (fun x=>by kernel_rfl) fun(x:List UInt8) (hx:True)=>(by
 dsimp only[cA,rA,Pb,LP,Av,Az,mvL,lnL,mvE,lnE]
 (repeat' first|(with_reducible first|rfl|exact True.intro|apply AK|apply And.intro|((first|apply AA|apply AI|apply AB|apply AJ)<;>intro _))|(apply Ax<;>intro _)|apply AH|refine Af () ?_ ?_|((first|apply AO|apply AN|apply AM|apply AL|apply AG|apply AF|apply AE|apply AD|apply AC)<;>try dsimp only)|apply Af|(refine Prod.forall.2 ?_;intro _;try dsimp only)|(intro _;try dsimp only))<;>(try dsimp only at*)<;>(try simp only[AR,List.length_cons,List.length_nil])<;>(try omega))
def Ix:Sig:= {X:=List UInt8×List UInt8,args:=fun x=>[.str x.1,.str x.2],pre:=fun x=>x.2.length=1,Y:=Unit,post:=fun x y=>True,res:=fun x y=> .int .i64 (CD x.1 (x.2.headD 0)),outs:=fun x y=>[.top,.top],keep:=false}
theorem a4s:Aq G Tryz.prog 159 Ix:=
 vcFun_okP [(145,0,LO)] [] false (fun x=>[]) Tryz.func159 rfl (by decide) ⟨SS,trivial⟩ (fun(x:List UInt8×List UInt8)=>(∀(y:Unit),True→True∧True∧True∧True)∧Aa ((↑(List.length x.2):Int)==(0:Int)) (rA Ix x [.int .i64 (0:Int),.top,.top]) (Aa (x.2==x.1) (rA Ix x [.int .i64 (0:Int),.top,.top]) (Aa ((↑(List.length x.2):Int)==(1:Int)) (((0:Int)≤(0:Int)∧(0:Int)<(↑(List.length x.2):Int))∧∀(c:UInt8),x.2[(0:Nat)]? =some c→cA LO [.str x.1,AV.int IntKind.u8 (↑(UInt8.toNat c):Int)] fun x_1 y=>rA Ix x [.int .i64 (CD x_1.1 x_1.2),.top,.top]) (Aa (decide ((↑(List.length x.2):Int)≥(↑(List.length x.1):Int))) (rA Ix x [.int .i64 (-1:Int),.top,.top]) False)))) (fun x=>by kernel_rfl) fun(x:List UInt8×List UInt8) (hx:x.2.length=1)=>(by
 dsimp only[cA,rA,LO,Ix,Av,Az,mvL,lnL,mvE,lnE]
 (repeat' first|(with_reducible first|rfl|exact True.intro|apply AK|apply And.intro|((first|apply AA|apply AI|apply AB|apply AJ)<;>intro _))|(apply Ax<;>intro _)|apply AH|refine Af () ?_ ?_|((first|apply AO|apply AN|apply AM|apply AL|apply AG|apply AF|apply AE|apply AD|apply AC)<;>try dsimp only)|apply Af|(refine Prod.forall.2 ?_;intro _;try dsimp only)|(intro _;try dsimp only))<;>(try dsimp only at*)<;>(try simp only[AR,List.length_cons,List.length_nil])<;>(try omega)
 ·rename_i _ h;rw[←h];match x.2,hx with
  |[c],_=>simp [CD,DG]
 ·rename_i c hc _ _
  match x.2,hx,hc with
  |[d],_,hc=>simp at hc;rw[←hc];rfl)
def LQ:Sig:= {X:=List UInt8×List UInt8,args:=fun x=>[.str x.1,.str x.2],pre:=fun x=>x.2.length=1,Y:=Unit,post:=fun x y=>True,res:=fun x y=> .int .i64 (CD x.1 (x.2.headD 0)),outs:=fun x y=>[.top,.top],keep:=false}
theorem a4t:Aq G Tryz.prog 121 LQ:=
 vcFun_okP [(159,0,Ix)] [] false (fun x=>[]) Tryz.func121 rfl (by decide) ⟨a4s,trivial⟩ (fun(x:List UInt8×List UInt8)=>(∀(y:Unit),True→True∧True∧True∧True)∧cA Ix [.str x.1,.str x.2] fun x_1 y=>rA LQ x [.int .i64 (CD x_1.1 (List.headD x_1.2 (0:UInt8))),.top,.top]) (fun x=>by kernel_rfl) fun(x:List UInt8×List UInt8) (hx:x.2.length=1)=>(by
 dsimp only[cA,rA,LQ,Ix,Av,Az,mvL,lnL,mvE,lnE]
 (repeat' first|(with_reducible first|rfl|exact True.intro|apply AK|apply And.intro|((first|apply AA|apply AI|apply AB|apply AJ)<;>intro _))|(apply Ax<;>intro _)|apply AH|refine Af () ?_ ?_|((first|apply AO|apply AN|apply AM|apply AL|apply AG|apply AF|apply AE|apply AD|apply AC)<;>try dsimp only)|apply Af|(refine Prod.forall.2 ?_;intro _;try dsimp only)|(intro _;try dsimp only))<;>(try dsimp only at*)<;>(try simp only[AR,List.length_cons,List.length_nil])<;>(try omega))
def LR:Sig:= {X:=List UInt8×List UInt8,args:=fun x=>[.str x.1,.str x.2],pre:=fun x=>x.2.length=1,Y:=Unit,post:=fun x y=>True,res:=fun x y=> .bool (decide (CD x.1 (x.2.headD 0)≥0)),outs:=fun x y=>[.top,.top],keep:=false}
theorem a4u:Aq G Tryz.prog 114 LR:=
 vcFun_okP [(121,0,LQ)] [] false (fun x=>[]) Tryz.func114 rfl (by decide) ⟨a4t,trivial⟩ (fun(x:List UInt8×List UInt8)=>(∀(y:Unit),True→True∧True∧True∧True)∧cA LQ [.str x.1,.str x.2] fun x_1 y=>rA LR x [.bool (decide (CD x_1.1 (List.headD x_1.2 (0:UInt8))≥(0:Int))),.top,.top]) (fun x=>by kernel_rfl) fun(x:List UInt8×List UInt8) (hx:x.2.length=1)=>(by
 dsimp only[cA,rA,LR,LQ,Av,Az,mvL,lnL,mvE,lnE]
 (repeat' first|(with_reducible first|rfl|exact True.intro|apply AK|apply And.intro|((first|apply AA|apply AI|apply AB|apply AJ)<;>intro _))|(apply Ax<;>intro _)|apply AH|refine Af () ?_ ?_|((first|apply AO|apply AN|apply AM|apply AL|apply AG|apply AF|apply AE|apply AD|apply AC)<;>try dsimp only)|apply Af|(refine Prod.forall.2 ?_;intro _;try dsimp only)|(intro _;try dsimp only))<;>(try dsimp only at*)<;>(try simp only[AR,List.length_cons,List.length_nil])<;>(try omega))
def Kk:Sig:= {X:=List UInt8×List UInt8,args:=fun x=>[.str x.1,.str x.2],pre:=fun x=>x.2.length<2^62∧x.1.length<2^63,Y:=Unit,post:=fun x y=>True,res:=fun x y=> .bool (x.1.take x.2.length==x.2),outs:=fun x y=>[.top,.top],keep:=false}
theorem a4v:Aq G Tryz.prog 112 Kk:=
 vcFun_okP [] [] false (fun x=>[]) Tryz.func112 rfl (by decide) trivial (fun(x:List UInt8×List UInt8)=>(∀(y:Unit),True→True∧True∧True∧True)∧Aa (decide ((↑(List.length x.1):Int)≥(↑(List.length x.2):Int))) (((0:Int)≤(0:Int)∧(0:Int)≤(↑(List.length x.2):Int)∧(↑(List.length x.2):Int)≤(↑(List.length x.1):Int))∧rA Kk x [.bool (List.take (Int.toNat (↑(List.length x.2):Int)) x.1==x.2),.top,.top]) (rA Kk x [.bool false,.top,.top])) (fun x=>by kernel_rfl) fun(x:List UInt8×List UInt8) (hx:x.2.length<2^62∧x.1.length<2^63)=>(by
 dsimp only[rA,Kk,Av,Az]
 obtain⟨h1,h2⟩:=hx
 (repeat' first|(with_reducible first|rfl|exact True.intro|apply AK|apply And.intro|((first|apply AA|apply AI|apply AB|apply AJ)<;>intro _))|(apply Ax<;>intro _)|apply AH|refine Af () ?_ ?_|((first|apply AO|apply AN|apply AM|apply AL|apply AG|apply AF|apply AE|apply AD|apply AC)<;>try dsimp only)|apply Af|(refine Prod.forall.2 ?_;intro _;try dsimp only)|(intro _;try dsimp only))<;>(try dsimp only at*)<;>(try simp only[AR,List.length_cons,List.length_nil])<;>(try omega)
 ·simp
 ·rename_i h;rw[eq_comm,beq_eq_false_iff_ne];intro e;have:=congrArg List.length e;simp at this;omega)
def LT:Sig:= {X:=List UInt8×List UInt8,args:=fun x=>[.str x.1,.str x.2],pre:=fun x=>x.2.length<2^62∧x.1.length<2^63,Y:=Unit,post:=fun x y=>True,res:=fun x y=> .bool (x.1.take x.2.length==x.2),outs:=fun x y=>[.top,.top],keep:=false}
theorem a4w:Aq G Tryz.prog 87 LT:=
 vcFun_okP [(112,0,Kk)] [] false (fun x=>[]) Tryz.func87 rfl (by decide) ⟨a4v,trivial⟩ (fun(x:List UInt8×List UInt8)=>(∀(y:Unit),True→True∧True∧True∧True)∧cA Kk [.str x.1,.str x.2] fun x_1 y=>rA LT x [.bool (List.take (List.length x_1.2) x_1.1==x_1.2),.top,.top]) (fun x=>by kernel_rfl) fun(x:List UInt8×List UInt8) (hx:x.2.length<2^62∧x.1.length<2^63)=>(by
 dsimp only[cA,rA,LT,Kk,Av,Az,mvL,lnL,mvE,lnE]
 obtain⟨h1,h2⟩:=hx
 (repeat' first|(with_reducible first|rfl|exact True.intro|apply AK|apply And.intro|((first|apply AA|apply AI|apply AB|apply AJ)<;>intro _))|(apply Ax<;>intro _)|apply AH|refine Af () ?_ ?_|((first|apply AO|apply AN|apply AM|apply AL|apply AG|apply AF|apply AE|apply AD|apply AC)<;>try dsimp only)|apply Af|(refine Prod.forall.2 ?_;intro _;try dsimp only)|(intro _;try dsimp only))<;>(try dsimp only at*)<;>(try simp only[AR,List.length_cons,List.length_nil])<;>(try omega))
end Go.My
end
