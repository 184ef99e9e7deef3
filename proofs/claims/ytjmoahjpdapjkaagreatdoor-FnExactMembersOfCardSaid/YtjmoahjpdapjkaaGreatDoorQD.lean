/- A part of the proof: the engine and the contracts, joined. -/
import Derived.Test.YtjmoahjpdapjkaaGreatDoorQC
import Derived.Orders
import Derived.OrdersHeld
import Derived.Test.YtjmoahjpdapjkaaGreatDoorProg
import Derived.WalkKit
import Derived.Lib.Bytealg
import Derived.Laws.Externs
section
set_option linter.unusedVariables false
set_option linter.unusedSimpArgs false
namespace Go.Eng
theorem XA{P:Program}{Γ:FuncId→Nat→Option Sig}{C:Ctx}(hΓ:∀f k S,Γ f k=some S→Aj C.G P f S){E:TypeId→Option ES}{ov:Bool}{ops:Array Oper}{js:List Nat}{a0:Act}
 (hjs:∀(i:Nat) (o:Oper),ops[i]? =some o→GT js o.dst=true) {Q:Exit→Act→World→Prop} {N:Act→World→Prop} (i:Nat) (s:St) (K:St→Prop) (a:Act) (w:World) (h:DM P Γ E ov ops [i] s K)
 (hr:Rel C s a w) (hf:DB js a0 a) (hQ:∀s' a' w',K s'→Rel C s' a' w'→DB js a0 a'→N a' w'):wpOp P ops Q i N a w:=by
 simp only[DM] at h
 unfold wpOp
 split at h
 ·rename_i ho
  simp only[ho]
  exact hQ s a w h hr hf
 ·rename_i o ho
  simp only[ho]
  have hav:=hjs i o ho
  have run:∀(s1:St),Rel C s1 a w→IP P Γ E ov o s1 K→o.wp P a w N Q:=by
   intro s1 hr1 h1
   have:=Xq hΓ h1 hr1 Q
   refine Mg.Oper_wp_mono this ?_
   rintro a' w' ⟨s',hk,hr',v,rfl⟩
   exact hQ s' _ w' hk hr' (hf.put hav v)
  have skip:∀(s1:St),Rel C s1 a w→K ⟨setR s1.regs o.dst (.tup []),s1.nx⟩→N (a.put o.dst undef) w:=by
   intro s1 hr1 h1
   exact hQ _ _ w h1 (hr1.skip o.dst) (hf.put hav undef)
  split at h
  ·rename_i hg
   have hw:Region.wanted o (yielded ops a.tmps)=true:=by simp [Region.wanted,hg]
   rw[if_pos hw]
   simp only[NC] at h
   exact .inl (run s hr h)
  ·rename_i j want hg
   split at h
   ·exact h.elim
   ·rename_i d hd
    have hy:yielded ops a.tmps j=(match a.tmps[d]? with|some (.bool b)=>some b|_=>none):=by
     simp only[yielded,hd];rfl
    split at h
    ·rename_i fs hreg
     have hnone:yielded ops a.tmps j=none:=by
      obtain⟨η,Z,T,hi⟩:=hr
      obtain⟨v,A,B,hv,hrr,_⟩:=Hm s.regs _ T d _ hi.rel hreg
      simp only[Ad] at hrr
      obtain⟨cs,e,_⟩:=hrr
      have:a.tmps[d]? =some v:=by rw[←Array.getElem?_toList,hv]
      rw[hy,this,e]
     have hw:¬Region.wanted o (yielded ops a.tmps)=true:=by simp [Region.wanted,hg,hnone]
     rw[if_neg hw]
     exact skip s hr h
    ·rename_i c hreg
     obtain⟨hr1,ht⟩:=hr.know hreg
     have hyc:yielded ops a.tmps j=some c:=by rw[hy,ht]
     have hw:Region.wanted o (yielded ops a.tmps)=(c==want):=by simp [Region.wanted,hg,hyc]
     rw[hw]
     unfold Aa at h
     cases c
     ·cases want
      ·simp only[Fd] at h
       rw[if_pos (by rfl)];exact .inl (run _ hr1 h)
      ·simp only[Fd] at h
       rw[if_neg (by decide)];exact skip _ hr1 h
     ·cases want
      ·simp only[Fd] at h
       rw[if_neg (by decide)];exact skip _ hr1 h
      ·simp only[Fd] at h
       rw[if_pos (by rfl)];exact .inl (run _ hr1 h)
    ·exact h.elim
def Tj:List Nat→(Nat→Prop)→Prop
 |[],_=>True
 |[i],p=>p i
 |i::l,p=>p i∧Tj l p
theorem XB{p:Nat→Prop}:∀ {l:List Nat},Tj l p→∀i∈l,p i
 |[],_,i,h=>by simp at h
 |[j],hp,i,h=>by simp at h;subst h;exact hp
 |j::k::l,hp,i,h=>by
  rcases List.mem_cons.1 h with rfl|h
  ·exact hp.1
  ·exact XB hp.2 i h
def Tk(regs:List AV)(ops:Array Oper)(listed:Array Bool)(i:Nat):Bool:=match ops[i]? with
 |some o=>match o.guard with
  |none=>match Pd regs o.op with
   |true=>Region.free .any ops listed i
   |false=>false
  |some _=>false
 |none=>false
def Pr(regs:List AV)(ops:Array Oper)(listed:Array Bool):List Nat→Option Nat
 |[]=>none
 |i::l=>match Tk regs ops listed i with
  |true=>some i
  |false=>Pr regs ops listed l
theorem XC{regs:List AV}{ops:Array Oper}{listed:Array Bool}:∀ {l:List Nat} {i:Nat},Pr regs ops listed l=some i→i∈l∧Tk regs ops listed i=true
 |[],i,h=>by cases h
 |j::l,i,h=>by
  unfold Pr at h
  split at h
  ·rename_i hj;cases h;exact⟨by simp,hj⟩
  ·have:=XC h;exact⟨by simp [this.1],this.2⟩
def Kw(P:Program)(Γ:FuncId→Nat→Option Sig)(E:TypeId→Option ES)(ov:Bool)(ops:Array Oper):Nat→Array Bool→St→(St→Prop)→Prop
 |0,listed,s,K=>(Region.ready .any ops listed).isEmpty=true∧K s
 |fuel+1,listed,s,K=>match Region.ready .any ops listed with
  |[]=>K s
  |i::l=>match Region.noSelect ops,Pr s.regs ops listed (i::l) with
   |true,some j=>DM P Γ E ov ops [j] s fun s'=>Kw P Γ E ov ops fuel (listed.setIfInBounds j true) s' K
   |_,_=>Tj (i::l) fun i=>DM P Γ E ov ops [i] s fun s'=>Kw P Γ E ov ops fuel (listed.setIfInBounds i true) s' K
def JK(R:Act→World→Prop):Exit→Act→World→Prop
 | .normal,a,w=>R a w
 |_,_,_=>False
theorem XD{P:Program}{ops:Array Oper}{Q:Exit→Act→World→Prop}{S S':World→Prop}(h:∀w,S w→S' w):∀(fuel:Nat) (listed:Array Bool) (a:Act) (w:World),
 wpAnyH P .any ops Q S fuel listed a w→wpAnyH P .any ops Q S' fuel listed a w
 |0,_,_,_,hh=>hh
 |fuel+1,listed,a,w,hh=>⟨hh.1,fun i hi=>wpOp_mono (fun a' w' h'=>⟨h w' h'.1,XD h fuel _ a' w' h'.2⟩) (hh.2 i hi)⟩
def Inst.here{C:Ctx}{s:St}{a:Act}{w:World}{η:Nat→Value}{Z T:FP}(hi:Inst C s a w η Z T):Ctx:=⟨w,Z,T,C.G,hi.ok.glob,fun b hb=>(hi.own b hb).1⟩
theorem Inst.at_here{C:Ctx}{s:St}{a:Act}{w:World}{η:Nat→Value}{Z T:FP}(hi:Inst C s a w η Z T):Inst hi.here s a w η Z T:=
 ⟨hi.defers,hi.rel,hi.ids,fun b hb=>⟨(hi.own b hb).1,(hi.own b hb).2.1,fun _=>hb⟩,⟨rfl,rfl,rfl,Nat.le_refl _,fun b _ _=>⟨rfl,Iff.rfl⟩⟩⟩
theorem Inst.from_here{C:Ctx}{s:St}{a:Act}{w:World}{η:Nat→Value}{Z T:FP}(hi:Inst C s a w η Z T){s':St}{a':Act}{w':World}{η':Nat→Value}{Z' T':FP}(h:Inst hi.here s' a' w' η' Z' T'):
 Inst C s' a' w' η' Z' T':=by
 refine⟨h.defers,h.rel,h.ids,fun b hb=> ?_,?_⟩
 ·obtain⟨h1,h2,h3⟩:=h.own b hb
  refine⟨h1,h2,fun hlt=> ?_⟩
  exact(hi.own b (h3 (Nat.lt_of_lt_of_le hlt hi.ok.size))).2.2 hlt
 ·refine⟨h.ok.os.trans hi.ok.os,h.ok.tape.trans hi.ok.tape,h.ok.output.trans hi.ok.output,Nat.le_trans hi.ok.size h.ok.size,fun b hlt hn=> ?_⟩
  obtain⟨g1,g2⟩:=hi.ok.old b hlt hn
  have hT:¬T b:=fun hb=>hn ((hi.own b hb).2.2 hlt)
  obtain⟨g3,g4⟩:=h.ok.old b (Nat.lt_of_lt_of_le hlt hi.ok.size) hT
  exact⟨g3.trans g1,g4.trans g2⟩
theorem Inst.agree{C:Ctx}{s:St}{a:Act}{w:World}{η:Nat→Value}{Z T:FP}(hi:Inst C s a w η Z T){s':St}{a':Act}{w':World}{η':Nat→Value}{Z' T':FP}(h:Inst hi.here s' a' w' η' Z' T'):
 LT Z w w'∧∀b,¬Z b→b<w.heap.size→¬Z' b:=by
 have key:∀b,¬Z b→b<w.heap.size→w'.heap[b]? =w.heap[b]? ∧¬Z' b:=fun b hz hlt=>by
  obtain⟨g1,g2⟩:=h.ok.old b hlt (fun hb=>hz (hi.own b hb).1)
  exact⟨g1,fun x=>hz (g2.1 x)⟩
 exact⟨fun b hz hlt=>(key b hz hlt).1,fun b hz hlt=>(key b hz hlt).2⟩
theorem Tl{P:Program}{Γ:FuncId→Nat→Option Sig}{C:Ctx}(hΓ:∀f k S,Γ f k=some S→Aj C.G P f S){E:TypeId→Option ES}{ov:Bool}{ops:Array Oper}{js:List Nat}{a0:Act}
 (hjs:∀(i:Nat) (o:Oper),ops[i]? =some o→GT js o.dst=true) {R:Act→World→Prop}:
 ∀(fuel:Nat) (listed:Array Bool) (s:St) (K:St→Prop) (a:Act) (w:World) (η:Nat→Value) (Z T:FP) (S:World→Prop),Kw P Γ E ov ops fuel listed s K→Inst C s a w η Z T→DB js a0 a→
 (∀w',w.heap.size≤w'.heap.size→LT Z w w'→S w')→(∀s' a' w',K s'→Rel C s' a' w'→DB js a0 a'→R a' w')→wpAnyH P .any ops (JK R) S fuel listed a w
 |0,listed,s,K,a,w,η,Z,T,S,h,hi,hf,hS,hQ=>by
  obtain⟨h1,h2⟩:=h
  exact⟨List.isEmpty_iff.1 h1,hQ s a w h2 ⟨η,Z,T,hi⟩ hf⟩
 |fuel+1,listed,s,K,a,w,η,Z,T,S,h,hi,hf,hS,hQ=>by
  unfold Kw at h
  split at h
  ·rename_i he
   unfold wpAnyH
   rw[he]
   exact⟨fun _=>hQ s a w h ⟨η,Z,T,hi⟩ hf,fun i hi=>(by cases hi)⟩
  ·rename_i i l he
   split at h
   ·rename_i j hns hj
    obtain⟨hm,hej⟩:=XC hj
    unfold Tk at hej
    split at hej
    rotate_left
    ·cases hej
    rename_i o ho
    split at hej
    rotate_left
    ·cases hej
    rename_i hg
    split at hej
    rotate_left
    ·cases hej
    rename_i hop
    have hav:=hjs j o ho
    simp only[DM,ho,hg,NC] at h
    have hp:EN P ov s.regs o.op (fun r=>Kw P Γ E ov ops fuel (listed.setIfInBounds j true) ⟨setR s.regs o.dst r,s.nx⟩ K):=by
     unfold IP at h
     cases heq:o.op<;>simp only[heq,Pd,Bool.false_eq_true] at hop<;>simp only[heq] at h ⊢ <;>exact h
    obtain⟨v,r,h1,h2,h3,h4⟩:=a4D hop hp hi.rel hi.ids
    have hw:Region.wanted o (yielded ops a.tmps)=true:=by simp [Region.wanted,hg]
    obtain⟨η2,Z2,T2,hi2⟩:=hi.at_here.put o.dst h2 h3
    obtain⟨hag,hzz⟩:=hi.agree hi2
    have hsz:=hi2.ok.size
    refine XD (S:=fun w'=>S w'∧LT Z w w') (fun w' h=>h.1) _ _ _ _ ?_
    refine wpAnyH_take ho hns hej (by rw[he];simpa using hm) (fun c a w h=>h) (.inl ⟨hw,fun w' hw'=>h1 w' hw'.2⟩) ⟨hS w (Nat.le_refl _) (fun _ _ _=>rfl),fun _ _ _=>rfl⟩ ?_
    refine Tl hΓ hjs fuel _ _ K _ w η2 Z2 T2 _ h4 (hi.from_here hi2) (hf.put hav v) (fun w' hle hA=> ?_) hQ
    have hA':LT Z w w':=fun b hz hlt=>hA b (hzz b hz hlt) hlt
    exact⟨hS w' hle hA',hA'⟩
   ·unfold wpAnyH
    rw[he]
    refine⟨fun h=>(by cases h),fun j hj=> ?_⟩
    refine XA (C:=hi.here) hΓ hjs j s _ a w (XB h j hj) ⟨η,Z,T,hi.at_here⟩ hf fun s' a' w' hk hr' hf'=> ?_
    obtain⟨η2,Z2,T2,hi2⟩:=hr'
    obtain⟨hag,hzz⟩:=hi.agree hi2
    have hsz:w.heap.size≤w'.heap.size:=hi2.ok.size
    refine⟨hS w' hsz hag,Tl hΓ hjs fuel _ s' K a' w' η2 Z2 T2 S hk (hi.from_here hi2) hf' (fun w2 hle hA=> ?_) hQ⟩
    exact hS w2 (Nat.le_trans hsz hle) fun b hz hlt=>(hA b (hzz b hz hlt) (Nat.lt_of_lt_of_le hlt hsz)).trans (hag b hz hlt)
theorem a5p{P:Program}{Γ:FuncId→Nat→Option Sig}{C:Ctx}(hΓ:∀f k S,Γ f k=some S→Aj C.G P f S){E:TypeId→Option ES}{ov:Bool}{id:Nat}{ops:Array Oper}{js:List Nat}{a0:Act}
 {Q:Exit→Act→World→Prop} {s:St} {K:St→Prop} {a:Act} {w:World} (hm:P.follows .mixedOrders=true) (h:Kw P Γ E ov ops ops.size (Array.replicate ops.size false) s K)
 (hjs:∀(i:Nat) (o:Oper),ops[i]? =some o→GT js o.dst=true)
 (hr:Rel C s a w) (hf:DB js a0 a) (hQ:∀s' a' w',K s'→Rel C s' a' w'→DB js a0 a'→Q .normal a' w'):(Code.region id ops true).wp P Q a w:=by
 refine wp_mono (Q:=JK fun a w=>Q .normal a w) (wp_region_any hm ?_) (fun e a w h=> ?_)
 ·obtain⟨η,Z,T,hi⟩:=hr.ext (w':= {w with drawn:=w.drawn+1}) ⟨rfl,rfl,rfl,Nat.le_refl _,fun _ _=>rfl⟩
  exact wpAny_of_held _ _ _ _ (Tl hΓ hjs _ _ s K a _ η Z T (fun _=>True) h hi hf (fun _ _ _=>trivial) hQ)
 ·cases e<;>simp only[JK] at h<;>exact h
def Tm(ops:Array Oper)(i:Nat):Bool:=match ops[i]? with
 |some o=>match o.guard with
  |none=>Pe o.op
  |some _=>false
 |none=>false
def Pt(ops:Array Oper)(oi:Oper):List Nat→Bool
 |[]=>true
 |j::l=>match ops[j]? with
  |some oj=>match oi.apart ops oj with
   |true=>Pt ops oi l
   |false=>false
  |none=>false
def Tn(ops:Array Oper)(i:Nat)(pre:List Nat):Bool:=match ops[i]? with
 |some oi=>Pt ops oi pre
 |none=>false
def Pu(ops:Array Oper):List Nat→List Nat→Option (List Nat×Nat×List Nat)
 |_,[]=>none
 |pre,i::rest=>match Tm ops i,Tn ops i pre with
  |true,true=>some (pre,i,rest)
  |_,_=>Pu ops (pre++[i]) rest
def Mi(P:Program)(Γ:FuncId→Nat→Option Sig)(E:TypeId→Option ES)(ov:Bool)(ops:Array Oper):Nat→List Nat→St→(St→Prop)→Prop
 |0,_,_,_=>False
 |_+1,[],s,K=>K s
 |n+1,j::rest,s,K=>match Pu ops [j] rest with
  |some (pre,i,post)=>DM P Γ E ov ops [i] s fun s'=>Mi P Γ E ov ops n (pre++post) s' K
  |none=>DM P Γ E ov ops [j] s fun s'=>Mi P Γ E ov ops n rest s' K
theorem XE{ops:Array Oper}:∀ {l pre pre' post:List Nat} {i:Nat},Pu ops pre l=some (pre',i,post)→Tm ops i=true∧Tn ops i pre'=true∧pre++l=pre'++i::post
 |[],pre,pre',post,i,h=>by cases h
 |j::l,pre,pre',post,i,h=>by
  unfold Pu at h
  split at h
  ·rename_i h1 h2
   simp only[Option.some.injEq,Prod.mk.injEq] at h
   obtain⟨rfl,rfl,rfl⟩:=h
   exact⟨h1,h2,rfl⟩
  ·obtain⟨h1,h2,h3⟩:=XE h
   exact⟨h1,h2,by rw[←h3];simp⟩
theorem XF{P:Program}{ops:Array Oper}{R:Act→World→Prop}{i:Nat}{oi:Oper}{v:Value}(hi:ops[i]? =some oi)(hs:Region.noSelect ops=true){post:List Nat}:
 ∀ {pre:List Nat} {a:Act} {w:World},Pt ops oi pre=true→Yields P ops oi v a→wpOps P ops (JK R) (pre++post) (a.put oi.dst v) w→wpOps P ops (JK R) (pre++i::post) a w
 |[],a,w,_,hy,h=>by
  rw[List.nil_append,wpOps_cons];exact hy.wpOp hi h
 |j::pre,a,w,hap,hy,h=>by
  unfold Pt at hap
  split at hap
  rotate_left
  ·cases hap
  rename_i oj hj
  split at hap
  rotate_left
  ·cases hap
  rename_i hapj
  rw[List.cons_append,wpOps_cons] at h ⊢
  have:=wpOp_put hj hapj (fun cs b=>Region.noSelect_spec hs i oi cs b hi) (fun cs b=>Region.noSelect_spec hs j oj cs b hj) (fun c a w h=>h) hy h
  exact wpOp_mono (fun a' w' h'=>XF hi hs hap h'.1 h'.2) this
theorem To{P:Program}{Γ:FuncId→Nat→Option Sig}{C:Ctx}(hΓ:∀f k S,Γ f k=some S→Aj C.G P f S){E:TypeId→Option ES}{ov:Bool}{ops:Array Oper}{js:List Nat}{a0:Act}
 (hs:Region.noSelect ops=true) (hjs:∀(i:Nat) (o:Oper),ops[i]? =some o→GT js o.dst=true) {R:Act→World→Prop}:
 ∀(n:Nat) (l:List Nat) (s:St) (K:St→Prop) (a:Act) (w:World),Mi P Γ E ov ops n l s K→Rel C s a w→DB js a0 a→
 (∀s' a' w',K s'→Rel C s' a' w'→DB js a0 a'→R a' w')→wpOps P ops (JK R) l a w
 |0,l,s,K,a,w,h,hr,hf,hQ=>h.elim
 |n+1,[],s,K,a,w,h,hr,hf,hQ=>hQ s a w h hr hf
 |n+1,j::rest,s,K,a,w,h,hr,hf,hQ=>by
  unfold Mi at h
  split at h
  ·rename_i pre i post hfi
   obtain⟨h1,h2,h3⟩:=XE hfi
   have h3:j::rest=pre++i::post:=h3
   rw[h3]
   unfold Tm at h1
   split at h1
   rotate_left
   ·cases h1
   rename_i o ho
   split at h1
   rotate_left
   ·cases h1
   rename_i hg
   unfold Tn at h2
   rw[ho] at h2
   simp only[DM,ho,hg,NC] at h
   obtain⟨η,Z,T,hi⟩:=hr
   have hp:EN P ov s.regs o.op (fun r=>Mi P Γ E ov ops n (pre++post) ⟨setR s.regs o.dst r,s.nx⟩ K):=by
    unfold IP at h
    unfold Pe at h1
    split at h1
    ·rename_i x heq
     simp only[heq] at h ⊢;exact h
    ·rename_i args ts heq
     simp only[heq] at h ⊢;exact h
    ·cases h1
   obtain⟨v,r,g1,g2,g3,g4⟩:=a4E h1 hp hi.rel hi.ids
   have hw:Region.wanted o (yielded ops a.tmps)=true:=by simp [Region.wanted,hg]
   exact XF ho hs h2 (.inl ⟨hw,g1⟩) (To hΓ hs hjs n _ _ K _ w g4 (hi.put o.dst g2 g3) (hf.put (hjs i o ho) v) hQ)
  ·rw[wpOps_cons]
   exact XA hΓ hjs j s _ a w h hr hf fun s' a' w' hk hr' hf'=>To hΓ hs hjs n _ s' K a' w' hk hr' hf' hQ
end Go.Eng
end
section
set_option linter.unusedVariables false
set_option linter.unusedSimpArgs false
namespace Go.Eng
inductive Ex where
 |normal
 |exit (id:Nat)
 |ret
def Ex.to:Ex→Exit
 | .normal=> .normal
 | .exit id=> .exit id
 | .ret=> .ret
structure LS:Type 1 where
 ι:Type
 inv:ι→Prop
 regs:ι→List (Nat×AV)
 als:List (Nat×Nat)
 meas:ι→Nat
 sub:ι→List (Nat×LS):=fun _=>[]
 clos:List (Nat×Fn×Nat):=[]
def Tp:List (Nat×LS)→(Nat→Option LS)→Nat→Option LS
 |[],L=>L
 |(g,S)::l,L=>fun f=>match Nat.beq g f with
  |true=>some S
  |false=>Tp l L f
def ND:List (Nat×AV)→List AV→(List AV→Prop)→Prop
 |[],regs,K=>K regs
 |(j,e)::rest,regs,K=>DH false e regs (Bi regs (.tmp j)) fun regs'=>ND rest regs' K
def NE(regs:List AV):List (Nat×Nat)→Prop
 |[]=>True
 |(s,j)::rest=>(match Bi regs (.tmp s),Bi regs (.tmp j) with
    | .al a,.al b=>match Nat.beq a b with
      |true=>True
      |false=>False
    |_,_=>False)∧NE regs rest
def Kx:List AV→List Nat→List AV→List AV
 |regs,j::js,a::azs=>Kx (regs.set j a) js azs
 |regs,_,_=>regs
def NF:List AV→List (Nat×Nat)→List AV
 |regs,[]=>regs
 |regs,(s,j)::rest=>NF (regs.set s (Bi regs (.tmp j))) rest
def Pv:List (Nat×Fn×Nat)→List AV→List AV
 |[],regs=>regs
 |(p,fn,j)::l,regs=>Pv l (match regs[j]? with
  |some (.box id _)=>regs.set p (.clo fn [.al id])
  |_=>regs)
def Tq(caps:List (Nat×Fn×Nat))(s:St):St:=match caps with
 |[]=>s
 |c::cs=>⟨Pv (c::cs) s.regs,s.nx⟩
def Pw(regs:List AV):List (Nat×Fn×Nat)→Prop
 |[]=>True
 |(s,fn,j)::rest=>(match Bi regs (.tmp s),Bi regs (.tmp j) with
    | .clo fn' [.al a],.al b=>match Nx fn' fn,Nat.beq a b with
      |true,true=>True
      |_,_=>False
    |_,_=>False)∧Pw regs rest
def Ky(N:Nat)(L:LS)(i:L.ι):St:=
 ⟨NF (Kx (List.replicate N .top) ((L.regs i).map (·.1)) (Cr 0 ((L.regs i).map (·.2))).1) L.als,(Cr 0 ((L.regs i).map (·.2))).2⟩
def Kz(N:Nat)(L:LS)(i:L.ι):St:=Tq L.clos (Ky N L i)
def Tr(s:St)(L:LS)(i:L.ι):Prop:=ND (L.regs i) s.regs (fun _=>True)∧NE s.regs L.als
def enter(s:St)(L:LS)(i:L.ι):Prop:=match L.clos with
 |[]=>ND (L.regs i) s.regs (fun _=>True)∧NE s.regs L.als
 |c::cs=>Tr s L i∧Pw s.regs (c::cs)
theorem a5q{s:St}{L:LS}{i:L.ι}(h:enter s L i):Tr s L i∧Pw s.regs L.clos:=by
 unfold enter at h
 cases hc:L.clos with
 |nil=>rw[hc] at h;exact⟨h,trivial⟩
 |cons c cs=>rw[hc] at h;exact h
theorem XG{η:Nat→Value}{w:World}{n:Nat}{a:Act}:∀(es:List (Nat×AV)) (regs:List AV) (K:List AV→Prop),ND es regs K→
 ∀(Z B:FP),Aq Z η w regs a.tmps.toList B→AX n regs→(∀b,B b→Z b)→
 ∃Z' A',AZ Z' w (es.map (·.2)) (es.map fun p=>a.eval (.tmp p.1)) A'∧(∀b,Z' b→Z b)∧(∀b,Z b→¬Z' b→B b)∧(∀b,A' b→B b)∧(∀b,A' b→Z' b)
 |[],regs,K,h,Z,B,hR,hI,hB=>⟨Z,fun _=>False,by simp [AZ,emp],fun _ h=>h,fun _ h h'=>(h' h).elim,fun _ h=>h.elim,fun _ h=>h.elim⟩
 |(j,e)::es,regs,K,h,Z,B,hR,hI,hB=>by
  unfold ND at h
  obtain⟨Z1,A1,B1,r1,ho⟩:=WX e regs _ _ h Z a.tmps.toList (a.eval (.tmp j)) B (fun _=>False) B hR hI (EB hR (.tmp j)) (GM hI (.tmp j)) (Cj B)
  obtain⟨Z2,A2,k1,k2,k3,k4,k5⟩:=XG es r1 K ho.k Z1 B1 ho.rel ho.ids (fun b hb=>ho.ownB rfl b hb (hB b (ho.part b (.inr hb))))
  refine⟨Z2,fun b=>A1 b∨A2 b,?_,fun b hb=>ho.zz b (k2 b hb),?_,?_,?_⟩
  ·simp only[List.map_cons,AZ]
   refine⟨_,_,A1,A2,rfl,⟨fun _=>Iff.rfl,fun b x y=>ho.dis b x (k4 b y)⟩,FO (GR k2) _ _ _ (fun _ _=>rfl) ho.got,k1⟩
  ·intro b hz hz2
   by_cases hz1:Z1 b
   ·exact ho.part b (.inr (k3 b hz1 hz2))
   ·exact ho.gone b hz hz1
  ·intro b hb
   exact hb.elim (fun hb=>ho.part b (.inl hb)) (fun hb=>ho.part b (.inr (k4 b hb)))
  ·intro b hb
   rcases hb with hb|hb
   ·have hz1:=ho.ownA b hb (hB b (ho.part b (.inl hb)))
    exact Classical.byContradiction fun hn=>ho.dis b hb (k3 b hz1 hn)
   ·exact k5 b hb
theorem Ts{Z:FP}{η:Nat→Value}{w:World}{n:Nat}{a:Act}:∀(js:List Nat) (azs regs:List AV) (A B:FP),Aq Z η w regs a.tmps.toList B→AX n regs→js.length=azs.length→
 Aq Z η w azs (js.map fun j=>a.eval (.tmp j)) A→AX n azs→(∀b,A b→¬B b)→
 ∃S,(∀b,S b→A b∨B b)∧Aq Z η w (Kx regs js azs) a.tmps.toList S∧AX n (Kx regs js azs)
 |[],azs,regs,A,B,hr,hi,hl,ha,hai,hd=>⟨B,fun _ h=> .inr h,by simpa [Kx] using hr,by simpa [Kx] using hi⟩
 |j::js,[],regs,A,B,hr,hi,hl,ha,hai,hd=>by simp at hl
 |j::js,x::azs,regs,A,B,hr,hi,hl,ha,hai,hd=>by
  simp only[List.map_cons,Aq] at ha
  obtain⟨v,cs',A1,A2,e,hj,h1,h2⟩:=ha
  simp only[List.cons.injEq] at e
  obtain⟨rfl,rfl⟩:=e
  simp only[Kx]
  rcases Nat.lt_or_ge j regs.length with hlt|hge
  ·obtain⟨S1,hS1,hr1⟩:=Sd hr hlt h1 (fun b hb=>hd b ((hj.1 b).2 (.inl hb)))
   have hset:a.tmps.toList.set j (a.eval (.tmp j))=a.tmps.toList:=by
    have hlen:=Fa _ _ _ hr
    have hj2:j<a.tmps.size:=by simp at hlen;omega
    apply List.ext_getElem?
    intro i
    rw[List.getElem?_set]
    split
    ·rename_i h1;subst h1
     simp [Act.eval,hj2,Array.getD_eq_getD_getElem?]
    ·rfl
   rw[hset] at hr1
   obtain⟨S,hS,g1,g2⟩:=Ts js azs _ A2 S1 hr1 (IJ _ _ _ hi hai.1) (by simpa using hl) h2 hai.2 (fun b h h'=>(hS1 b h').elim (fun h'=>hd b ((hj.1 b).2 (.inr h)) h') (fun h'=>hj.2 b h' h))
   exact⟨S,fun b hb=>(hS b hb).elim (fun h=> .inl ((hj.1 b).2 (.inr h))) (fun h=>(hS1 b h).elim .inr (fun h=> .inl ((hj.1 b).2 (.inl h)))),g1,g2⟩
  ·rw[List.set_eq_of_length_le hge]
   obtain⟨S,hS,g1,g2⟩:=Ts js azs regs A2 B hr hi (by simpa using hl) h2 hai.2 (fun b h h'=>hd b ((hj.1 b).2 (.inr h)) h')
   exact⟨S,fun b hb=>(hS b hb).elim (fun h=> .inl ((hj.1 b).2 (.inr h))) .inr,g1,g2⟩
theorem XH{Z:FP}{η:Nat→Value}{w:World}{n:Nat}{a:Act}:∀(als:List (Nat×Nat)) (regs:List AV) (B:FP),Aq Z η w regs a.tmps.toList B→AX n regs→
 (∀p∈als,a.eval (.tmp p.1)=a.eval (.tmp p.2))→∃S,(∀b,S b→B b)∧Aq Z η w (NF regs als) a.tmps.toList S∧AX n (NF regs als)
 |[],regs,B,hr,hi,h=>⟨B,fun _ h=>h,hr,hi⟩
 |(s,j)::als,regs,B,hr,hi,h=>by
  simp only[NF]
  have hv:=EB hr (.tmp j)
  have he:=h (s,j) (by simp)
  simp only at he
  rw[←he] at hv
  obtain⟨S1,hS1,hr1⟩:=Ni hr s hv
  have hset:s<regs.length→a.tmps.toList.set s (a.eval (.tmp s))=a.tmps.toList:=by
   intro hlt
   have hlen:=Fa _ _ _ hr
   have hj2:s<a.tmps.size:=by simp at hlen;omega
   apply List.ext_getElem?
   intro i
   rw[List.getElem?_set]
   split
   ·rename_i h1;subst h1
    simp [Act.eval,hj2,Array.getD_eq_getD_getElem?]
   ·rfl
  have hr2:Aq Z η w (regs.set s (Bi regs (.tmp j))) a.tmps.toList S1:=by
   rcases Nat.lt_or_ge s regs.length with hlt|hge
   ·rw[hset hlt] at hr1;exact hr1
   ·rw[List.set_eq_of_length_le (l:=a.tmps.toList) (by rw[Fa _ _ _ hr];exact hge)] at hr1;exact hr1
  obtain⟨S,hS,g1,g2⟩:=XH als _ S1 hr2 (IJ _ _ _ hi (GM hi (.tmp j))) (fun p hp=>h p (by simp [hp]))
  exact⟨S,fun b hb=>hS1 b (hS b hb),g1,g2⟩
theorem XI{Z:FP}{η:Nat→Value}{w:World}{a:Act}{regs:List AV}{B:FP}(hr:Aq Z η w regs a.tmps.toList B):∀als:List (Nat×Nat),NE regs als→
 ∀p∈als,a.eval (.tmp p.1)=a.eval (.tmp p.2)
 |[],_,p,hp=>by simp at hp
 |(s,j)::als,h,p,hp=>by
  simp only[NE] at h
  rcases List.mem_cons.1 hp with rfl|hp
  ·have h1:=EB hr (.tmp s)
   have h2:=EB hr (.tmp j)
   have h:=h.1
   split at h
   ·rename_i x y hx hy
    split at h
    ·rename_i hb
     have hb:=Nat.eq_of_beq_eq_true hb
     rw[hx] at h1;rw[hy] at h2
     simp only[Ad] at h1 h2
     simp only
     rw[h1.1,h2.1,hb]
    ·exact h.elim
   ·exact h.elim
  ·exact XI hr als h.2 p hp
theorem XJ(Z:FP)(η:Nat→Value)(w:World):∀(l:List Value),Aq Z η w (List.replicate l.length .top) l (fun _=>False)
 |[]=>by simp [Aq,emp]
 |v::l=>by
  simp only[List.length_cons,List.replicate_succ,Aq]
  exact⟨v,l,_,_,rfl,Cj _,AW,XJ Z η w l⟩
theorem XK(n:Nat):∀N,AX n (List.replicate N .top)
 |0=>trivial
 |N+1=>⟨trivial,XK n N⟩
theorem XL{n:Nat}:∀(azs:List AV) (p:Nat) (a:AV),AX n azs→azs[p]? =some a→AP n a
 |[],p,a,h,ha=>by simp at ha
 |x::azs,0,a,h,ha=>by simp at ha;subst ha;exact h.1
 |x::azs,p+1,a,h,ha=>by simp only[List.getElem?_cons_succ] at ha;exact XL azs p a h.2 ha
theorem Px{C:Ctx}{a:Act}{w:World}{η:Nat→Value}{Z:FP}{n:Nat}:∀(caps:List (Nat×Fn×Nat)) (regs:List AV) (T:FP),Inst C ⟨regs,n⟩ a w η Z T→
 JH caps a.tmps.toList→∃T',Inst C ⟨Pv caps regs,n⟩ a w η Z T'
 |[],regs,T,h,_=>⟨T,h⟩
 |(p,fn,j)::l,regs,T,h,hc=>by
  obtain⟨⟨v,h1,h2⟩,h3⟩:=hc
  unfold Pv
  split
  ·rename_i id c hj
   obtain⟨u,B,g1,g2⟩:=Pf _ _ _ _ _ h.rel hj
   have hi:=XL _ _ _ h.ids hj
   simp only[Ad] at g2
   obtain⟨hu,b,arr,ty,S1,hp,_⟩:=g2
   rw[h2] at g1
   have hvu:v=u:=Option.some.inj g1
   have hnew:Ad Z η w (.clo fn [.al id]) (FM fn [v]) (fun _=>False):=by
    simp only[Ad,Aq]
    refine⟨[v],rfl,v,[],_,_,rfl,Cj _,⟨hvu.trans hu,?_,AW⟩,rfl,AW⟩
    rw[hvu,hp];trivial
   obtain⟨S',hs,hr'⟩:=Ni h.rel p hnew
   have hset:a.tmps.toList.set p (FM fn [v])=a.tmps.toList:=by
    apply List.ext_getElem?
    intro i
    rw[List.getElem?_set]
    split
    ·rename_i e;subst e;split
     ·exact h1.symm
     ·rename_i hlt;rw[List.getElem?_eq_none (by omega)]
    ·rfl
   rw[hset] at hr'
   exact Px l _ S' ⟨h.defers,hr',IJ _ _ _ h.ids (by simp only[AP,AX];exact⟨hi.1,trivial⟩),fun b hb=>h.own b (hs b hb),h.ok⟩ h3
  ·exact Px l regs T h h3
theorem XM{Z:FP}{η:Nat→Value}{w:World}{regs:List AV}{a:Act}{T:FP}(hR:Aq Z η w regs a.tmps.toList T):∀l,Pw regs l→JH l a.tmps.toList
 |[],_=>trivial
 |(s,fn,j)::l,h=>by
  obtain⟨h1,h2⟩:=h
  refine⟨?_,XM hR l h2⟩
  have hs:=EB (a:=a) hR (.tmp s)
  have hj:=EB (a:=a) hR (.tmp j)
  split at h1
  ·rename_i fn' id id' e1 e2
   split at h1
   ·rename_i q1 q2
    have q1:=SI q1;have q2:=Nat.eq_of_beq_eq_true q2
    subst q1;subst q2
    rw[e1] at hs;rw[e2] at hj
    simp only[Ad,Aq] at hs hj
    obtain⟨cs,hsv,v',cs',A',B'',rfl,_,⟨rfl,_,_⟩,rfl,_⟩:=hs
    obtain⟨hjv,hjc,_⟩:=hj
    have get:∀(k:Nat) (v:Value),a.eval (.tmp k)=v→Db v→a.tmps.toList[k]? =some v:=by
     intro k v hv hc
     simp only[Act.eval,Array.getD_eq_getD_getElem?] at hv
     rw[Array.getElem?_toList]
     cases hx:a.tmps[k]? with
     |none=>rw[hx] at hv;simp only[Option.getD_none] at hv;subst hv;exact hc.elim
     |some u=>rw[hx] at hv;simp only[Option.getD_some] at hv;rw[hv]
    exact⟨_,get s _ hsv Ng,get j _ hjv (by rw[←hjv];exact hjc)⟩
   ·exact h1.elim
  ·exact h1.elim
theorem a5r{C:Ctx}{s:St}{a:Act}{w:World}(h:Rel C s a w){L:LS}{i:L.ι}(he:Tr s L i):Rel C (Ky a.tmps.size L i) a w:=by
 obtain⟨η,Z,T,hi⟩:=h
 obtain⟨Z',A',k1,k2,k3,k4,k5⟩:=XG (L.regs i) s.regs _ he.1 Z T hi.rel hi.ids (fun b hb=>(hi.own b hb).1)
 have hal:=XI hi.rel L.als he.2
 obtain⟨p1,p2,η1,p3,p4⟩:=Ie ((L.regs i).map (·.2)) 0 _ A' η k1
 have hst:=p4 η1 (fun _ _=>rfl)
 have hst':=CO (n:=(Cr 0 ((L.regs i).map (·.2))).2) (Z':=fun c=>Z' c∨w.heap.size≤c) (w':=w) (η':=η1) (fun b hb hl=>⟨fun x=>x.elim hb (fun x=>by omega),rfl⟩) (fun _ _=>rfl) _ _ _ p2 (fun _ _=>rfl) hst
 have htop:=XJ (fun c=>Z' c∨w.heap.size≤c) η1 w a.tmps.toList
 obtain⟨S1,hS1,q1,q2⟩:=Ts (a:=a) (n:=(Cr 0 ((L.regs i).map (·.2))).2) ((L.regs i).map (·.1)) _ _ A' (fun _=>False) htop (XK _ _) (by
  have:∀(l:List AV) (n:Nat),(Cr n l).1.length=l.length:=by
   intro l
   induction l with
   |nil=>intro n;rfl
   |cons x l ih=>intro n;simp [Cr,ih]
  rw[this];simp) (by rw[List.map_map];exact hst') p2 (fun b _ h=>h)
 obtain⟨S2,hS2,r1,r2⟩:=XH L.als _ S1 q1 q2 hal
 have:=hi.next (A1:=fun _=>False) (Z1:=Z') k2 k3 (fun _ h=>h.elim) (w':=w) ⟨rfl,rfl,rfl,Nat.le_refl _,fun _ _ _=>rfl⟩ (regs':=(Ky a.tmps.size L i).regs) (n':=(Ky a.tmps.size L i).nx) (η':=η1) (S':=S2) (a':=a) rfl
  (by simpa [Ky] using r1) (by simpa [Ky] using r2) (fun b hb=>by
    have hA:A' b:=(hS1 b (hS2 b hb)).resolve_right (fun x=>x)
    exact⟨.inl (k5 b hA),.inl (k4 b hA),(hi.own b (k4 b hA)).2.1⟩)
 exact⟨η1,_,S2,this⟩
theorem Tt{C:Ctx}{s:St}{a:Act}{w:World}(h:Rel C s a w){L:LS}{i:L.ι}(he:enter s L i):Rel C (Kz a.tmps.size L i) a w:=by
 obtain⟨he1,he2⟩:=a5q he
 have h0:=a5r h he1
 unfold Kz
 cases hc:L.clos with
 |nil=>exact h0
 |cons c cs=>
  rw[hc] at he2
  obtain⟨η,Z,T,hi⟩:=h
  have hcap:=XM hi.rel _ he2
  obtain⟨η2,Z2,T2,hi2⟩:=h0
  obtain⟨T',h'⟩:=Px (c::cs) (Ky a.tmps.size L i).regs T2 hi2 hcap
  exact⟨η2,Z2,T',h'⟩
def NG:Code→Nat
 | .region id _ _=>id
 | .seq x _=>NG x
 | .block _ x=>NG x
 | .loop x=>NG x
 |_=>0
def Fe(js:List Nat):Code→Bool
 | .region _ ops _=>ops.toList.all fun o=>GT js o.dst
 | .seq x y=>Fe js x&&Fe js y
 | .cond _ x y=>Fe js x&&Fe js y
 | .block _ x=>Fe js x
 | .loop x=>Fe js x
 |_=>true
def Fu(P:Program)(Γ:FuncId→Nat→Option Sig)(E:TypeId→Option ES)(ov:Bool)(N:Nat)(L:Nat→Option LS):Code→St→(Ex→St→Prop)→Prop
 | .skip,s,K=>K .normal s
 | .label _,s,K=>K .normal s
 | .ret,s,K=>K .ret s
 | .exit id,s,K=>K (.exit id) s
 | .region id ops draw,s,K=>match draw with
   |false=>match L (300000+id) with
    |some _=>Region.noSelect ops=true∧Mi P Γ E ov ops (ops.size+1) (List.range ops.size) s (K .normal)
    |none=>DM P Γ E ov ops (List.range ops.size) s (K .normal)
   |true=>match L (100000+id) with
    |some D=>P.follows .mixedOrders=true∧Kw P Γ E ov ops ops.size (Array.replicate ops.size false) s (fun s'=>∃i,D.inv i∧enter s' D i)∧∀i,D.inv i→K .normal (Kz N D i)
    |none=>P.follows .mixedOrders=true∧Region.lexB .any ops=true∧vcQ P Γ ov ops ops.toList s (K .normal)
 | .seq x y,s,K=>match L (200000+NG y) with
   |some D=>(Fu P Γ E ov N L x s fun e s'=>match e with
    | .normal=>∃i,D.inv i∧enter s' D i
    | .exit i=>K (.exit i) s'
    | .ret=>K .ret s')∧∀i,D.inv i→Fu P Γ E ov N (Tp (D.sub i) L) y (Kz N D i) K
   |none=>Fu P Γ E ov N L x s fun e s'=>match e with
    | .normal=>Fu P Γ E ov N L y s' K
    | .exit i=>K (.exit i) s'
    | .ret=>K .ret s'
 | .cond c x y,s,K=>match c with
   | .tmp d=>match s.regs[d]? with
     |some (.bool b)=>Aa b (Fu P Γ E ov N L x ⟨s.regs.set d (.bool true),s.nx⟩ K) (Fu P Γ E ov N L y ⟨s.regs.set d (.bool false),s.nx⟩ K)
     |_=>False
   |_=>False
 | .block id x,s,K=>Fu P Γ E ov N L x s fun e s'=>match e with
   | .normal=>K .normal s'
   | .exit i=>match Nat.beq i id with
     |true=>K .normal s'
     |false=>K (.exit i) s'
   | .ret=>K .ret s'
 | .loop x,s,K=>match L (NG x) with
   |some S=>(∃i,S.inv i∧enter s S i)∧∀i,S.inv i→Fu P Γ E ov N (Tp (S.sub i) L) x (Kz N S i) fun e s'=>match e with
    | .normal=>∃i',S.inv i'∧S.meas i'<S.meas i∧enter s' S i'
    | .exit k=>K (.exit k) s'
    | .ret=>K .ret s'
   |none=>False
 |_,_,_=>False
theorem KA{p:Nat→Prop}(h:∃n,p n):∃n,p n∧∀m,p m→n≤m:=by
 obtain⟨n,hn⟩:=h
 induction n using Nat.strongRecOn with
 |_ n ih=>
  by_cases hm:∃m,m<n∧p m
  ·obtain⟨m,h1,h2⟩:=hm;exact ih m h1 h2
  ·exact⟨n,hn,fun m hp=>Nat.le_of_not_lt fun hl=>hm ⟨m,hl,hp⟩⟩
theorem IQ{P:Program}{Γ:FuncId→Nat→Option Sig}{C:Ctx}(hΓ:∀f k S,Γ f k=some S→Aj C.G P f S){E:TypeId→Option ES}{ov:Bool}{js:List Nat}{a0:Act}:
 ∀(c:Code) (L:Nat→Option LS) (s:St) (K:Ex→St→Prop) (Q:Exit→Act→World→Prop) (a:Act) (w:World),Fu P Γ E ov a0.tmps.size L c s K→Fe js c=true→Rel C s a w→DB js a0 a→
 (∀e s' a' w',K e s'→Rel C s' a' w'→DB js a0 a'→Q e.to a' w')→c.wp P Q a w
 | .skip,L,s,K,Q,a,w,h,hd,hr,hf,hQ=>wp_skip (hQ .normal s a w h hr hf)
 | .label _,L,s,K,Q,a,w,h,hd,hr,hf,hQ=>wp_label (hQ .normal s a w h hr hf)
 | .ret,L,s,K,Q,a,w,h,hd,hr,hf,hQ=>wp_ret (hQ .ret s a w h hr hf)
 | .exit id,L,s,K,Q,a,w,h,hd,hr,hf,hQ=>wp_exit (hQ (.exit id) s a w h hr hf)
 | .region id ops draw,L,s,K,Q,a,w,h,hd,hr,hf,hQ=>by
   simp only[Fu] at h
   cases draw
   ·simp only at h
    have hjs0:∀(i:Nat) (o:Oper),ops[i]? =some o→GT js o.dst=true:=by
     intro i o ho
     simp only[Fe] at hd
     have hmem:o∈ops.toList:=List.mem_of_getElem? (i:=i) (by simpa [Array.getElem?_toList] using ho)
     exact List.all_eq_true.1 hd o hmem
    split at h
    ·refine wp_mono (Q:=JK fun a w=>Q .normal a w) (wp_region (To hΓ (js:=js) (a0:=a0) h.1 hjs0 _ _ s _ a w h.2 hr hf fun s' a' w' hk hr' hf'=>hQ .normal s' a' w' hk hr' hf')) (fun e a w h=> ?_)
     cases e<;>simp only[JK] at h<;>exact h
    refine wp_region (Mg hΓ (js:=js) (a0:=a0) ?_ _ s _ a w h hr hf fun s' a' w' hk hr' hf'=>hQ .normal s' a' w' hk hr' hf')
    intro i o ho
    simp only[Fe] at hd
    have hmem:o∈ops.toList:=List.mem_of_getElem? (i:=i) (by simpa [Array.getElem?_toList] using ho)
    exact List.all_eq_true.1 hd o hmem
   ·simp only at h
    split at h
    ·rename_i D hD
     obtain⟨h1,h2,h3⟩:=h
     refine a5p hΓ (js:=js) (a0:=a0) h1 h2 ?_ hr hf fun s' a' w' hk hr' hf'=> ?_
     ·intro i o ho
      simp only[Fe] at hd
      have hmem:o∈ops.toList:=List.mem_of_getElem? (i:=i) (by simpa [Array.getElem?_toList] using ho)
      exact List.all_eq_true.1 hd o hmem
     ·obtain⟨i,hi,he⟩:=hk
      have hh:=Tt hr' he
      rw[hf'.1] at hh
      exact hQ .normal _ a' w' (h3 i hi) hh hf'
    obtain⟨h1,h2,h3⟩:=h
    simp only[Fe] at hd
    exact a5o hΓ (js:=js) (a0:=a0) h1 h2 h3 (fun o ho=>List.all_eq_true.1 hd o ho) hr hf fun s' a' w' hk hr' hf'=>hQ .normal s' a' w' hk hr' hf'
 | .seq x y,L,s,K,Q,a,w,h,hd,hr,hf,hQ=>by
   simp only[Fu] at h
   simp only[Fe,Bool.and_eq_true] at hd
   split at h
   ·rename_i D hD
    obtain⟨h1,h2⟩:=h
    refine wp_seq (IQ hΓ x L s _ _ a w h1 hd.1 hr hf ?_)
    intro e s' a' w' hk hr' hf'
    cases e with
    |normal=>
     obtain⟨i,hi,he⟩:=hk
     have hh:=Tt hr' he
     rw[hf'.1] at hh
     exact IQ hΓ y _ _ K Q a' w' (h2 i hi) hd.2 hh hf' hQ
    |exit i=>exact hQ (.exit i) s' a' w' hk hr' hf'
    |ret=>exact hQ .ret s' a' w' hk hr' hf'
   ·refine wp_seq (IQ hΓ x L s _ _ a w h hd.1 hr hf ?_)
    intro e s' a' w' hk hr' hf'
    cases e with
    |normal=>exact IQ hΓ y L s' K Q a' w' hk hd.2 hr' hf' hQ
    |exit i=>exact hQ (.exit i) s' a' w' hk hr' hf'
    |ret=>exact hQ .ret s' a' w' hk hr' hf'
 | .cond c x y,L,s,K,Q,a,w,h,hd,hr,hf,hQ=>by
   simp only[Fu] at h
   simp only[Fe,Bool.and_eq_true] at hd
   split at h
   ·rename_i d
    split at h
    ·rename_i b hb
     obtain⟨hr1,ht⟩:=hr.know hb
     have hc:a.eval (.tmp d)= .bool b:=by simp [Act.eval,Array.getD_eq_getD_getElem?,ht]
     unfold Aa at h
     cases b
     ·exact wp_cond_false hc (IQ hΓ y L _ K Q a w h hd.2 hr1 hf hQ)
     ·exact wp_cond_true hc (IQ hΓ x L _ K Q a w h hd.1 hr1 hf hQ)
    ·exact h.elim
   ·exact h.elim
 | .block id x,L,s,K,Q,a,w,h,hd,hr,hf,hQ=>by
   simp only[Fu] at h
   simp only[Fe] at hd
   refine wp_block (IQ hΓ x L s _ _ a w h hd hr hf ?_)
   intro e s' a' w' hk hr' hf'
   cases e with
   |normal=>exact hQ .normal s' a' w' hk hr' hf'
   |exit i=>
    simp only[Ex.to,Exit.inBlock]
    simp only at hk
    split at hk
    ·rename_i hb
     rw[if_pos (Nat.eq_of_beq_eq_true hb)]
     exact hQ .normal s' a' w' hk hr' hf'
    ·rename_i hb
     rw[if_neg (Nat.ne_of_beq_eq_false hb)]
     exact hQ (.exit i) s' a' w' hk hr' hf'
   |ret=>exact hQ .ret s' a' w' hk hr' hf'
 | .loop x,L,s,K,Q,a,w,h,hd,hr,hf,hQ=>by
   simp only[Fu] at h
   simp only[Fe] at hd
   split at h
   ·rename_i S hS
    obtain⟨⟨i0,hi0,he0⟩,hround⟩:=h
    let p:Act→World→Nat→Prop:=fun a w n=>∃i,S.inv i∧S.meas i=n∧Rel C (Kz a0.tmps.size S i) a w∧DB js a0 a
    have hent:∀(s:St) (a:Act) (w:World) (i:S.ι),Rel C s a w→DB js a0 a→enter s S i→Rel C (Kz a0.tmps.size S i) a w:=by
     intro s a w i hr hf he
     have:=Tt hr he
     rwa [hf.1] at this
    refine wp_loop (fun a w=>∃n,p a w n) (fun a w=>open Classical in if h:∃n,p a w n then(KA h).choose else 0) ⟨_,i0,hi0,rfl,hent s a w i0 hr hf he0,hf⟩ ?_
    intro a w hI
    have hμ:(open Classical in if h:∃n,p a w n then(KA h).choose else 0)=(KA hI).choose:=dif_pos hI
    obtain⟨⟨i,h1,h2,h3,h4⟩,hmin⟩:=(KA hI).choose_spec
    refine IQ hΓ x _ _ _ _ a w (hround i h1) hd h3 h4 ?_
    intro e s' a' w' hk hr' hf'
    cases e with
    |normal=>
     obtain⟨i',g1,g2,g3⟩:=hk
     have hp':p a' w' (S.meas i'):=⟨i',g1,rfl,hent s' a' w' i' hr' hf' g3,hf'⟩
     refine⟨⟨_,hp'⟩,?_⟩
     have hμ':(open Classical in if h:∃n,p a' w' n then(KA h).choose else 0)=(KA ⟨_,hp'⟩).choose:=dif_pos ⟨_,hp'⟩
     have h5:=(KA ⟨_,hp'⟩).choose_spec.2 _ hp'
     simp only[hμ,hμ']
     rw[h2] at g2
     exact Nat.lt_of_le_of_lt h5 g2
    |exit k=>exact hQ (.exit k) s' a' w' hk hr' hf'
    |ret=>exact hQ .ret s' a' w' hk hr' hf'
   ·exact h.elim
 | .rangeFunc _ _ _ _,L,s,K,Q,a,w,h,hd,hr,hf,hQ=>h.elim
 | .scope _,L,s,K,Q,a,w,h,hd,hr,hf,hQ=>h.elim
 | .goto _,L,s,K,Q,a,w,h,hd,hr,hf,hQ=>h.elim
 | .refuse _,L,s,K,Q,a,w,h,hd,hr,hf,hQ=>h.elim
end Go.Eng
end
section
set_option linter.unusedVariables false
set_option linter.unusedSimpArgs false
namespace Go.Eng
def a5s:AV→Bool
 | .box _ _=>true
 | .bv _ _=>true
 |_=>false
def Tu:List AV→Nat→List Nat
 |[],_=>[]
 |a::azs,j=>match a5s a with
  |true=>j::Tu azs (j+1)
  |false=>Tu azs (j+1)
def JL(js:List Nat):Nat→List AV→Bool
 |_,[]=>true
 |j,o::os=>match o with
  | .top=>JL js (j+1) os
  | .box _ _=>match js.elem j with
    |true=>JL js (j+1) os
    |false=>false
  | .bv _ _=>match js.elem j with
    |true=>JL js (j+1) os
    |false=>false
  | .sl true _ _ _ _ _=>match js.elem j with
    |true=>JL js (j+1) os
    |false=>false
  |_=>false
def Tv(S:Sig)(x:S.X):List Nat:=Tu (S.args x) 0++S.fixed
def KB(P:Program)(regs:List AV):List ResultVar→(List AV→Prop)→Prop
 |[],K=>K []
 | .tmp t::rs,K=>KB P regs rs fun azs=>K (Bi regs (.tmp t)::azs)
 | .cell a t::rs,K=>Nq P regs t (Bi regs (.tmp a)) fun r=>KB P regs rs fun azs=>K (r::azs)
def JM:List AV→AV
 |[a]=>a
 |azs=> .tup azs
def NH(N:Nat)(args:List AV):St:=⟨(Cr 0 args).1++List.replicate (N-args.length) (.tup []),(Cr 0 args).2⟩
def XN(P:Program)(S:Sig)(x:S.X)(rs:List ResultVar)(n:Nat)(s:St):Prop:=
 KB P s.regs rs fun azs=>∃y,S.post x y∧match JL (Tv S x) 0 (S.outs x y) with
  |true=>DI false (S.res x y::S.outs x y) s.regs (JM azs::(List.range n).map fun j=>Bi s.regs (.tmp j)) fun _=>True
  |false=>False
def a5t(P:Program)(S:Sig)(x:S.X)(rs:List ResultVar)(n:Nat):Ex→St→Prop
 | .exit _,_=>False
 |_,s=>XN P S x rs n s
def Py(P:Program)(Γ:FuncId→Nat→Option Sig)(E:TypeId→Option ES)(ov:Bool)(L:Nat→Option LS)(N:Nat)(results:List ResultVar)(c:Code)(S:Sig)(x:S.X):Prop:=
 match Nat.ble (S.args x).length N,Fe (Tv S x) c with
 |true,true=>SK S.keep (∀y,S.post x y→Hq (S.res x y::S.outs x y))∧Fu P Γ E ov N L c (Tq S.caps (NH N (S.args x))) (a5t P S x results (S.args x).length)
 |_,_=>False
theorem XO{Z:FP}{w:World}{js:List Nat}:∀(j:Nat) (os:List AV) (vals us:List Value) (A:FP),JL js j os=true→us.length=vals.length→
 (∀(i:Nat),i<vals.length→js.elem (j+i)=true→us[i]? =vals[i]?)→AZ Z w os us A→AZ Z w os vals A
 |j,[],vals,us,A,ho,hl,hf,h=>by
  simp only[AZ] at h ⊢
  rw[h.1] at hl
  exact⟨List.length_eq_zero_iff.1 (by simpa using hl.symm),h.2⟩
 |j,o::os,vals,us,A,ho,hl,hf,h=>by
  simp only[AZ] at h ⊢
  obtain⟨u,us',A1,A2,e,hj,h1,h2⟩:=h
  subst e
  cases vals with
  |nil=>simp at hl
  |cons v vals=>
   obtain⟨ho1,ho2⟩:(o= .top∨js.elem j=true)∧JL js (j+1) os=true:=by
    unfold JL at ho
    split at ho
    ·exact⟨.inl rfl,ho⟩
    ·split at ho
     ·rename_i hb;exact⟨.inr hb,ho⟩
     ·cases ho
    ·split at ho
     ·rename_i hb;exact⟨.inr hb,ho⟩
     ·cases ho
    ·split at ho
     ·rename_i hb;exact⟨.inr hb,ho⟩
     ·cases ho
    ·cases ho
   refine⟨v,vals,A1,A2,rfl,hj,?_,XO (j+1) os vals us' A2 ho2 (by simpa using hl) (fun i h3 h4=>by
    have:=hf (i+1) (by simpa using h3) (by rw[show j+(i+1)=j+1+i from by omega];exact h4)
    simpa using this) h2⟩
   rcases ho1 with rfl|ho1
   ·simpa only[Am] using h1
   ·have:=hf 0 (by simp) (by simpa using ho1)
    simp at this
    rw[←this];exact h1
def NI:List Value→Value
 |[v]=>v
 |vs=> .tuple vs.toArray
theorem a5u{P:Program}{t:TypeId}{x v:Value}{w:World}(h:(Instr.loadAt t x).run P w= .ok v w):(do loadVar t (←asAddr x):Sem Value).run P w= .ok v w:=by
 unfold Instr.loadAt at h
 cases x with
 |pointer a=>
  cases a with
  |none=>rw[Fb] at h;cases h
  |some a=>rw[Fb] at h ⊢;exact h
 |_=>rw[Fb] at h;cases h
theorem Tw{P:Program}{regs:List AV}{Z:FP}{η:Nat→Value}{w:World}{n:Nat}{a:Act}{T:FP}(hR:Aq Z η w regs a.tmps.toList T)(hI:AX n regs)
 {g:ResultVar→Sem Value} (g1:∀t,g (.tmp t)=pure (a.tmps.getD t undef)) (g2:∀b t,g (.cell b t)=(do loadVar t (←asAddr (a.tmps.getD b undef)))):
 ∀(rs:List ResultVar) (K:List AV→Prop),KB P regs rs K→∃vs azs,(rs.mapM g).run P w= .ok vs w∧
  Aq Z η w azs vs (fun _=>False)∧AX n azs∧K azs
 |[],K,h=>⟨[],[],rfl,by simp [Aq,emp],trivial,h⟩
 | .tmp t::rs,K,h=>by
   simp only[KB] at h
   obtain⟨vs,azs,h1,h2,h3,h4⟩:=Tw hR hI g1 g2 rs _ h
   refine⟨a.tmps.getD t undef::vs,Bi regs (.tmp t)::azs,?_,?_,⟨GM hI (.tmp t),h3⟩,h4⟩
   ·rw[List.mapM_cons,g1,AU (Cc P _ w),AU h1];rfl
   ·simp only[Aq];exact⟨_,_,_,_,rfl,Cj _,EB hR (.tmp t),h2⟩
 | .cell b t::rs,K,h=>by
   simp only[KB] at h
   obtain⟨v,r,h1,h2,h3,h4⟩:=WG (n:=n) h hR hI (EB (a:=a) hR (.tmp b))
   obtain⟨vs,azs,k1,k2,k3,k4⟩:=Tw hR hI g1 g2 rs _ h4
   refine⟨v::vs,r::azs,?_,?_,⟨h3,k3⟩,k4⟩
   ·have hl:(do loadVar t (←asAddr (a.tmps.getD b undef)):Sem Value).run P w= .ok v w:=a5u (h1 w (Sees.refl w))
    rw[List.mapM_cons,g2,AU hl,AU k1];rfl
   ·simp only[Aq];exact⟨_,_,_,_,rfl,Cj _,h2,k2⟩
theorem a5v{P:Program}{fn:Func}{regs:List AV}{Z:FP}{η:Nat→Value}{w:World}{n:Nat}{a:Act}{T:FP}(hR:Aq Z η w regs a.tmps.toList T)(hI:AX n regs)
 {K:List AV→Prop} (h:KB P regs fn.results.toList K):∃vs azs,(results fn a.tmps).run P w= .ok (NI vs) w∧Aq Z η w azs vs (fun _=>False)∧AX n azs∧K azs:=by
 unfold results
 obtain⟨vs,azs,h1,h2⟩:=Tw hR hI (g:=fun| .tmp t=>pure (a.tmps.getD t undef)| .cell b t=>do loadVar t (←asAddr (a.tmps.getD b undef))) (fun _=>rfl) (fun _ _=>rfl) fn.results.toList K h
 refine⟨vs,azs,?_,h2⟩
 rw[Array.mapM_eq_mapM_toList,map_eq_pure_bind]
 refine(AU (x:=vs.toArray) (w':=w) ?_).trans ?_
 ·exact(AU h1).trans rfl
 ·simp only[Cc]
  congr 1
  match vs with
  |[]=>rfl
  |[v]=>rfl
  |v::u::vs=>rfl
theorem XP(Z:FP)(η:Nat→Value)(w:World):∀n,Aq Z η w (List.replicate n (.tup [])) (List.replicate n undef) (fun _=>False)
 |0=>by simp [Aq,emp]
 |n+1=>by
  simp only[List.replicate_succ,Aq]
  exact⟨undef,_,_,_,rfl,Cj _,Xz Z η w,XP Z η w n⟩
theorem XQ(n:Nat):∀N,AX n (List.replicate N (.tup []))
 |0=>trivial
 |N+1=>⟨trivial,XQ n N⟩
theorem XR{n:Nat}:∀(l1 l2:List AV),AX n l1→AX n l2→AX n (l1++l2)
 |[],l2,_,h2=>by simpa using h2
 |x::l1,l2,h1,h2=>⟨h1.1,XR l1 l2 h1.2 h2⟩
theorem XS{vs us:List Value}(e:∃r,us=vs++r):∀ {l:List (Nat×Fn×Nat)},JH l vs→JH l us
 |[],_=>trivial
 |(p,fn,j)::l,h=>by
  obtain⟨r,rfl⟩:=e
  obtain⟨⟨v,h1,h2⟩,h3⟩:=h
  refine⟨⟨v,?_,?_⟩,XS ⟨r,rfl⟩ h3⟩
  ·rw[List.getElem?_append_left ((List.getElem?_eq_some_iff.1 h1).1)];exact h1
  ·rw[List.getElem?_append_left ((List.getElem?_eq_some_iff.1 h2).1)];exact h2
theorem a5w{G:GInv}{P:Program}{Γ:FuncId→Nat→Option Sig}{E:TypeId→Option ES}{ov:Bool}{f:FuncId}{fn:Func}{c:Code}{S:Sig}{L:S.X→Nat→Option LS}
 (hfn:P.funcs[f]? =some fn) (hbody:fn.body=some c) (hname:(fn.name== "runtime.NumGoroutine")=false)
 (hΓ:∀f k S,Γ f k=some S→Aj G P f S) (h:∀x,S.pre x→Py P Γ E ov (L x) fn.ntmps fn.results.toList c S x):Aj G P f S:=by
 refine⟨⟨⟨fn,hfn,hname,by simp [hbody]⟩,fun x y hx hy=> ?_⟩,?_⟩
 ·have h:=h x hx
  unfold Py at h
  split at h
  ·have h:=h.1
   unfold SK at h ⊢
   split
   ·trivial
   ·rename_i hk;rw[hk] at h;exact h y hy
  ·exact h.elim
 intro x hpre Z w vals A hG hargs hA hcaps
 have h:=h x hpre
 unfold Py at h
 split at h
 rotate_left
 ·exact h.elim
 ·rename_i hN hd
  have hvc:=h.2
  have hN:=Nat.le_of_ble_eq_true hN
  have hvl:vals.length=(S.args x).length:=Xm _ _ _ hargs
  refine calls_of_wp hfn hbody ?_
  let a0:Act:= {tmps:=vals.toArray++Array.replicate (fn.ntmps-vals.toArray.size) undef,defers:=[]}
  have hsz:a0.tmps.size=fn.ntmps:=by simp [a0];omega
  obtain⟨p1,p2,η1,p3,p4⟩:=Ie (S.args x) 0 vals A (fun _=>undef) hargs
  have hst:=p4 η1 (fun _ _=>rfl)
  let C:Ctx:=⟨w,Z,A,G,hG,fun b hb=>(hA b hb).1⟩
  have hinit:Rel C (NH fn.ntmps (S.args x)) a0 w:=by
   refine⟨η1,Z,A,⟨rfl,?_,XR _ _ p2 (XQ _ _),fun b hb=>⟨(hA b hb).1,(hA b hb).2,fun _=>hb⟩,⟨rfl,rfl,rfl,Nat.le_refl _,fun b _ _=>⟨rfl,Iff.rfl⟩⟩⟩⟩
   have:=JJ _ _ _ _ _ _ A hst (XP Z η1 w (fn.ntmps-(S.args x).length)) (II A)
   simpa [NH,a0,hvl] using this
  have hinit2:Rel C (Tq S.caps (NH fn.ntmps (S.args x))) a0 w:=by
   cases hcc:S.caps with
   |nil=>exact hinit
   |cons c cs=>
    obtain⟨η,Z1,T,hi⟩:=hinit
    obtain⟨T',h'⟩:=Px (c::cs) (NH fn.ntmps (S.args x)).regs T hi (by
     rw[←hcc]
     exact XS ⟨List.replicate (fn.ntmps-vals.length) undef,by simp [a0]⟩ hcaps)
    exact⟨η,Z1,T',h'⟩
  refine IQ (C:=C) hΓ (js:=Tv S x) (a0:=a0) (E:=E) (ov:=ov) c (L x) _ _ _ a0 w (by rw[hsz];exact hvc) hd hinit2 ⟨rfl,fun _ _=>rfl⟩ ?_
  intro e s' a' w' hk hr hf
  have fin:XN P S x fn.results.toList (S.args x).length s'→a'.defers=[]∧∃v,(results fn a'.tmps).run P w'= .ok v w'∧∃y v' Z' A',S.post x y∧Ending.returned v= .returned v'∧AZ Z' w' (S.res x y::S.outs x y) (v'::vals) A'∧After Z w A Z' w' A':=by
   intro hfin
   obtain⟨η,Z1,T,hi⟩:=hr
   obtain⟨rvs,ras,hrun,hrr,hri,y,hpost,hh⟩:=a5v hi.rel hi.ids hfin
   split at hh
   rotate_left
   ·exact hh.elim
   rename_i hout
   have hres:Ad Z1 η w' (JM ras) (NI rvs) (fun _=>False):=by
    match ras,rvs,hrr with
    |[],rvs,hrr=>
     simp only[Aq] at hrr
     rw[hrr.1]
     simp only[JM,NI,Ad];exact⟨[],rfl,by simp [Aq,emp]⟩
    |[r],rvs,hrr=>
     simp only[Aq] at hrr
     obtain⟨v,cs',A,B,e,hj,h1,h2,h3⟩:=hrr
     subst h2;subst e
     have:=(HX hj AW).1
     rw[EA this] at h1
     exact h1
    |r::q::ras,rvs,hrr=>
     have hl:=Fa _ _ _ hrr
     match rvs,hl with
     |v::u::rvs,_=>simp only[JM,NI,Ad];exact⟨_,rfl,hrr⟩
   have hresi:AP s'.nx (JM ras):=by
    match ras,hri with
    |[],hri=>exact hri
    |[r],hri=>exact hri.1
    |r::q::ras,hri=>simp only[JM,AP];exact hri
   have hactual:Aq Z1 η w' (JM ras::(List.range (S.args x).length).map fun j=>Bi s'.regs (.tmp j))
    (NI rvs::(List.range (S.args x).length).map fun j=>a'.eval (.tmp j)) (fun _=>False):=by
    simp only[Aq]
    refine⟨_,_,_,_,rfl,Cj _,hres,?_⟩
    have:∀l:List Nat,Aq Z1 η w' (l.map fun j=>Bi s'.regs (.tmp j)) (l.map fun j=>a'.eval (.tmp j)) (fun _=>False):=by
     intro l
     induction l with
     |nil=>simp [Aq,emp]
     |cons t ts ih=>
      simp only[List.map_cons,Aq]
      exact⟨_,_,_,_,rfl,Cj _,EB hi.rel (.tmp t),ih⟩
    exact this _
   have hactuali:AX s'.nx (JM ras::(List.range (S.args x).length).map fun j=>Bi s'.regs (.tmp j)):=by
    refine⟨hresi,?_⟩
    have:∀l:List Nat,AX s'.nx (l.map fun j=>Bi s'.regs (.tmp j)):=by
     intro l
     induction l with
     |nil=>trivial
     |cons t ts ih=>exact⟨GM hi.ids (.tmp t),ih⟩
    exact this _
   obtain⟨Z2,A',B',r',ho⟩:=FR _ s'.regs _ _ hh Z1 a'.tmps.toList _ T (fun _=>False) T hi.rel hi.ids hactual hactuali (Cj T)
   refine⟨hi.defers,_,hrun,y,_,Z2,A',hpost,rfl,?_,?_⟩
   ·have hgot:=ho.got
    simp only[AZ] at hgot ⊢
    obtain⟨v',us',A1,A2,e1,hj,h1,h2⟩:=hgot
    simp only[List.cons.injEq] at e1
    obtain⟨rfl,rfl⟩:=e1
    refine⟨_,vals,A1,A2,rfl,hj,h1,XO 0 _ vals _ A2 hout (by simp [hvl]) (fun i hil0 hb=> ?_) h2⟩
    have hil:i<(S.args x).length:=by omega
    have hfix:=hf.2 i (by simpa using hb)
    have hav:a0.tmps[i]? =vals[i]? :=by
     simp only[a0]
     rw[Array.getElem?_append_left (by simp;omega)]
     simp
    have hvi:vals[i]? =some vals[i]:=by simp
    simp only[List.getElem?_map,List.getElem?_range hil,Option.map_some,Act.eval]
    rw[hav,hvi] at hfix
    simp [Array.getD_eq_getD_getElem?,hfix,hvi]
   ·refine⟨hi.ok.os,hi.ok.tape,hi.ok.output,hi.ok.size,fun b hb hn=> ?_,fun b hb=> ?_⟩
    ·obtain⟨g1,g2⟩:=hi.ok.old b hb hn
     refine⟨g1,fun h=>g2.1 (ho.zz b h),fun h=>Classical.byContradiction fun hn2=> ?_⟩
     have hT:=ho.gone b (g2.2 h) hn2
     exact hn ((hi.own b hT).2.2 hb)
    ·have hT:=ho.part b (.inl hb)
     exact⟨ho.ownA b hb (hi.own b hT).1,(hi.own b hT).2.1,(hi.own b hT).2.2⟩
  cases e with
  |normal=>exact fin hk
  |exit id=>exact hk.elim
  |ret=>exact fin hk
def Γof:List (Nat×Nat×Sig)→FuncId→Nat→Option Sig
 |[],_,_=>none
 |(g,k,S)::l,f,j=>match Nat.beq g f,Nat.beq k j with
  |true,true=>some S
  |_,_=>Γof l f j
def Tx(G:GInv)(P:Program):List (Nat×Nat×Sig)→Prop
 |[]=>True
 |(g,_,S)::l=>Aj G P g S∧Tx G P l
theorem XT{G:GInv}{P:Program}:∀ {l:List (Nat×Nat×Sig)},Tx G P l→∀f k S,Γof l f k=some S→Aj G P f S
 |[],_,f,k,S,h=>by simp [Γof] at h
 |(g,j,S')::l,ha,f,k,S,h=>by
  unfold Γof at h
  split at h
  ·rename_i hb _
   simp only[Option.some.injEq] at h;subst h
   rw[←Nat.eq_of_beq_eq_true hb];exact ha.1
  ·exact XT ha.2 f k S h
def Lof:List (Nat×LS)→Nat→Option LS
 |[],_=>none
 |(g,S)::l,f=>match Nat.beq g f with
  |true=>some S
  |false=>Lof l f
def Eof:List (Nat×ES)→TypeId→Option ES
 |[],_=>none
 |(g,S)::l,f=>match Nat.beq g f with
  |true=>some S
  |false=>Eof l f
theorem Aw{b:Bool}{p q:Prop}(h1:b=true→p)(h2:b=false→q):Aa b p q:=by
 cases b
 ·exact h2 rfl
 ·exact h1 rfl
end Go.Eng
end
section
set_option linter.unusedVariables false
namespace Go.Eng
mutual
def AB:AV→AV→Prop→Prop
 | .int _ n,a,R=>match a with
   | .int _ m=>m=n∧R
   |_=>False
 | .bool b,a,R=>match a with
   | .bool c=>c=b∧R
   |_=>False
 | .str l,a,R=>match a with
   | .str m=>m=l∧R
   |_=>False
 | .val v,a,R=>match a with
   | .val u=>u=v∧R
   |_=>False
 | .nil,_,R=>R
 | .any,_,R=>R
 | .top,_,R=>R
 | .agg es,a,R=>match a with
   | .agg azs=>Av es azs R
   |_=>False
 | .tup es,a,R=>match a with
   | .tup azs=>Av es azs R
   |_=>False
 | .clo _ es,a,R=>match a with
   | .clo _ azs=>Av es azs R
   |_=>False
 | .pf c,a,R=>match a with
   | .pf c'=>AV.pf c'=AV.pf c∧R
   | .box _ c'=>AV.pf (fzL c')=AV.pf c∧R
   |_=>False
 | .box _ c,a,R=>match a with
   | .box _ c'=>Av c c' R
   |_=>False
 | .bv y c,a,R=>match a with
   | .bv x c'=>x=y∧Av c c' R
   |_=>False
 | .sl true _ sz α f xs,a,R=>match a with
   | .nil=>xs=[]∧R
   | .sl true _ sz' α' f' xs'=>AV.sl true 0 sz' α' f' xs'=AV.sl true 0 sz α f xs∧R
   |_=>False
 | .sl false _ sz α f xs,a,R=>match a with
   | .nil=>xs=[]∧R
   | .sl false _ sz' α' f' xs'=>AV.sl false 0 sz' α' f' xs'=AV.sl false 0 sz α f xs∧R
   | .sl true _ sz' α' f' xs'=>AV.sl false 0 sz' α' (fun x=>fzL (f' x)) xs'=AV.sl false 0 sz α f xs∧R
   |_=>False
 | .hole _,_,_=>False
 | .hv _,_,_=>False
 | .al _,_,_=>False
 | .po _ _ _ _,_,_=>False
def Av:List AV→List AV→Prop→Prop
 |[],azs,R=>R
 |e::es,azs,R=>match azs with
  |[]=>False
  |a::azs=>AB e a (Av es azs R)
end
def mvE:AV→AV
 | .int _ _=> .top
 | .bool _=> .top
 | .str _=> .top
 | .val _=> .top
 | .any=> .top
 | .top=> .top
 | .nil=> .top
 | .hole _=> .top
 | .al _=> .top
 | .po _ _ _ _=> .top
 | .agg _=> .top
 | .tup _=> .top
 | .hv _=> .top
 | .pf _=> .top
 | .clo _ _=> .top
 | .box i c=> .box i c
 | .bv x c=> .bv x c
 | .sl true i sz α f xs=> .sl true i sz α f xs
 | .sl false _ _ _ _ _=> .top
def lnE:AV→AV
 | .int k n=> .int k n
 | .bool b=> .bool b
 | .str l=> .str l
 | .val v=> .val v
 | .any=> .any
 | .top=> .top
 | .nil=> .nil
 | .hole i=> .hole i
 | .al i=> .al i
 | .po a b c d=> .po a b c d
 | .agg l=> .agg l
 | .tup l=> .tup l
 | .hv x=> .hv x
 | .pf c=> .pf c
 | .clo f l=> .clo f l
 | .box _ _=> .top
 | .bv _ _=> .top
 | .sl true _ _ _ _ _=> .top
 | .sl false i sz α f xs=> .sl false i sz α f xs
def mvL:List AV→List AV
 |[]=>[]
 |e::es=>mvE e::mvL es
def lnL:List AV→List AV
 |[]=>[]
 |e::es=>lnE e::lnL es
def Bw:List (Nat×AV)→List AV
 |[]=>[]
 |(_,e)::es=>e::Bw es
def cA(S:Sig)(azs:List AV)(K:S.X→S.Y→Prop):Prop:=
 ∃x:S.X,S.pre x∧Av (mvL (S.args x)) azs (Av (lnL (S.args x)) azs (∀y,S.post x y→K x y))
def eA(L:LS)(azs:List AV):Prop:=∃i,L.inv i∧Av (Bw (L.regs i)) azs True∧True
def eN(L:LS)(i:L.ι)(azs:List AV):Prop:=∃i',L.inv i'∧L.meas i'<L.meas i∧Av (Bw (L.regs i')) azs True∧True
def rA(S:Sig)(x:S.X)(azs:List AV):Prop:=∃y,S.post x y∧Av (S.res x y::S.outs x y) azs True
theorem vcFun_okP{G:GInv}{P:Program}(l:List (Nat×Nat×Sig))(e:List (Nat×ES))(ov:Bool){f:FuncId}{S:Sig}(L:S.X→List (Nat×LS)){fn:Func}
 (hfn:P.funcs[f]? =some fn) (hbody:fn.body=some (fn.body.getD .skip)) (hname:(fn.name== "runtime.NumGoroutine")=false)
 (ha:Tx G P l) (Q:S.X→Prop) (hq:∀x,Py P (Γof l) (Eof e) ov (Lof (L x)) fn.ntmps fn.results.toList (fn.body.getD .skip) S x=Q x) (h:∀x,S.pre x→Q x):Aj G P f S:=
 a5w (Γ:=Γof l) (E:=Eof e) (ov:=ov) (L:=fun x=>Lof (L x)) hfn hbody hname (XT ha) fun x hx=>(hq x).mpr (h x hx)
end Go.Eng
end
section
set_option linter.unusedVariables false
namespace Go.My
open Go.Eng
structure Nd where
 kind:Int
 text:List UInt8
 kids:List Int
 blank:Bool
def Bb:Int→List AV:=fun n=>[.int .i64 n]
def BW:List UInt8→List AV:=fun s=>[.str s]
def AQ(l:List Int):AV:= .sl false 0 1 Int Bb l
def Ab(l:List Int):AV:= .sl true 0 1 Int Bb l
def ndA(o:Bool):Nd→List AV:=fun x=>[.int .i64 x.kind,.str x.text,.sl o 0 1 Int Bb x.kids,.bool x.blank]
theorem Bg(o:Bool)(x:Nd):ndA o x=[.int .i64 x.kind,.str x.text,.sl o 0 1 Int Bb x.kids,.bool x.blank]:=rfl
def nds(l:List Nd):AV:= .sl false 0 4 Nd (ndA false) l
def Au(l:List Nd):AV:= .sl true 0 4 Nd (ndA true) l
theorem Ae{α:Type}{p q:α→Prop}(x:α)(h2:q x)(h1:p x):∃x,p x∧q x:=⟨x,h1,h2⟩
theorem AC{α β:Type}{p q:α×β→Prop}(a:α)(b:β)(h2:q (a,b))(h1:p (a,b)):∃x,p x∧q x:=⟨_,h1,h2⟩
theorem AD{α β γ:Type}{p q:α×β×γ→Prop}(a:α)(b:β)(c:γ)(h2:q (a,b,c))(h1:p (a,b,c)):∃x,p x∧q x:=⟨_,h1,h2⟩
theorem AE{α β γ δ:Type}{p q:α×β×γ×δ→Prop}(a:α)(b:β)(c:γ)(d:δ)(h2:q (a,b,c,d))(h1:p (a,b,c,d)):∃x,p x∧q x:=⟨_,h1,h2⟩
theorem AF{α β γ δ ε:Type}{p q:α×β×γ×δ×ε→Prop}(a:α)(b:β)(c:γ)(d:δ)(e:ε)(h2:q (a,b,c,d,e))(h1:p (a,b,c,d,e)):∃x,p x∧q x:=⟨_,h1,h2⟩
theorem AG{α β γ δ ε ζ:Type}{p q:α×β×γ×δ×ε×ζ→Prop}(a:α)(b:β)(c:γ)(d:δ)(e:ε)(f:ζ)(h2:q (a,b,c,d,e,f))(h1:p (a,b,c,d,e,f)):∃x,p x∧q x:=⟨_,h1,h2⟩
theorem AH{o:Bool}{id sz:Nat}{α:Type}{f:α→List AV}{l l':List α}(h:l=l'):AV.sl o id sz α f l=AV.sl o id sz α f l':=by rw[h]
theorem Az{p:Prop}[Decidable p]{P Q:Prop}(h1:p→P)(h2:¬p→Q):Aa (decide p) P Q:=
 Aw (fun h=>h1 (of_decide_eq_true h)) (fun h=>h2 (of_decide_eq_false h))
theorem Ds{α:Type}{l:List α}{n:Nat}{e:α}(h:l[n]? =some e):∃h:n<l.length,l[n]=e:=List.getElem?_eq_some_iff.1 h
theorem CR{α:Type}{l:List α}{n:Nat}{e:α}(h:l[n]? =some e):e∈l:=List.mem_of_getElem? h
theorem KC{α:Type}{l:List α}{n:Nat}{e:α}(h:l[n]? =some e):l.drop n=e::l.drop (n+1):=by
 obtain⟨h1,h2⟩:=Ds h
 rw[←h2];exact List.drop_eq_getElem_cons h1
theorem DC{α:Type}{l:List α}{n:Nat}{e:α}(h:l[n]? =some e):l.take (n+1)=l.take n++[e]:=by
 rw[List.take_add_one,h];rfl
theorem AI{α:Type}[BEq α][LawfulBEq α]{a b:α}{P Q:Prop}(h1:a≠b→P)(h2:a=b→Q):Aa (a != b) P Q:=
 Aw (fun h=>h1 (by simpa using h)) (fun h=>h2 (by simpa using h))
theorem AA{α:Type}[BEq α][LawfulBEq α]{a b:α}{P Q:Prop}(h1:a=b→P)(h2:a≠b→Q):Aa (a==b) P Q:=
 Aw (fun h=>h1 (by simpa using h)) (fun h=>h2 (by simpa using h))
theorem AJ{b:Bool}{P Q:Prop}(h1:b=false→P)(h2:b=true→Q):Aa (!b) P Q:=
 Aw (fun h=>h1 (by simpa using h)) (fun h=>h2 (by simpa using h))
theorem Dd{i:Int}(h:0≤i):(i+1).toNat=i.toNat+1:=by omega
theorem a5x{α:Type}{x y:List α}{i:Int}{e f:α}(h0:0≤i)(ht:x.take i.toNat=y.take i.toNat)(h1:x[i.toNat]? =some e)(h2:y[i.toNat]? =some f)(he:e=f):
 x.take (i+1).toNat=y.take (i+1).toNat:=by
 rw[Dd h0,DC h1,DC h2,ht,he]
theorem a5y{α:Type}{x y:List α}{i:Int}(hl:x.length=y.length)(ht:x.take i.toNat=y.take i.toNat)(h:(x.length:Int)≤i):x=y:=by
 rw[List.take_of_length_le (by omega),List.take_of_length_le (by omega)] at ht;exact ht
theorem AR:IntKind.i64.max=9223372036854775807:=rfl
theorem AK{n:Int}(h1: -9223372036854775808≤n)(h2:n≤9223372036854775807):inR .i64 n:=by
 unfold inR;simp [IntKind.min,IntKind.max,IntKind.bits,IntKind.signed];omega
end Go.My
end
section
set_option linter.unusedVariables false
set_option linter.unusedSimpArgs false
namespace Go.My
open Go.Eng
def Bt(c:UInt8):Bool:=decide (48≤c.toNat)&&decide (c.toNat≤57)
def Cu(c:UInt8):Bool:=(decide (97≤c.toNat)&&decide (c.toNat≤122))||((decide (65≤c.toNat)&&decide (c.toNat≤90))||decide (c.toNat=95))
def BO(c:UInt8):Bool:=Cu c||Bt c
def Ck(c:UInt8):Bool:=decide (32≤c.toNat)&&decide (c.toNat≤126)
def Cf(c:UInt8):Bool:=decide (c.toNat≠10)
def kw(s:List UInt8):Bool:=s==[99,108,97,115,115]||(s==[118,97,114]||(s==[105,102]||(s==[101,108,115,101]||(s==[119,104,105,108,101]||s==[114,101,116,117,114,110]))))
def mk2(s:List UInt8):Bool:=s==[38,38]||(s==[124,124]||(s==[61,61]||(s==[61,62]||s==[46,46])))
def mk1:List UInt8:=[40,41,123,125,91,93,59,44,46,61,43,45,42,60,63,58]
def CG(s:List UInt8):Bool:=mk2 s||match s with
 |[c]=>mk1.elem c
 |_=>false
def DN(p:UInt8→Bool):List UInt8→Option Nat
 |[]=>none
 |c::s=>if p c then some 0 else(DN p s).map (· +1)
def CH(s:List UInt8):List UInt8:=(s.reverse.dropWhile (fun c=>decide (c.toNat=32))).reverse
def Dw(s:List UInt8):List UInt8×Bool:=match DN (fun c=>decide (c.toNat=39)) (s.drop 1) with
 |none=>([],false)
 |some i=>(s.take (i+2),(s.take (i+2)).all Ck)
structure SgR where
 kind:Int
 text:List UInt8
 size:Int
 ok:Bool
def Bc(s:List UInt8):SgR:=match s with
 |[]=>⟨0,[],0,false⟩
 |b::_=>
  if Cu b then⟨1,s.takeWhile BO,(s.takeWhile BO).length,decide ((s.takeWhile BO).length≤30)⟩
  else if Bt b then⟨2,s.takeWhile Bt,(s.takeWhile Bt).length,decide ((s.takeWhile Bt).length≤12)⟩
  else if b.toNat=39 then⟨3,(Dw s).1,(Dw s).1.length,(Dw s).2⟩
  else if s.take 2=[47,47] then⟨5,CH (s.takeWhile Cf),(s.takeWhile Cf).length,(s.takeWhile Cf).all Ck⟩
  else if CG (s.take 2) then⟨4,s.take 2,(s.take 2).length,true⟩
  else if CG (s.take 1) then⟨4,s.take 1,1,true⟩
  else⟨0,[],0,false⟩
def Cx(s:List UInt8)(k:Int):Bool:= !(s==[])&&((Bc s).ok&&(decide ((Bc s).kind=k)&&((Bc s).text==s&&decide ((Bc s).size=s.length))))
def DP(s:List UInt8):Bool:=Cx s 1&& !kw s
def NJ(s:List UInt8):Bool:=s==[38,38]||(s==[124,124]||(s==[61,61]||(s==[60]||(s==[43]||(s==[45]||s==[42])))))
def Fv(k:Int)(s:List UInt8):Bool:=
 if k=1∨k=6∨k=12∨k=13∨k=20∨k=21 then DP s
 else if k=2 then Cx s 2
 else if k=3 then Cx s 3
 else if k=19 then Cx s 5
 else if k=7 then NJ s
 else s==[]
theorem IR{p:UInt8→Bool}:∀ {s:List UInt8} {n:Nat},(∀e∈s.take n,p e=true)→(s.length≤n∨∃e,s[n]? =some e∧p e=false)→s.take n=s.takeWhile p
 |[],n,_,_=>by simp
 |c::s,0,_,h=>by
  rcases h with h|⟨e,he,hp⟩
  ·simp at h
  ·simp at he;subst he;simp [List.takeWhile,hp]
 |c::s,n+1,ha,h=>by
  have hc:p c=true:=ha c (by simp)
  rw[List.take_succ_cons,List.takeWhile_cons,if_pos hc,IR (fun e he=>ha e (by simp [he]))]
  rcases h with h|⟨e,he,hp⟩
  ·exact .inl (by simpa using h)
  ·exact .inr ⟨e,by simpa using he,hp⟩
theorem NK{p:UInt8→Bool}{s:List UInt8}{n:Nat}{e:UInt8}(h:∀e∈s.take n,p e=true)(he:s[n]? =some e)(hp:p e=true):∀e∈s.take (n+1),p e=true:=by
 rw[DC he];intro x hx
 rcases List.mem_append.1 hx with hx|hx
 ·exact h x hx
 ·simp at hx;subst hx;exact hp
theorem Ty{p:UInt8→Bool}{s:List UInt8}{n:Nat}(h:∀e∈s.take n,p e=true)(hn:s.length≤n):s.all p=true:=by
 rw[List.take_of_length_le hn] at h;exact List.all_eq_true.2 h
theorem Pz{p:UInt8→Bool}{s:List UInt8}{n:Nat}{e:UInt8}(he:s[n]? =some e)(hp:p e=false):s.all p=false:=by
 rw[Bool.eq_false_iff];intro h
 rw[List.all_eq_true.1 h e (List.mem_of_getElem? he)] at hp;cases hp
theorem PA{p:UInt8→Bool}{s:List UInt8}:s.takeWhile p=s↔s.all p=true:=by
 constructor
 ·intro h;rw[←h];exact List.all_takeWhile
 ·intro h;induction s with
  |nil=>rfl
  |cons c s ih=>
   simp only[List.all_cons,Bool.and_eq_true] at h
   rw[List.takeWhile_cons,if_pos h.1,ih h.2]
theorem Tz{p:UInt8→Bool}:∀ {s:List UInt8},DN p s=none↔∀e∈s,p e=false
 |[]=>by simp [DN]
 |c::s=>by
  unfold DN
  by_cases h:p c=true
  ·simp [h]
  ·simp [h,Tz (s:=s)]
theorem KD{p:UInt8→Bool}:∀ {s:List UInt8} {i:Nat},DN p s=some i↔(∀e∈s.take i,p e=false)∧∃e,s[i]? =some e∧p e=true
 |[],i=>by simp [DN]
 |c::s,i=>by
  unfold DN
  by_cases h:p c=true
  ·cases i with
   |zero=>simp [h]
   |succ i=>simp [h]
  ·cases i with
   |zero=>simp [h]
   |succ i=>
    simp only[h,Bool.false_eq_true,if_false,Option.map_eq_some_iff]
    constructor
    ·rintro⟨j,hj,e⟩
     obtain rfl:j=i:=by omega
     obtain⟨h1,h2⟩:=KD.1 hj
     refine⟨?_,by simpa using h2⟩
     intro e he;simp at he
     rcases he with rfl|he
     ·simpa using h
     ·exact h1 e he
    ·rintro⟨h1,h2⟩
     exact⟨i,KD.2 ⟨fun e he=>h1 e (by simp [he]),by simpa using h2⟩,rfl⟩
end Go.My
end
section
set_option linter.unusedVariables false
set_option linter.unusedSimpArgs false
namespace Go.My
open Go.Eng
def inn(x a b:Int):Bool:=decide (a≤x)&&decide (x≤b)
def BP(l:List Nd)(k:Int):Bool:=decide (0≤k)&&decide (k<l.length)
def BM(k:Int):Bool:=inn k 1 11
def JN(k:Int):Bool:=inn k 12 17
def EQ(k:Int):Bool:=decide (k=12)||(decide (k=20)||decide (k=19))
def Ea(k:Int):Bool:=decide (k=18)
def EF(k:Int):Bool:=decide (k=1)
def FS(k:Int):Bool:=decide (k=5)
def ER(k:Int):Bool:=JN k||decide (k=19)
def GU(k:Int):Bool:=EQ k||decide (k=21)
def Hr(p:Int→Bool)(ks:List Int):Bool:=match ks.getLast? with
 |some k=>p k&&ks.dropLast.all EF
 |none=>false
def El(k:Int)(ks:List Int):Bool:=
 if k=1∨k=2∨k=3∨k=19 then decide (ks.length=0)
 else if k=4 then ks.all BM
 else if k=5 then decide (1≤ks.length)&&ks.all BM
 else if k=7 then decide (2≤ks.length)&&ks.all BM
 else if k=8 then decide (ks.length=3)&&ks.all BM
 else if k=6∨k=11∨k=13∨k=14 then decide (ks.length=1)&&ks.all BM
 else if k=12∨k=15 then decide (ks.length≤1)&&ks.all BM
 else if k=9 then Hr BM ks
 else if k=10 then decide (2≤ks.length)&&(BM (ks.headD 0)&&(ks.drop 1).all FS)
 else if k=16 then(decide (2≤ks.length)&&decide (ks.length≤3))&&(BM (ks.headD 0)&&(ks.drop 1).all Ea)
 else if k=17 then decide (ks.length=2)&&(BM (ks.headD 0)&&Ea (ks.getD 1 0))
 else if k=18 then ks.all ER
 else if k=20 then Hr Ea ks
 else if k=21 then ks.all EQ
 else if k=22 then ks.all GU
 else false
def An(ns:List Nd)(c:Int):Nd:=ns.getD c.toNat ⟨0,[],[],false⟩
def Cg(ns:List Nd)(c:Int):Int:=(An ns c).kind
def CU(ns:List Nd)(x:Nd)(i:Nat)(c:Int):Bool:=
 let y:=An ns c
 if y.kind=5 then match y.kids with
  |[]=>false
  |h::_=>BP ns h&& !(decide (x.kind=10)&&(decide (0<i)&& !decide (Cg ns h=1)))
 else true
def Ff(ns:List Nd)(x:Nd):Bool:=(x.kids.zipIdx).all fun p=>CU ns x p.2 p.1
def DQ(l:List Int)(k:Int):Bool:=l.all fun c=>decide (0≤c)&&decide (c<k)
def Hs(k:Int):Bool:=JN k||(EQ k||decide (k=21))
def Ih(ns:List Nd)(k:Int)(x:Nd):Bool:=
 decide (x.kids.length≤12)&&(Fv x.kind x.text&&((DQ x.kids k&&decide x.kids.Nodup)&&(El x.kind (x.kids.map (Cg ns))&&(Ff ns x&&(Hs x.kind|| !x.blank)))))
def Cl(ns:List Nd)(k:Int):Bool:=BP ns k&&Ih ns k (An ns k)
def mx(ds:List Int):List Int→Int→Int
 |[],d=>d
 |c::l,d=>mx ds l (max d (ds.getD c.toNat 0))
def DD(ns:List Nd):Nat→Option (List Int)
 |0=>some []
 |n+1=>match DD ns n with
  |none=>none
  |some ds=>if Cl ns n then(if 14≤mx ds (An ns n).kids 0 then none else some (ds++[mx ds (An ns n).kids 0+1])) else none
def DR(ns:List Nd)(k:Int):Int:=if BP ns k then match DD ns (k.toNat+1) with
    |none=>0
    |some ds=>ds.getD k.toNat 0
 else 0
def BZ(ns:List Nd):List Int:=ns.flatMap (·.kids)
def De(ns:List Nd):Bool:=
 (decide (1≤ns.length)&&decide (ns.length≤300))&&(decide (Cg ns (ns.length-1)=22)&&(!decide (DR ns (ns.length-1)=0)&&((List.range (ns.length-1)).all fun i=>decide ((BZ ns).count (i:Int)=1))))
theorem Df{l:List Nd}{k:Int}:BP l k=true↔0≤k∧k<l.length:=by simp [BP]
theorem BG{ns:List Nd}{c:Int}{x:Nd}(h:ns[c.toNat]? =some x):An ns c=x:=by
 simp [An,List.getD,h]
theorem TA(ds:List Int):∀(l:List Int) (d:Int),d≤mx ds l d
 |[],d=>Int.le_refl d
 |c::l,d=>by unfold mx;have:=TA ds l (max d (ds.getD c.toNat 0));omega
theorem NL{ns:List Nd}:∀ {n:Nat} {ds:List Int},DD ns n=some ds→ds.length=n
 |0,ds,h=>by cases h;rfl
 |n+1,ds,h=>by
  unfold DD at h
  split at h
  ·cases h
  ·rename_i ds' hd
   split at h
   ·split at h
    ·cases h
    ·simp at h;rw[←h];simp [NL hd]
   ·cases h
theorem TB{ns:List Nd}:∀ {n:Nat} {ds:List Int},DD ns n=some ds→∀d∈ds,1≤d∧d≤14
 |0,ds,h=>by cases h;simp
 |n+1,ds,h=>by
  unfold DD at h
  split at h
  ·cases h
  ·rename_i ds' hd
   split at h
   ·split at h
    ·cases h
    ·simp at h;rw[←h]
     intro d hdm
     rcases List.mem_append.1 hdm with hdm|hdm
     ·exact TB hd d hdm
     ·simp at hdm
      have:=TA ds' (An ns n).kids 0
      omega
   ·cases h
theorem XU{ns:List Nd}:∀ {n:Nat} {ds:List Int},DD ns n=some ds→∀i,i<n→Cl ns i=true
 |0,ds,h,i,hi=>by omega
 |n+1,ds,h,i,hi=>by
  unfold DD at h
  split at h
  ·cases h
  ·rename_i ds' hd
   split at h
   ·rename_i hok
    by_cases e:i=n
    ·subst e;exact hok
    ·exact XU hd i (by omega)
   ·cases h
theorem XV{ns:List Nd}{n m:Nat}(h:DD ns n=none)(hm:n≤m):DD ns m=none:=by
 induction m with
 |zero=>obtain rfl:n=0:=by omega
        exact h
 |succ m ih=>
  by_cases e:n=m+1
  ·subst e;exact h
  ·unfold DD;rw[ih (by omega)]
theorem TC{ns:List Nd}{k:Int}(h:DR ns k≠0):BP ns k=true∧(∃ds,DD ns (k.toNat+1)=some ds)∧∀i:Nat,(i:Int)≤k→Cl ns i=true:=by
 unfold DR at h
 split at h
 ·rename_i hn
  split at h
  ·exact(h rfl).elim
  ·rename_i ds hd
   exact⟨hn,⟨ds,hd⟩,fun i hi=>XU hd i (by have:=Df.1 hn;omega)⟩
 ·exact(h rfl).elim
theorem FT{ns:List Nd}{k:Int}(h:Cl ns k=true):(0≤k∧k<ns.length)∧(An ns k).kids.length≤12∧Fv (An ns k).kind (An ns k).text=true∧
 (∀c∈(An ns k).kids,0≤c∧c<k)∧(An ns k).kids.Nodup∧El (An ns k).kind ((An ns k).kids.map (Cg ns))=true∧Ff ns (An ns k)=true:=by
 simp only[Cl,Ih,Bool.and_eq_true,decide_eq_true_eq,DQ,List.all_eq_true] at h
 exact⟨Df.1 h.1,h.2.1,h.2.2.1,h.2.2.2.1.1,h.2.2.2.1.2,h.2.2.2.2.1,h.2.2.2.2.2.1⟩
end Go.My
end
section
set_option linter.unusedVariables false
set_option linter.unusedSimpArgs false
namespace Go.My
open Go.Eng Go.Proofs Go.RowKit
variable {G:GInv}
def CI(s:List UInt8)(c:UInt8):Int:=match DN (fun d=>decide (d.toNat=c.toNat)) s with
 |none=> -1
 |some i=>i
theorem XW:∀(s:List UInt8) (c:UInt8),Lib.indexByte s c=CI s c
 |[],c=>rfl
 |b::s,c=>by
  unfold Lib.indexByte CI DN
  have e:(b==c)=decide (b.toNat=c.toNat):=by
   rw[Bool.eq_iff_iff];simp [UInt8.toNat_inj]
  rw[e]
  by_cases h:b.toNat=c.toNat
  ·simp [h]
  ·have ih:=XW s c
   unfold CI at ih
   simp only[h,decide_false,Bool.false_eq_true,if_false]
   rw[ih]
   cases hh:DN (fun d=>decide (d.toNat=c.toNat)) s with
   |none=>simp
   |some i=>simp
set_option maxHeartbeats 1000000 in
set_option maxRecDepth 100000 in
theorem a5z(s:ByteArray)(c:Int)(w:World):
 Calls Tryz.prog 145 #[.string s,.int .u8 c] w fun e w'=>e= .returned (.int .i64 (Lib.indexByte s.data.toList c.toNat.toUInt8))∧w'=w:=by
 go_enter Tryz.func145,Tryz.ntmps145
 go_wp2
 rw[run_callFunc_extern Tryz.func172 (by kernel_rfl) (by kernel_rfl) (by kernel_rfl) (e:=Extern.BytealgIndexByte.indexByte) (by kernel_rfl),Lib.run_indexByteString]
 simp only[Result.andThen]
 rw[Oper.upon_value]
 go_wp2
 go_ret
 exact⟨rfl,rfl⟩
def Mj:Sig:= {X:=List UInt8×UInt8,args:=fun x=>[.str x.1,.int .u8 x.2.toNat],pre:=fun _=>True,Y:=Unit,post:=fun _ _=>True,res:=fun x _=> .int .i64 (CI x.1 x.2),outs:=fun _ _=>[.top,.top],keep:=false}
theorem TD:Aj G Tryz.prog 145 Mj:=by
 refine⟨⟨⟨_,Tryz.func145,by kernel_rfl,by kernel_rfl⟩,fun x y _ _=>⟨trivial,trivial,trivial,trivial⟩⟩,?_⟩
 rintro⟨l,c⟩ _ Z w vals A _ h hA _
 simp only[Mj,AZ,Am] at h
 obtain⟨v,cs,A1,A2,rfl,_,⟨rfl,_⟩,v',cs',A3,A4,rfl,_,⟨rfl,_⟩,rfl,_⟩:=h
 refine(a5z ⟨l.toArray⟩ c.toNat w).mono ?_
 rintro e w' ⟨rfl,rfl⟩
 refine⟨(),_,Z,(fun _=>False),trivial,rfl,?_,⟨rfl,rfl,rfl,Nat.le_refl _,fun _ _ _=>⟨rfl,Iff.rfl⟩,fun _ h=>h.elim⟩⟩
 simp only[Mj,AZ,Am]
 refine⟨_,_,_,_,rfl,Cj _,⟨?_,AW⟩,_,_,_,_,rfl,Cj _,AW,_,_,_,_,rfl,Cj _,AW,rfl,AW⟩
 rw[XW];simp
def PB:Sig:= {X:=List UInt8,args:=fun x=>[.str x,.int .u8 39],pre:=fun _=>True,Y:=Unit,post:=fun _ _=>True,res:=fun x _=> .int .i64 (CI x 39),outs:=fun _ _=>[.top,.top],keep:=false}
theorem a5A:Aj G Tryz.prog 145 PB:=⟨⟨(TD (G:=G)).1.1,fun x y _ _=>⟨trivial,trivial,trivial,trivial⟩⟩,fun x hx=>(TD (G:=G)).2 (x,39) trivial⟩
def Mk:Sig:= {X:=List UInt8,args:=fun x=>[.str x,.int .u8 39],pre:=fun x=>True,Y:=Unit,post:=fun x y=>True,res:=fun x y=> .int .i64 (CI x 39),outs:=fun x y=>[.top,.top],keep:=false}
theorem a5B:Aj G Tryz.prog 111 Mk:=
 vcFun_okP [(145,0,PB)] [] false (fun x=>[]) Tryz.func111 rfl (by decide) ⟨a5A,trivial⟩ (fun(x:List UInt8)=>(∀(y:Unit),True→True∧True∧True∧True)∧cA PB [.str x,AV.int IntKind.u8 (39:Int)] fun x_1 y=>rA Mk x [.int .i64 (CI x_1 (39:UInt8)),.top,.top]) (fun x=>by kernel_rfl) fun(x:List UInt8) (hx:True)=>(by
 dsimp only[cA,rA,PB,Mk,Av,AB,mvL,lnL,mvE,lnE]
 (repeat' first|(with_reducible first|rfl|exact True.intro|apply AK|apply And.intro|((first|apply Az|apply AI|apply AA|apply AJ)<;>intro _))|(apply Aw<;>intro _)|apply AH|refine Ae () ?_ ?_|((first|apply AO|apply AN|apply AM|apply AL|apply AG|apply AF|apply AE|apply AD|apply AC)<;>try dsimp only)|apply Ae|(refine Prod.forall.2 ?_;intro _;try dsimp only)|(intro _;try dsimp only))<;>(try dsimp only at*)<;>(try simp only[AR,List.length_cons,List.length_nil])<;>(try omega))
def IT:Sig:= {X:=List UInt8×List UInt8,args:=fun x=>[.str x.1,.str x.2],pre:=fun x=>x.2.length=1,Y:=Unit,post:=fun x y=>True,res:=fun x y=> .int .i64 (CI x.1 (x.2.headD 0)),outs:=fun x y=>[.top,.top],keep:=false}
theorem a5C:Aj G Tryz.prog 159 IT:=
 vcFun_okP [(145,0,Mj)] [] false (fun x=>[]) Tryz.func159 rfl (by decide) ⟨TD,trivial⟩ (fun(x:List UInt8×List UInt8)=>(∀(y:Unit),True→True∧True∧True∧True)∧Aa ((↑(List.length x.2):Int)==(0:Int)) (rA IT x [.int .i64 (0:Int),.top,.top]) (Aa (x.2==x.1) (rA IT x [.int .i64 (0:Int),.top,.top]) (Aa ((↑(List.length x.2):Int)==(1:Int)) (((0:Int)≤(0:Int)∧(0:Int)<(↑(List.length x.2):Int))∧∀(c:UInt8),x.2[(0:Nat)]? =some c→cA Mj [.str x.1,AV.int IntKind.u8 (↑(UInt8.toNat c):Int)] fun x_1 y=>rA IT x [.int .i64 (CI x_1.1 x_1.2),.top,.top]) (Aa (decide ((↑(List.length x.2):Int)≥(↑(List.length x.1):Int))) (rA IT x [.int .i64 (-1:Int),.top,.top]) False)))) (fun x=>by kernel_rfl) fun(x:List UInt8×List UInt8) (hx:x.2.length=1)=>(by
 dsimp only[cA,rA,Mj,IT,Av,AB,mvL,lnL,mvE,lnE]
 (repeat' first|(with_reducible first|rfl|exact True.intro|apply AK|apply And.intro|((first|apply Az|apply AI|apply AA|apply AJ)<;>intro _))|(apply Aw<;>intro _)|apply AH|refine Ae () ?_ ?_|((first|apply AO|apply AN|apply AM|apply AL|apply AG|apply AF|apply AE|apply AD|apply AC)<;>try dsimp only)|apply Ae|(refine Prod.forall.2 ?_;intro _;try dsimp only)|(intro _;try dsimp only))<;>(try dsimp only at*)<;>(try simp only[AR,List.length_cons,List.length_nil])<;>(try omega)
 ·rename_i _ h;rw[←h];match x.2,hx with
  |[c],_=>simp [CI,DN]
 ·rename_i c hc _ _
  match x.2,hx,hc with
  |[d],_,hc=>simp at hc;rw[←hc];rfl)
def Ml:Sig:= {X:=List UInt8×List UInt8,args:=fun x=>[.str x.1,.str x.2],pre:=fun x=>x.2.length=1,Y:=Unit,post:=fun x y=>True,res:=fun x y=> .int .i64 (CI x.1 (x.2.headD 0)),outs:=fun x y=>[.top,.top],keep:=false}
theorem a5D:Aj G Tryz.prog 121 Ml:=
 vcFun_okP [(159,0,IT)] [] false (fun x=>[]) Tryz.func121 rfl (by decide) ⟨a5C,trivial⟩ (fun(x:List UInt8×List UInt8)=>(∀(y:Unit),True→True∧True∧True∧True)∧cA IT [.str x.1,.str x.2] fun x_1 y=>rA Ml x [.int .i64 (CI x_1.1 (List.headD x_1.2 (0:UInt8))),.top,.top]) (fun x=>by kernel_rfl) fun(x:List UInt8×List UInt8) (hx:x.2.length=1)=>(by
 dsimp only[cA,rA,Ml,IT,Av,AB,mvL,lnL,mvE,lnE]
 (repeat' first|(with_reducible first|rfl|exact True.intro|apply AK|apply And.intro|((first|apply Az|apply AI|apply AA|apply AJ)<;>intro _))|(apply Aw<;>intro _)|apply AH|refine Ae () ?_ ?_|((first|apply AO|apply AN|apply AM|apply AL|apply AG|apply AF|apply AE|apply AD|apply AC)<;>try dsimp only)|apply Ae|(refine Prod.forall.2 ?_;intro _;try dsimp only)|(intro _;try dsimp only))<;>(try dsimp only at*)<;>(try simp only[AR,List.length_cons,List.length_nil])<;>(try omega))
def Mm:Sig:= {X:=List UInt8×List UInt8,args:=fun x=>[.str x.1,.str x.2],pre:=fun x=>x.2.length=1,Y:=Unit,post:=fun x y=>True,res:=fun x y=> .bool (decide (CI x.1 (x.2.headD 0)≥0)),outs:=fun x y=>[.top,.top],keep:=false}
theorem a5E:Aj G Tryz.prog 114 Mm:=
 vcFun_okP [(121,0,Ml)] [] false (fun x=>[]) Tryz.func114 rfl (by decide) ⟨a5D,trivial⟩ (fun(x:List UInt8×List UInt8)=>(∀(y:Unit),True→True∧True∧True∧True)∧cA Ml [.str x.1,.str x.2] fun x_1 y=>rA Mm x [.bool (decide (CI x_1.1 (List.headD x_1.2 (0:UInt8))≥(0:Int))),.top,.top]) (fun x=>by kernel_rfl) fun(x:List UInt8×List UInt8) (hx:x.2.length=1)=>(by
 dsimp only[cA,rA,Mm,Ml,Av,AB,mvL,lnL,mvE,lnE]
 (repeat' first|(with_reducible first|rfl|exact True.intro|apply AK|apply And.intro|((first|apply Az|apply AI|apply AA|apply AJ)<;>intro _))|(apply Aw<;>intro _)|apply AH|refine Ae () ?_ ?_|((first|apply AO|apply AN|apply AM|apply AL|apply AG|apply AF|apply AE|apply AD|apply AC)<;>try dsimp only)|apply Ae|(refine Prod.forall.2 ?_;intro _;try dsimp only)|(intro _;try dsimp only))<;>(try dsimp only at*)<;>(try simp only[AR,List.length_cons,List.length_nil])<;>(try omega))
def KE:Sig:= {X:=List UInt8×List UInt8,args:=fun x=>[.str x.1,.str x.2],pre:=fun x=>x.2.length<2^62∧x.1.length<2^63,Y:=Unit,post:=fun x y=>True,res:=fun x y=> .bool (x.1.take x.2.length==x.2),outs:=fun x y=>[.top,.top],keep:=false}
theorem a5F:Aj G Tryz.prog 112 KE:=
 vcFun_okP [] [] false (fun x=>[]) Tryz.func112 rfl (by decide) trivial (fun(x:List UInt8×List UInt8)=>(∀(y:Unit),True→True∧True∧True∧True)∧Aa (decide ((↑(List.length x.1):Int)≥(↑(List.length x.2):Int))) (((0:Int)≤(0:Int)∧(0:Int)≤(↑(List.length x.2):Int)∧(↑(List.length x.2):Int)≤(↑(List.length x.1):Int))∧rA KE x [.bool (List.take (Int.toNat (↑(List.length x.2):Int)) x.1==x.2),.top,.top]) (rA KE x [.bool false,.top,.top])) (fun x=>by kernel_rfl) fun(x:List UInt8×List UInt8) (hx:x.2.length<2^62∧x.1.length<2^63)=>(by
 dsimp only[rA,KE,Av,AB]
 obtain⟨h1,h2⟩:=hx
 (repeat' first|(with_reducible first|rfl|exact True.intro|apply AK|apply And.intro|((first|apply Az|apply AI|apply AA|apply AJ)<;>intro _))|(apply Aw<;>intro _)|apply AH|refine Ae () ?_ ?_|((first|apply AO|apply AN|apply AM|apply AL|apply AG|apply AF|apply AE|apply AD|apply AC)<;>try dsimp only)|apply Ae|(refine Prod.forall.2 ?_;intro _;try dsimp only)|(intro _;try dsimp only))<;>(try dsimp only at*)<;>(try simp only[AR,List.length_cons,List.length_nil])<;>(try omega)
 ·simp
 ·rename_i h;rw[eq_comm,beq_eq_false_iff_ne];intro e;have:=congrArg List.length e;simp at this;omega)
def Mn:Sig:= {X:=List UInt8×List UInt8,args:=fun x=>[.str x.1,.str x.2],pre:=fun x=>x.2.length<2^62∧x.1.length<2^63,Y:=Unit,post:=fun x y=>True,res:=fun x y=> .bool (x.1.take x.2.length==x.2),outs:=fun x y=>[.top,.top],keep:=false}
theorem a5G:Aj G Tryz.prog 87 Mn:=
 vcFun_okP [(112,0,KE)] [] false (fun x=>[]) Tryz.func87 rfl (by decide) ⟨a5F,trivial⟩ (fun(x:List UInt8×List UInt8)=>(∀(y:Unit),True→True∧True∧True∧True)∧cA KE [.str x.1,.str x.2] fun x_1 y=>rA Mn x [.bool (List.take (List.length x_1.2) x_1.1==x_1.2),.top,.top]) (fun x=>by kernel_rfl) fun(x:List UInt8×List UInt8) (hx:x.2.length<2^62∧x.1.length<2^63)=>(by
 dsimp only[cA,rA,Mn,KE,Av,AB,mvL,lnL,mvE,lnE]
 obtain⟨h1,h2⟩:=hx
 (repeat' first|(with_reducible first|rfl|exact True.intro|apply AK|apply And.intro|((first|apply Az|apply AI|apply AA|apply AJ)<;>intro _))|(apply Aw<;>intro _)|apply AH|refine Ae () ?_ ?_|((first|apply AO|apply AN|apply AM|apply AL|apply AG|apply AF|apply AE|apply AD|apply AC)<;>try dsimp only)|apply Ae|(refine Prod.forall.2 ?_;intro _;try dsimp only)|(intro _;try dsimp only))<;>(try dsimp only at*)<;>(try simp only[AR,List.length_cons,List.length_nil])<;>(try omega))
end Go.My
end
section
set_option linter.unusedVariables false
set_option linter.unusedSimpArgs false
namespace Go.My
open Go.Eng Go.Proofs
variable {G:GInv}
def Fg:Sig:= {X:=Int×Int×Int,args:=fun x=>[.int .i64 x.1,.int .i64 x.2.1,.int .i64 x.2.2],pre:=fun x=>True,Y:=Unit,post:=fun x y=>True,res:=fun x y=> .bool (inn x.1 x.2.1 x.2.2),outs:=fun x y=>[.top,.top,.top],keep:=false}
theorem PC:Aj G Tryz.prog 58 Fg:=
 vcFun_okP [] [] false (fun x=>[]) Tryz.func58 rfl (by decide) trivial (fun(x:Int×Int×Int)=>(∀(y:Unit),True→True∧True∧True∧True∧True)∧Aa (decide (x.1≥x.2.1)) (rA Fg x [.bool (decide (x.1≤x.2.2)),.top,.top,.top]) (rA Fg x [.bool false,.top,.top,.top])) (fun x=>by kernel_rfl) fun(x:Int×Int×Int) (hx:True)=>(by
 dsimp only[rA,Fg,Av,AB]
 (repeat' first|(with_reducible first|rfl|exact True.intro|apply AK|apply And.intro|((first|apply Az|apply AI|apply AA|apply AJ)<;>intro _))|(apply Aw<;>intro _)|apply AH|refine Ae () ?_ ?_|((first|apply AO|apply AN|apply AM|apply AL|apply AG|apply AF|apply AE|apply AD|apply AC)<;>try dsimp only)|apply Ae|(refine Prod.forall.2 ?_;intro _;try dsimp only)|(intro _;try dsimp only))<;>(try dsimp only at*)<;>(try simp only[AR,List.length_cons,List.length_nil])<;>(try omega)
 all_goals simp [inn, *])
def CV:Sig:= {X:=Int×Int×Int,args:=fun x=>[.int .i64 x.1,.int .i64 x.2.1,.int .i64 x.2.2],pre:=fun x=>True,Y:=Unit,post:=fun x y=>True,res:=fun x y=> .bool (inn x.1 x.2.1 x.2.2),outs:=fun x y=>[.top,.top,.top],keep:=false}
theorem KF:Aj G Tryz.prog 53 CV:=
 vcFun_okP [] [] false (fun x=>[]) Tryz.func53 rfl (by decide) trivial (fun(x:Int×Int×Int)=>(∀(y:Unit),True→True∧True∧True∧True∧True)∧Aa (decide (x.1≥x.2.1)) (rA CV x [.bool (decide (x.1≤x.2.2)),.top,.top,.top]) (rA CV x [.bool false,.top,.top,.top])) (fun x=>by kernel_rfl) fun(x:Int×Int×Int) (hx:True)=>(by
 dsimp only[rA,CV,Av,AB]
 (repeat' first|(with_reducible first|rfl|exact True.intro|apply AK|apply And.intro|((first|apply Az|apply AI|apply AA|apply AJ)<;>intro _))|(apply Aw<;>intro _)|apply AH|refine Ae () ?_ ?_|((first|apply AO|apply AN|apply AM|apply AL|apply AG|apply AF|apply AE|apply AD|apply AC)<;>try dsimp only)|apply Ae|(refine Prod.forall.2 ?_;intro _;try dsimp only)|(intro _;try dsimp only))<;>(try dsimp only at*)<;>(try simp only[AR,List.length_cons,List.length_nil])<;>(try omega)
 all_goals simp [inn, *])
def Gu:Sig:= {X:=UInt8,args:=fun x=>[.int .u8 x.toNat],pre:=fun x=>True,Y:=Unit,post:=fun x y=>True,res:=fun x y=> .bool (Bt x),outs:=fun x y=>[.top],keep:=false}
theorem TE:Aj G Tryz.prog 85 Gu:=
 vcFun_okP [] [] false (fun x=>[]) Tryz.func85 rfl (by decide) trivial (fun(x:UInt8)=>(∀(y:Unit),True→True∧True∧True)∧Aa (decide ((↑(UInt8.toNat x):Int)≥(48:Int))) (rA Gu x [.bool (decide ((↑(UInt8.toNat x):Int)≤(57:Int))),.top]) (rA Gu x [.bool false,.top])) (fun x=>by kernel_rfl) fun(x:UInt8) (hx:True)=>(by
 dsimp only[rA,Gu,Av,AB]
 (repeat' first|(with_reducible first|rfl|exact True.intro|apply AK|apply And.intro|((first|apply Az|apply AI|apply AA|apply AJ)<;>intro _))|(apply Aw<;>intro _)|apply AH|refine Ae () ?_ ?_|((first|apply AO|apply AN|apply AM|apply AL|apply AG|apply AF|apply AE|apply AD|apply AC)<;>try dsimp only)|apply Ae|(refine Prod.forall.2 ?_;intro _;try dsimp only)|(intro _;try dsimp only))<;>(try dsimp only at*)<;>(try simp only[AR,List.length_cons,List.length_nil])<;>(try omega)
 all_goals(rw[Bool.eq_iff_iff];simp only[Bt,Bool.and_eq_true,Bool.or_eq_true,decide_eq_true_eq,Bool.not_eq_true',decide_eq_false_iff_not,bne_iff_ne,ne_eq,beq_iff_eq,Bool.not_not,reduceCtorEq,Bool.false_eq_true,true_iff,false_iff,iff_true,iff_false,not_true,not_false_eq_true]<;>omega))
def Fw:Sig:= {X:=UInt8,args:=fun x=>[.int .u8 x.toNat],pre:=fun x=>True,Y:=Unit,post:=fun x y=>True,res:=fun x y=> .bool (Bt x),outs:=fun x y=>[.top],keep:=false}
theorem TF:Aj G Tryz.prog 79 Fw:=
 vcFun_okP [] [] false (fun x=>[]) Tryz.func79 rfl (by decide) trivial (fun(x:UInt8)=>(∀(y:Unit),True→True∧True∧True)∧Aa (decide ((↑(UInt8.toNat x):Int)≥(48:Int))) (rA Fw x [.bool (decide ((↑(UInt8.toNat x):Int)≤(57:Int))),.top]) (rA Fw x [.bool false,.top])) (fun x=>by kernel_rfl) fun(x:UInt8) (hx:True)=>(by
 dsimp only[rA,Fw,Av,AB]
 (repeat' first|(with_reducible first|rfl|exact True.intro|apply AK|apply And.intro|((first|apply Az|apply AI|apply AA|apply AJ)<;>intro _))|(apply Aw<;>intro _)|apply AH|refine Ae () ?_ ?_|((first|apply AO|apply AN|apply AM|apply AL|apply AG|apply AF|apply AE|apply AD|apply AC)<;>try dsimp only)|apply Ae|(refine Prod.forall.2 ?_;intro _;try dsimp only)|(intro _;try dsimp only))<;>(try dsimp only at*)<;>(try simp only[AR,List.length_cons,List.length_nil])<;>(try omega)
 all_goals(rw[Bool.eq_iff_iff];simp only[Bt,Bool.and_eq_true,Bool.or_eq_true,decide_eq_true_eq,Bool.not_eq_true',decide_eq_false_iff_not,bne_iff_ne,ne_eq,beq_iff_eq,Bool.not_not,reduceCtorEq,Bool.false_eq_true,true_iff,false_iff,iff_true,iff_false,not_true,not_false_eq_true]<;>omega))
def Fx:Sig:= {X:=UInt8,args:=fun x=>[.int .u8 x.toNat],pre:=fun x=>True,Y:=Unit,post:=fun x y=>True,res:=fun x y=> .bool (Cu x),outs:=fun x y=>[.top],keep:=false}
theorem XX:Aj G Tryz.prog 82 Fx:=
 vcFun_okP [] [] false (fun x=>[]) Tryz.func82 rfl (by decide) trivial (fun(x:UInt8)=>(∀(y:Unit),True→True∧True∧True)∧Aa (decide ((↑(UInt8.toNat x):Int)≥(97:Int))) (Aa (decide ((↑(UInt8.toNat x):Int)≤(122:Int))) (rA Fx x [.bool true,.top]) (Aa (decide ((↑(UInt8.toNat x):Int)≥(65:Int))) (Aa (decide ((↑(UInt8.toNat x):Int)≤(90:Int))) (rA Fx x [.bool true,.top]) (rA Fx x [.bool ((↑(UInt8.toNat x):Int)==(95:Int)),.top])) (rA Fx x [.bool ((↑(UInt8.toNat x):Int)==(95:Int)),.top]))) (Aa (decide ((↑(UInt8.toNat x):Int)≥(65:Int))) (Aa (decide ((↑(UInt8.toNat x):Int)≤(90:Int))) (rA Fx x [.bool true,.top]) (rA Fx x [.bool ((↑(UInt8.toNat x):Int)==(95:Int)),.top])) (rA Fx x [.bool ((↑(UInt8.toNat x):Int)==(95:Int)),.top]))) (fun x=>by kernel_rfl) fun(x:UInt8) (hx:True)=>(by
 dsimp only[rA,Fx,Av,AB]
 (repeat' first|(with_reducible first|rfl|exact True.intro|apply AK|apply And.intro|((first|apply Az|apply AI|apply AA|apply AJ)<;>intro _))|(apply Aw<;>intro _)|apply AH|refine Ae () ?_ ?_|((first|apply AO|apply AN|apply AM|apply AL|apply AG|apply AF|apply AE|apply AD|apply AC)<;>try dsimp only)|apply Ae|(refine Prod.forall.2 ?_;intro _;try dsimp only)|(intro _;try dsimp only))<;>(try dsimp only at*)<;>(try simp only[AR,List.length_cons,List.length_nil])<;>(try omega)
 all_goals(rw[Bool.eq_iff_iff];simp only[Cu,Bool.and_eq_true,Bool.or_eq_true,decide_eq_true_eq,Bool.not_eq_true',decide_eq_false_iff_not,bne_iff_ne,ne_eq,beq_iff_eq,Bool.not_not,reduceCtorEq,Bool.false_eq_true,true_iff,false_iff,iff_true,iff_false,not_true,not_false_eq_true]<;>omega))
def ET:Sig:= {X:=UInt8,args:=fun x=>[.int .u8 x.toNat],pre:=fun x=>True,Y:=Unit,post:=fun x y=>True,res:=fun x y=> .bool (Cu x),outs:=fun x y=>[.top],keep:=false}
theorem XY:Aj G Tryz.prog 78 ET:=
 vcFun_okP [] [] false (fun x=>[]) Tryz.func78 rfl (by decide) trivial (fun(x:UInt8)=>(∀(y:Unit),True→True∧True∧True)∧Aa (decide ((↑(UInt8.toNat x):Int)≥(97:Int))) (Aa (decide ((↑(UInt8.toNat x):Int)≤(122:Int))) (rA ET x [.bool true,.top]) (Aa (decide ((↑(UInt8.toNat x):Int)≥(65:Int))) (Aa (decide ((↑(UInt8.toNat x):Int)≤(90:Int))) (rA ET x [.bool true,.top]) (rA ET x [.bool ((↑(UInt8.toNat x):Int)==(95:Int)),.top])) (rA ET x [.bool ((↑(UInt8.toNat x):Int)==(95:Int)),.top]))) (Aa (decide ((↑(UInt8.toNat x):Int)≥(65:Int))) (Aa (decide ((↑(UInt8.toNat x):Int)≤(90:Int))) (rA ET x [.bool true,.top]) (rA ET x [.bool ((↑(UInt8.toNat x):Int)==(95:Int)),.top])) (rA ET x [.bool ((↑(UInt8.toNat x):Int)==(95:Int)),.top]))) (fun x=>by kernel_rfl) fun(x:UInt8) (hx:True)=>(by
 dsimp only[rA,ET,Av,AB]
 (repeat' first|(with_reducible first|rfl|exact True.intro|apply AK|apply And.intro|((first|apply Az|apply AI|apply AA|apply AJ)<;>intro _))|(apply Aw<;>intro _)|apply AH|refine Ae () ?_ ?_|((first|apply AO|apply AN|apply AM|apply AL|apply AG|apply AF|apply AE|apply AD|apply AC)<;>try dsimp only)|apply Ae|(refine Prod.forall.2 ?_;intro _;try dsimp only)|(intro _;try dsimp only))<;>(try dsimp only at*)<;>(try simp only[AR,List.length_cons,List.length_nil])<;>(try omega)
 all_goals(rw[Bool.eq_iff_iff];simp only[Cu,Bool.and_eq_true,Bool.or_eq_true,decide_eq_true_eq,Bool.not_eq_true',decide_eq_false_iff_not,bne_iff_ne,ne_eq,beq_iff_eq,Bool.not_not,reduceCtorEq,Bool.false_eq_true,true_iff,false_iff,iff_true,iff_false,not_true,not_false_eq_true]<;>omega))
def KG:Sig:= {X:=UInt8,args:=fun x=>[.int .u8 x.toNat],pre:=fun x=>True,Y:=Unit,post:=fun x y=>True,res:=fun x y=> .bool (BO x),outs:=fun x y=>[.top],keep:=false}
theorem a5H:Aj G Tryz.prog 84 KG:=
 vcFun_okP [(82,0,Fx),(85,0,Gu)] [] false (fun x=>[]) Tryz.func84 rfl (by decide) ⟨XX,TE,trivial⟩ (fun(x:UInt8)=>(∀(y:Unit),True→True∧True∧True)∧cA Fx [AV.int IntKind.u8 (↑(UInt8.toNat x):Int)] fun x_1 y=>Aa (Cu x_1) (rA KG x [.bool true,.top]) (cA Gu [AV.int IntKind.u8 (↑(UInt8.toNat x):Int)] fun x_2 y=>rA KG x [.bool (Bt x_2),.top])) (fun x=>by kernel_rfl) fun(x:UInt8) (hx:True)=>(by
 dsimp only[cA,rA,Gu,Fx,KG,Av,AB,mvL,lnL,mvE,lnE]
 (repeat' first|(with_reducible first|rfl|exact True.intro|apply AK|apply And.intro|((first|apply Az|apply AI|apply AA|apply AJ)<;>intro _))|(apply Aw<;>intro _)|apply AH|refine Ae () ?_ ?_|((first|apply AO|apply AN|apply AM|apply AL|apply AG|apply AF|apply AE|apply AD|apply AC)<;>try dsimp only)|apply Ae|(refine Prod.forall.2 ?_;intro _;try dsimp only)|(intro _;try dsimp only))<;>(try dsimp only at*)<;>(try simp only[AR,List.length_cons,List.length_nil])<;>(try omega)
 all_goals simp [BO, *])
def Ii:Sig:= {X:=UInt8,args:=fun x=>[.int .u8 x.toNat],pre:=fun x=>True,Y:=Unit,post:=fun x y=>True,res:=fun x y=> .bool (Ck x),outs:=fun x y=>[.top],keep:=false}
theorem XZ:Aj G Tryz.prog 109 Ii:=
 vcFun_okP [] [] false (fun x=>[]) Tryz.func109 rfl (by decide) trivial (fun(x:UInt8)=>(∀(y:Unit),True→True∧True∧True)∧Aa (decide ((↑(UInt8.toNat x):Int)≥(32:Int))) (rA Ii x [.bool (decide ((↑(UInt8.toNat x):Int)≤(126:Int))),.top]) (rA Ii x [.bool false,.top])) (fun x=>by kernel_rfl) fun(x:UInt8) (hx:True)=>(by
 dsimp only[rA,Ii,Av,AB]
 (repeat' first|(with_reducible first|rfl|exact True.intro|apply AK|apply And.intro|((first|apply Az|apply AI|apply AA|apply AJ)<;>intro _))|(apply Aw<;>intro _)|apply AH|refine Ae () ?_ ?_|((first|apply AO|apply AN|apply AM|apply AL|apply AG|apply AF|apply AE|apply AD|apply AC)<;>try dsimp only)|apply Ae|(refine Prod.forall.2 ?_;intro _;try dsimp only)|(intro _;try dsimp only))<;>(try dsimp only at*)<;>(try simp only[AR,List.length_cons,List.length_nil])<;>(try omega)
 all_goals(rw[Bool.eq_iff_iff];simp only[Ck,Bool.and_eq_true,Bool.or_eq_true,decide_eq_true_eq,Bool.not_eq_true',decide_eq_false_iff_not,bne_iff_ne,ne_eq,beq_iff_eq,Bool.not_not,reduceCtorEq,Bool.false_eq_true,true_iff,false_iff,iff_true,iff_false,not_true,not_false_eq_true]<;>omega))
def Mo:Sig:= {X:=UInt8,args:=fun x=>[.int .u8 x.toNat],pre:=fun x=>True,Y:=Unit,post:=fun x y=>True,res:=fun x y=> .bool (Cf x),outs:=fun x y=>[.top],keep:=false}
theorem a5I:Aj G Tryz.prog 88 Mo:=
 vcFun_okP [] [] false (fun x=>[]) Tryz.func88 rfl (by decide) trivial (fun(x:UInt8)=>(∀(y:Unit),True→True∧True∧True)∧rA Mo x [.bool ((↑(UInt8.toNat x):Int) != (10:Int)),.top]) (fun x=>by kernel_rfl) fun(x:UInt8) (hx:True)=>(by
 dsimp only[rA,Mo,Av,AB]
 (repeat' first|(with_reducible first|rfl|exact True.intro|apply AK|apply And.intro|((first|apply Az|apply AI|apply AA|apply AJ)<;>intro _))|(apply Aw<;>intro _)|apply AH|refine Ae () ?_ ?_|((first|apply AO|apply AN|apply AM|apply AL|apply AG|apply AF|apply AE|apply AD|apply AC)<;>try dsimp only)|apply Ae|(refine Prod.forall.2 ?_;intro _;try dsimp only)|(intro _;try dsimp only))<;>(try dsimp only at*)<;>(try simp only[AR,List.length_cons,List.length_nil])<;>(try omega)
 all_goals(rw[Bool.eq_iff_iff];simp only[Cf,Bool.and_eq_true,Bool.or_eq_true,decide_eq_true_eq,Bool.not_eq_true',decide_eq_false_iff_not,bne_iff_ne,ne_eq,beq_iff_eq,Bool.not_not,reduceCtorEq,Bool.false_eq_true,true_iff,false_iff,iff_true,iff_false,not_true,not_false_eq_true]<;>omega))
def Eb(p:UInt8→Bool)(x:List UInt8)(rs:Int→List (Nat×AV)):LS:= {
 ι:=Int,inv:=fun i=>0≤i∧i≤x.length∧∀e∈x.take i.toNat,p e=true,regs:=rs,als:=[],meas:=fun i=>x.length-i.toNat}
def Ht:Sig:= {X:=List UInt8,args:=fun x=>[.str x],pre:=fun x=>x.length<2^63,Y:=Unit,post:=fun x y=>True,res:=fun x y=> .bool (x.all Ck),outs:=fun x y=>[.top],keep:=false}
theorem Ya:Aj G Tryz.prog 90 Ht:=
 vcFun_okP [] [] false (fun x=>[(2,Eb Ck x fun i=>[(0,.str x),(3,.int .i64 i)])]) Tryz.func90 rfl (by decide) trivial (fun(x:List UInt8)=>(∀(y:Unit),True→True∧True∧True)∧eA (Eb Ck x fun(i:Int)=>[((0:Nat),.str x),((3:Nat),.int .i64 i)]) [.str x,.int .i64 (0:Int)]∧∀(i:Int),((0:Int)≤i∧i≤(↑(List.length x):Int)∧∀(e:UInt8),e∈List.take (Int.toNat i) x→Ck e=true)→Aa (decide (i<(↑(List.length x):Int))) (((0:Int)≤i∧i<(↑(List.length x):Int))∧∀(c:UInt8),x[Int.toNat i]? =some c→Aa (decide ((↑(UInt8.toNat c):Int)<(32:Int))) (rA Ht x [.bool false,.top]) (((0:Int)≤i∧i<(↑(List.length x):Int))∧∀(c:UInt8),x[Int.toNat i]? =some c→Aa (decide ((↑(UInt8.toNat c):Int)>(126:Int))) (rA Ht x [.bool false,.top]) (inR IntKind.i64 (i+(1:Int))∧eN (Eb Ck x fun(i:Int)=>[((0:Nat),.str x),((3:Nat),.int .i64 i)]) i [.str x,.int .i64 (i+(1:Int))]))) (rA Ht x [.bool true,.top])) (fun x=>by kernel_rfl) fun(x:List UInt8) (hx:x.length<2^63)=>(by
 dsimp only[eA,eN,Eb,rA,Ht,Av,AB,Bw]
 (repeat' first|(with_reducible first|rfl|exact True.intro|apply AK|apply And.intro|((first|apply Az|apply AI|apply AA|apply AJ)<;>intro _))|(apply Aw<;>intro _)|apply AH|refine Ae () ?_ ?_|((first|apply AO|apply AN|apply AM|apply AL|apply AG|apply AF|apply AE|apply AD|apply AC)<;>try dsimp only)|apply Ae|(refine Prod.forall.2 ?_;intro _;try dsimp only)|(intro _;try dsimp only))<;>(try dsimp only at*)<;>(try simp only[AR,List.length_cons,List.length_nil])<;>(try omega)
 ·rename_i h;simp at h
 ·rename_i i hi hl c hc h;exact(Pz hc (by(rw[Bool.eq_iff_iff];simp only[Ck,Bool.and_eq_true,Bool.or_eq_true,decide_eq_true_eq,Bool.not_eq_true',decide_eq_false_iff_not,bne_iff_ne,ne_eq,beq_iff_eq,Bool.not_not,reduceCtorEq,Bool.false_eq_true,true_iff,false_iff,iff_true,iff_false,not_true,not_false_eq_true]<;>omega))).symm
 ·rename_i i hi hl c hc h d hd h2;exact(Pz hd (by(rw[Bool.eq_iff_iff];simp only[Ck,Bool.and_eq_true,Bool.or_eq_true,decide_eq_true_eq,Bool.not_eq_true',decide_eq_false_iff_not,bne_iff_ne,ne_eq,beq_iff_eq,Bool.not_not,reduceCtorEq,Bool.false_eq_true,true_iff,false_iff,iff_true,iff_false,not_true,not_false_eq_true]<;>omega))).symm
 ·rename_i i hi hl c hc h d hd h2 e he
  rw[hc] at hd;cases hd
  rw[Dd hi.1] at he;exact NK hi.2.2 hc (by(rw[Bool.eq_iff_iff];simp only[Ck,Bool.and_eq_true,Bool.or_eq_true,decide_eq_true_eq,Bool.not_eq_true',decide_eq_false_iff_not,bne_iff_ne,ne_eq,beq_iff_eq,Bool.not_not,reduceCtorEq,Bool.false_eq_true,true_iff,false_iff,iff_true,iff_false,not_true,not_false_eq_true]<;>omega)) e he
 ·rename_i i hi hl;exact(Ty hi.2.2 (by omega)).symm)
def KH:Sig:= {X:=List UInt8,args:=fun x=>[.str x,.clo (.func 84) []],pre:=fun x=>x.length<2^63,Y:=Unit,post:=fun x y=>True,res:=fun x y=> .str (x.takeWhile BO),outs:=fun x y=>[.top,.top],keep:=false}
theorem a5J:Aj G Tryz.prog 83 KH:=
 vcFun_okP [(84,0,KG)] [] false (fun x=>[(2,Eb BO x fun i=>[(0,.str x),(1,.clo (.func 84) []),(5,.int .i64 i)])]) Tryz.func83 rfl (by decide) ⟨a5H,trivial⟩ (fun(x:List UInt8)=>(∀(y:Unit),True→True∧True∧True∧True)∧eA (Eb BO x fun(i:Int)=>[((0:Nat),.str x),((1:Nat),AV.clo (Fn.func (84:FuncId)) []),((5:Nat),.int .i64 i)]) [.str x,AV.clo (Fn.func (84:FuncId)) [],.int .i64 (0:Int)]∧∀(i:Int),((0:Int)≤i∧i≤(↑(List.length x):Int)∧∀(e:UInt8),e∈List.take (Int.toNat i) x→BO e=true)→Aa (decide (i<(↑(List.length x):Int))) (((0:Int)≤i∧i<(↑(List.length x):Int))∧∀(c:UInt8),x[Int.toNat i]? =some c→cA KG [AV.int IntKind.u8 (↑(UInt8.toNat c):Int)] fun x_1 y=>Aa (BO x_1) (inR IntKind.i64 (i+(1:Int))∧eN (Eb BO x fun(i:Int)=>[((0:Nat),.str x),((1:Nat),AV.clo (Fn.func (84:FuncId)) []),((5:Nat),.int .i64 i)]) i [.str x,AV.clo (Fn.func (84:FuncId)) [],.int .i64 (i+(1:Int))]) (((0:Int)≤(0:Int)∧(0:Int)≤i∧i≤(↑(List.length x):Int))∧rA KH x [.str (List.take (Int.toNat i) x),.top,.top])) (((0:Int)≤(0:Int)∧(0:Int)≤i∧i≤(↑(List.length x):Int))∧rA KH x [.str (List.take (Int.toNat i) x),.top,.top])) (fun x=>by kernel_rfl) fun(x:List UInt8) (hx:x.length<2^63)=>(by
 dsimp only[cA,eA,eN,Eb,rA,KG,KH,Av,AB,mvL,lnL,mvE,lnE,Bw]
 (repeat' first|(with_reducible first|rfl|exact True.intro|apply AK|apply And.intro|((first|apply Az|apply AI|apply AA|apply AJ)<;>intro _))|(apply Aw<;>intro _)|apply AH|refine Ae () ?_ ?_|((first|apply AO|apply AN|apply AM|apply AL|apply AG|apply AF|apply AE|apply AD|apply AC)<;>try dsimp only)|apply Ae|(refine Prod.forall.2 ?_;intro _;try dsimp only)|(intro _;try dsimp only))<;>(try dsimp only at*)<;>(try simp only[AR,List.length_cons,List.length_nil])<;>(try omega)
 ·rename_i h;simp at h
 ·rename_i i hi hl c hc y _ hp e he
  rw[Dd hi.1] at he;exact NK hi.2.2 hc hp e he
 ·rename_i i hi hl c hc y _ hp
  exact IR hi.2.2 (.inr ⟨c,hc,hp⟩)
 ·rename_i i hi hl
  exact IR hi.2.2 (.inl (by omega)))
def KI:Sig:= {X:=List UInt8,args:=fun x=>[.str x,.clo (.func 85) []],pre:=fun x=>x.length<2^63,Y:=Unit,post:=fun x y=>True,res:=fun x y=> .str (x.takeWhile Bt),outs:=fun x y=>[.top,.top],keep:=false}
theorem a5K:Aj G Tryz.prog 83 KI:=
 vcFun_okP [(85,0,Gu)] [] false (fun x=>[(2,Eb Bt x fun i=>[(0,.str x),(1,.clo (.func 85) []),(5,.int .i64 i)])]) Tryz.func83 rfl (by decide) ⟨TE,trivial⟩ (fun(x:List UInt8)=>(∀(y:Unit),True→True∧True∧True∧True)∧eA (Eb Bt x fun(i:Int)=>[((0:Nat),.str x),((1:Nat),AV.clo (Fn.func (85:FuncId)) []),((5:Nat),.int .i64 i)]) [.str x,AV.clo (Fn.func (85:FuncId)) [],.int .i64 (0:Int)]∧∀(i:Int),((0:Int)≤i∧i≤(↑(List.length x):Int)∧∀(e:UInt8),e∈List.take (Int.toNat i) x→Bt e=true)→Aa (decide (i<(↑(List.length x):Int))) (((0:Int)≤i∧i<(↑(List.length x):Int))∧∀(c:UInt8),x[Int.toNat i]? =some c→cA Gu [AV.int IntKind.u8 (↑(UInt8.toNat c):Int)] fun x_1 y=>Aa (Bt x_1) (inR IntKind.i64 (i+(1:Int))∧eN (Eb Bt x fun(i:Int)=>[((0:Nat),.str x),((1:Nat),AV.clo (Fn.func (85:FuncId)) []),((5:Nat),.int .i64 i)]) i [.str x,AV.clo (Fn.func (85:FuncId)) [],.int .i64 (i+(1:Int))]) (((0:Int)≤(0:Int)∧(0:Int)≤i∧i≤(↑(List.length x):Int))∧rA KI x [.str (List.take (Int.toNat i) x),.top,.top])) (((0:Int)≤(0:Int)∧(0:Int)≤i∧i≤(↑(List.length x):Int))∧rA KI x [.str (List.take (Int.toNat i) x),.top,.top])) (fun x=>by kernel_rfl) fun(x:List UInt8) (hx:x.length<2^63)=>(by
 dsimp only[cA,eA,eN,Eb,rA,Gu,KI,Av,AB,mvL,lnL,mvE,lnE,Bw]
 (repeat' first|(with_reducible first|rfl|exact True.intro|apply AK|apply And.intro|((first|apply Az|apply AI|apply AA|apply AJ)<;>intro _))|(apply Aw<;>intro _)|apply AH|refine Ae () ?_ ?_|((first|apply AO|apply AN|apply AM|apply AL|apply AG|apply AF|apply AE|apply AD|apply AC)<;>try dsimp only)|apply Ae|(refine Prod.forall.2 ?_;intro _;try dsimp only)|(intro _;try dsimp only))<;>(try dsimp only at*)<;>(try simp only[AR,List.length_cons,List.length_nil])<;>(try omega)
 ·rename_i h;simp at h
 ·rename_i i hi hl c hc y _ hp e he
  rw[Dd hi.1] at he;exact NK hi.2.2 hc hp e he
 ·rename_i i hi hl c hc y _ hp
  exact IR hi.2.2 (.inr ⟨c,hc,hp⟩)
 ·rename_i i hi hl
  exact IR hi.2.2 (.inl (by omega)))
def KJ:Sig:= {X:=List UInt8,args:=fun x=>[.str x,.clo (.func 88) []],pre:=fun x=>x.length<2^63,Y:=Unit,post:=fun x y=>True,res:=fun x y=> .str (x.takeWhile Cf),outs:=fun x y=>[.top,.top],keep:=false}
theorem a5L:Aj G Tryz.prog 83 KJ:=
 vcFun_okP [(88,0,Mo)] [] false (fun x=>[(2,Eb Cf x fun i=>[(0,.str x),(1,.clo (.func 88) []),(5,.int .i64 i)])]) Tryz.func83 rfl (by decide) ⟨a5I,trivial⟩ (fun(x:List UInt8)=>(∀(y:Unit),True→True∧True∧True∧True)∧eA (Eb Cf x fun(i:Int)=>[((0:Nat),.str x),((1:Nat),AV.clo (Fn.func (88:FuncId)) []),((5:Nat),.int .i64 i)]) [.str x,AV.clo (Fn.func (88:FuncId)) [],.int .i64 (0:Int)]∧∀(i:Int),((0:Int)≤i∧i≤(↑(List.length x):Int)∧∀(e:UInt8),e∈List.take (Int.toNat i) x→Cf e=true)→Aa (decide (i<(↑(List.length x):Int))) (((0:Int)≤i∧i<(↑(List.length x):Int))∧∀(c:UInt8),x[Int.toNat i]? =some c→cA Mo [AV.int IntKind.u8 (↑(UInt8.toNat c):Int)] fun x_1 y=>Aa (Cf x_1) (inR IntKind.i64 (i+(1:Int))∧eN (Eb Cf x fun(i:Int)=>[((0:Nat),.str x),((1:Nat),AV.clo (Fn.func (88:FuncId)) []),((5:Nat),.int .i64 i)]) i [.str x,AV.clo (Fn.func (88:FuncId)) [],.int .i64 (i+(1:Int))]) (((0:Int)≤(0:Int)∧(0:Int)≤i∧i≤(↑(List.length x):Int))∧rA KJ x [.str (List.take (Int.toNat i) x),.top,.top])) (((0:Int)≤(0:Int)∧(0:Int)≤i∧i≤(↑(List.length x):Int))∧rA KJ x [.str (List.take (Int.toNat i) x),.top,.top])) (fun x=>by kernel_rfl) fun(x:List UInt8) (hx:x.length<2^63)=>(by
 dsimp only[cA,eA,eN,Eb,rA,KJ,Mo,Av,AB,mvL,lnL,mvE,lnE,Bw]
 (repeat' first|(with_reducible first|rfl|exact True.intro|apply AK|apply And.intro|((first|apply Az|apply AI|apply AA|apply AJ)<;>intro _))|(apply Aw<;>intro _)|apply AH|refine Ae () ?_ ?_|((first|apply AO|apply AN|apply AM|apply AL|apply AG|apply AF|apply AE|apply AD|apply AC)<;>try dsimp only)|apply Ae|(refine Prod.forall.2 ?_;intro _;try dsimp only)|(intro _;try dsimp only))<;>(try dsimp only at*)<;>(try simp only[AR,List.length_cons,List.length_nil])<;>(try omega)
 ·rename_i h;simp at h
 ·rename_i i hi hl c hc y _ hp e he
  rw[Dd hi.1] at he;exact NK hi.2.2 hc hp e he
 ·rename_i i hi hl c hc y _ hp
  exact IR hi.2.2 (.inr ⟨c,hc,hp⟩)
 ·rename_i i hi hl
  exact IR hi.2.2 (.inl (by omega)))
end Go.My
end
