/- A part of the proof: the engine and the contracts, joined. -/
import Derived.Test.YtjmoahjpdapjkaaGreatDoorQC
import Derived.Orders
import Derived.OrdersHeld
import Derived.Test.YtjmoahjpdapjkaaGreatDoorProg
import Derived.WalkKit
import Derived.Lib.Bytealg
import Derived.Laws.Externs
section
set_option linter.unusedVariables false
set_option linter.unusedSimpArgs false
namespace Go.Eng
theorem XB{P:Program}{Γ:FuncId→Nat→Option Sig}{C:Ctx}(hΓ:∀f k S,Γ f k=some S→Aj C.G P f S){E:TypeId→Option ES}{ov:Bool}{ops:Array Oper}{js:List Nat}{a0:Act}
 (hjs:∀(i:Nat) (o:Oper),ops[i]? =some o→GU js o.dst=true) {Q:Exit→Act→World→Prop} {N:Act→World→Prop} (i:Nat) (s:St) (K:St→Prop) (a:Act) (w:World) (h:DN P Γ E ov ops [i] s K)
 (hr:Rel C s a w) (hf:DC js a0 a) (hQ:∀s' a' w',K s'→Rel C s' a' w'→DC js a0 a'→N a' w'):wpOp P ops Q i N a w:=by
 simp only[DN] at h
 unfold wpOp
 split at h
 ·rename_i ho
  simp only[ho]
  exact hQ s a w h hr hf
 ·rename_i o ho
  simp only[ho]
  have hav:=hjs i o ho
  have run:∀(s1:St),Rel C s1 a w→IQ P Γ E ov o s1 K→o.wp P a w N Q:=by
   intro s1 hr1 h1
   have:=Xr hΓ h1 hr1 Q
   refine Mh.Oper_wp_mono this ?_
   rintro a' w' ⟨s',hk,hr',v,rfl⟩
   exact hQ s' _ w' hk hr' (hf.put hav v)
  have skip:∀(s1:St),Rel C s1 a w→K ⟨setR s1.regs o.dst (.tup []),s1.nx⟩→N (a.put o.dst undef) w:=by
   intro s1 hr1 h1
   exact hQ _ _ w h1 (hr1.skip o.dst) (hf.put hav undef)
  split at h
  ·rename_i hg
   have hw:Region.wanted o (yielded ops a.tmps)=true:=by simp [Region.wanted,hg]
   rw[if_pos hw]
   simp only[ND] at h
   exact .inl (run s hr h)
  ·rename_i j want hg
   split at h
   ·exact h.elim
   ·rename_i d hd
    have hy:yielded ops a.tmps j=(match a.tmps[d]? with|some (.bool b)=>some b|_=>none):=by
     simp only[yielded,hd];rfl
    split at h
    ·rename_i fs hreg
     have hnone:yielded ops a.tmps j=none:=by
      obtain⟨η,Z,T,hi⟩:=hr
      obtain⟨v,A,B,hv,hrr,_⟩:=Hn s.regs _ T d _ hi.rel hreg
      simp only[Ad] at hrr
      obtain⟨cs,e,_⟩:=hrr
      have:a.tmps[d]? =some v:=by rw[←Array.getElem?_toList,hv]
      rw[hy,this,e]
     have hw:¬Region.wanted o (yielded ops a.tmps)=true:=by simp [Region.wanted,hg,hnone]
     rw[if_neg hw]
     exact skip s hr h
    ·rename_i c hreg
     obtain⟨hr1,ht⟩:=hr.know hreg
     have hyc:yielded ops a.tmps j=some c:=by rw[hy,ht]
     have hw:Region.wanted o (yielded ops a.tmps)=(c==want):=by simp [Region.wanted,hg,hyc]
     rw[hw]
     unfold Aa at h
     cases c
     ·cases want
      ·simp only[Fe] at h
       rw[if_pos (by rfl)];exact .inl (run _ hr1 h)
      ·simp only[Fe] at h
       rw[if_neg (by decide)];exact skip _ hr1 h
     ·cases want
      ·simp only[Fe] at h
       rw[if_neg (by decide)];exact skip _ hr1 h
      ·simp only[Fe] at h
       rw[if_pos (by rfl)];exact .inl (run _ hr1 h)
    ·exact h.elim
def Tk:List Nat→(Nat→Prop)→Prop
 |[],_=>True
 |[i],p=>p i
 |i::l,p=>p i∧Tk l p
theorem XC{p:Nat→Prop}:∀ {l:List Nat},Tk l p→∀i∈l,p i
 |[],_,i,h=>by simp at h
 |[j],hp,i,h=>by simp at h;subst h;exact hp
 |j::k::l,hp,i,h=>by
  rcases List.mem_cons.1 h with rfl|h
  ·exact hp.1
  ·exact XC hp.2 i h
def Tl(regs:List AV)(ops:Array Oper)(listed:Array Bool)(i:Nat):Bool:=match ops[i]? with
 |some o=>match o.guard with
  |none=>match Pe regs o.op with
   |true=>Region.free .any ops listed i
   |false=>false
  |some _=>false
 |none=>false
def Pt(regs:List AV)(ops:Array Oper)(listed:Array Bool):List Nat→Option Nat
 |[]=>none
 |i::l=>match Tl regs ops listed i with
  |true=>some i
  |false=>Pt regs ops listed l
theorem XD{regs:List AV}{ops:Array Oper}{listed:Array Bool}:∀ {l:List Nat} {i:Nat},Pt regs ops listed l=some i→i∈l∧Tl regs ops listed i=true
 |[],i,h=>by cases h
 |j::l,i,h=>by
  unfold Pt at h
  split at h
  ·rename_i hj;cases h;exact⟨by simp,hj⟩
  ·have:=XD h;exact⟨by simp [this.1],this.2⟩
def Kx(P:Program)(Γ:FuncId→Nat→Option Sig)(E:TypeId→Option ES)(ov:Bool)(ops:Array Oper):Nat→Array Bool→St→(St→Prop)→Prop
 |0,listed,s,K=>(Region.ready .any ops listed).isEmpty=true∧K s
 |fuel+1,listed,s,K=>match Region.ready .any ops listed with
  |[]=>K s
  |i::l=>match Region.noSelect ops,Pt s.regs ops listed (i::l) with
   |true,some j=>DN P Γ E ov ops [j] s fun s'=>Kx P Γ E ov ops fuel (listed.setIfInBounds j true) s' K
   |_,_=>Tk (i::l) fun i=>DN P Γ E ov ops [i] s fun s'=>Kx P Γ E ov ops fuel (listed.setIfInBounds i true) s' K
def JL(R:Act→World→Prop):Exit→Act→World→Prop
 | .normal,a,w=>R a w
 |_,_,_=>False
theorem XE{P:Program}{ops:Array Oper}{Q:Exit→Act→World→Prop}{S S':World→Prop}(h:∀w,S w→S' w):∀(fuel:Nat) (listed:Array Bool) (a:Act) (w:World),
 wpAnyH P .any ops Q S fuel listed a w→wpAnyH P .any ops Q S' fuel listed a w
 |0,_,_,_,hh=>hh
 |fuel+1,listed,a,w,hh=>⟨hh.1,fun i hi=>wpOp_mono (fun a' w' h'=>⟨h w' h'.1,XE h fuel _ a' w' h'.2⟩) (hh.2 i hi)⟩
def Inst.here{C:Ctx}{s:St}{a:Act}{w:World}{η:Nat→Value}{Z T:FP}(hi:Inst C s a w η Z T):Ctx:=⟨w,Z,T,C.G,hi.ok.glob,fun b hb=>(hi.own b hb).1⟩
theorem Inst.at_here{C:Ctx}{s:St}{a:Act}{w:World}{η:Nat→Value}{Z T:FP}(hi:Inst C s a w η Z T):Inst hi.here s a w η Z T:=
 ⟨hi.defers,hi.rel,hi.ids,fun b hb=>⟨(hi.own b hb).1,(hi.own b hb).2.1,fun _=>hb⟩,⟨rfl,rfl,rfl,Nat.le_refl _,fun b _ _=>⟨rfl,Iff.rfl⟩⟩⟩
theorem Inst.from_here{C:Ctx}{s:St}{a:Act}{w:World}{η:Nat→Value}{Z T:FP}(hi:Inst C s a w η Z T){s':St}{a':Act}{w':World}{η':Nat→Value}{Z' T':FP}(h:Inst hi.here s' a' w' η' Z' T'):
 Inst C s' a' w' η' Z' T':=by
 refine⟨h.defers,h.rel,h.ids,fun b hb=> ?_,?_⟩
 ·obtain⟨h1,h2,h3⟩:=h.own b hb
  refine⟨h1,h2,fun hlt=> ?_⟩
  exact(hi.own b (h3 (Nat.lt_of_lt_of_le hlt hi.ok.size))).2.2 hlt
 ·refine⟨h.ok.os.trans hi.ok.os,h.ok.tape.trans hi.ok.tape,h.ok.output.trans hi.ok.output,Nat.le_trans hi.ok.size h.ok.size,fun b hlt hn=> ?_⟩
  obtain⟨g1,g2⟩:=hi.ok.old b hlt hn
  have hT:¬T b:=fun hb=>hn ((hi.own b hb).2.2 hlt)
  obtain⟨g3,g4⟩:=h.ok.old b (Nat.lt_of_lt_of_le hlt hi.ok.size) hT
  exact⟨g3.trans g1,g4.trans g2⟩
theorem Inst.agree{C:Ctx}{s:St}{a:Act}{w:World}{η:Nat→Value}{Z T:FP}(hi:Inst C s a w η Z T){s':St}{a':Act}{w':World}{η':Nat→Value}{Z' T':FP}(h:Inst hi.here s' a' w' η' Z' T'):
 LU Z w w'∧∀b,¬Z b→b<w.heap.size→¬Z' b:=by
 have key:∀b,¬Z b→b<w.heap.size→w'.heap[b]? =w.heap[b]? ∧¬Z' b:=fun b hz hlt=>by
  obtain⟨g1,g2⟩:=h.ok.old b hlt (fun hb=>hz (hi.own b hb).1)
  exact⟨g1,fun x=>hz (g2.1 x)⟩
 exact⟨fun b hz hlt=>(key b hz hlt).1,fun b hz hlt=>(key b hz hlt).2⟩
theorem Tm{P:Program}{Γ:FuncId→Nat→Option Sig}{C:Ctx}(hΓ:∀f k S,Γ f k=some S→Aj C.G P f S){E:TypeId→Option ES}{ov:Bool}{ops:Array Oper}{js:List Nat}{a0:Act}
 (hjs:∀(i:Nat) (o:Oper),ops[i]? =some o→GU js o.dst=true) {R:Act→World→Prop}:
 ∀(fuel:Nat) (listed:Array Bool) (s:St) (K:St→Prop) (a:Act) (w:World) (η:Nat→Value) (Z T:FP) (S:World→Prop),Kx P Γ E ov ops fuel listed s K→Inst C s a w η Z T→DC js a0 a→
 (∀w',w.heap.size≤w'.heap.size→LU Z w w'→S w')→(∀s' a' w',K s'→Rel C s' a' w'→DC js a0 a'→R a' w')→wpAnyH P .any ops (JL R) S fuel listed a w
 |0,listed,s,K,a,w,η,Z,T,S,h,hi,hf,hS,hQ=>by
  obtain⟨h1,h2⟩:=h
  exact⟨List.isEmpty_iff.1 h1,hQ s a w h2 ⟨η,Z,T,hi⟩ hf⟩
 |fuel+1,listed,s,K,a,w,η,Z,T,S,h,hi,hf,hS,hQ=>by
  unfold Kx at h
  split at h
  ·rename_i he
   unfold wpAnyH
   rw[he]
   exact⟨fun _=>hQ s a w h ⟨η,Z,T,hi⟩ hf,fun i hi=>(by cases hi)⟩
  ·rename_i i l he
   split at h
   ·rename_i j hns hj
    obtain⟨hm,hej⟩:=XD hj
    unfold Tl at hej
    split at hej
    rotate_left
    ·cases hej
    rename_i o ho
    split at hej
    rotate_left
    ·cases hej
    rename_i hg
    split at hej
    rotate_left
    ·cases hej
    rename_i hop
    have hav:=hjs j o ho
    simp only[DN,ho,hg,ND] at h
    have hp:EO P ov s.regs o.op (fun r=>Kx P Γ E ov ops fuel (listed.setIfInBounds j true) ⟨setR s.regs o.dst r,s.nx⟩ K):=by
     unfold IQ at h
     cases heq:o.op<;>simp only[heq,Pe,Bool.false_eq_true] at hop<;>simp only[heq] at h ⊢ <;>exact h
    obtain⟨v,r,h1,h2,h3,h4⟩:=a4E hop hp hi.rel hi.ids
    have hw:Region.wanted o (yielded ops a.tmps)=true:=by simp [Region.wanted,hg]
    obtain⟨η2,Z2,T2,hi2⟩:=hi.at_here.put o.dst h2 h3
    obtain⟨hag,hzz⟩:=hi.agree hi2
    have hsz:=hi2.ok.size
    refine XE (S:=fun w'=>S w'∧LU Z w w') (fun w' h=>h.1) _ _ _ _ ?_
    refine wpAnyH_take ho hns hej (by rw[he];simpa using hm) (fun c a w h=>h) (.inl ⟨hw,fun w' hw'=>h1 w' hw'.2⟩) ⟨hS w (Nat.le_refl _) (fun _ _ _=>rfl),fun _ _ _=>rfl⟩ ?_
    refine Tm hΓ hjs fuel _ _ K _ w η2 Z2 T2 _ h4 (hi.from_here hi2) (hf.put hav v) (fun w' hle hA=> ?_) hQ
    have hA':LU Z w w':=fun b hz hlt=>hA b (hzz b hz hlt) hlt
    exact⟨hS w' hle hA',hA'⟩
   ·unfold wpAnyH
    rw[he]
    refine⟨fun h=>(by cases h),fun j hj=> ?_⟩
    refine XB (C:=hi.here) hΓ hjs j s _ a w (XC h j hj) ⟨η,Z,T,hi.at_here⟩ hf fun s' a' w' hk hr' hf'=> ?_
    obtain⟨η2,Z2,T2,hi2⟩:=hr'
    obtain⟨hag,hzz⟩:=hi.agree hi2
    have hsz:w.heap.size≤w'.heap.size:=hi2.ok.size
    refine⟨hS w' hsz hag,Tm hΓ hjs fuel _ s' K a' w' η2 Z2 T2 S hk (hi.from_here hi2) hf' (fun w2 hle hA=> ?_) hQ⟩
    exact hS w2 (Nat.le_trans hsz hle) fun b hz hlt=>(hA b (hzz b hz hlt) (Nat.lt_of_lt_of_le hlt hsz)).trans (hag b hz hlt)
theorem a5q{P:Program}{Γ:FuncId→Nat→Option Sig}{C:Ctx}(hΓ:∀f k S,Γ f k=some S→Aj C.G P f S){E:TypeId→Option ES}{ov:Bool}{id:Nat}{ops:Array Oper}{js:List Nat}{a0:Act}
 {Q:Exit→Act→World→Prop} {s:St} {K:St→Prop} {a:Act} {w:World} (hm:P.follows .mixedOrders=true) (h:Kx P Γ E ov ops ops.size (Array.replicate ops.size false) s K)
 (hjs:∀(i:Nat) (o:Oper),ops[i]? =some o→GU js o.dst=true)
 (hr:Rel C s a w) (hf:DC js a0 a) (hQ:∀s' a' w',K s'→Rel C s' a' w'→DC js a0 a'→Q .normal a' w'):(Code.region id ops true).wp P Q a w:=by
 refine wp_mono (Q:=JL fun a w=>Q .normal a w) (wp_region_any hm ?_) (fun e a w h=> ?_)
 ·obtain⟨η,Z,T,hi⟩:=hr.ext (w':= {w with drawn:=w.drawn+1}) ⟨rfl,rfl,rfl,Nat.le_refl _,fun _ _=>rfl⟩
  exact wpAny_of_held _ _ _ _ (Tm hΓ hjs _ _ s K a _ η Z T (fun _=>True) h hi hf (fun _ _ _=>trivial) hQ)
 ·cases e<;>simp only[JL] at h<;>exact h
def Tn(ops:Array Oper)(i:Nat):Bool:=match ops[i]? with
 |some o=>match o.guard with
  |none=>Pf o.op
  |some _=>false
 |none=>false
def Pu(ops:Array Oper)(oi:Oper):List Nat→Bool
 |[]=>true
 |j::l=>match ops[j]? with
  |some oj=>match oi.apart ops oj with
   |true=>Pu ops oi l
   |false=>false
  |none=>false
def To(ops:Array Oper)(i:Nat)(pre:List Nat):Bool:=match ops[i]? with
 |some oi=>Pu ops oi pre
 |none=>false
def Pv(ops:Array Oper):List Nat→List Nat→Option (List Nat×Nat×List Nat)
 |_,[]=>none
 |pre,i::rest=>match Tn ops i,To ops i pre with
  |true,true=>some (pre,i,rest)
  |_,_=>Pv ops (pre++[i]) rest
def Mj(P:Program)(Γ:FuncId→Nat→Option Sig)(E:TypeId→Option ES)(ov:Bool)(ops:Array Oper):Nat→List Nat→St→(St→Prop)→Prop
 |0,_,_,_=>False
 |_+1,[],s,K=>K s
 |n+1,j::rest,s,K=>match Pv ops [j] rest with
  |some (pre,i,post)=>DN P Γ E ov ops [i] s fun s'=>Mj P Γ E ov ops n (pre++post) s' K
  |none=>DN P Γ E ov ops [j] s fun s'=>Mj P Γ E ov ops n rest s' K
theorem XF{ops:Array Oper}:∀ {l pre pre' post:List Nat} {i:Nat},Pv ops pre l=some (pre',i,post)→Tn ops i=true∧To ops i pre'=true∧pre++l=pre'++i::post
 |[],pre,pre',post,i,h=>by cases h
 |j::l,pre,pre',post,i,h=>by
  unfold Pv at h
  split at h
  ·rename_i h1 h2
   simp only[Option.some.injEq,Prod.mk.injEq] at h
   obtain⟨rfl,rfl,rfl⟩:=h
   exact⟨h1,h2,rfl⟩
  ·obtain⟨h1,h2,h3⟩:=XF h
   exact⟨h1,h2,by rw[←h3];simp⟩
theorem XG{P:Program}{ops:Array Oper}{R:Act→World→Prop}{i:Nat}{oi:Oper}{v:Value}(hi:ops[i]? =some oi)(hs:Region.noSelect ops=true){post:List Nat}:
 ∀ {pre:List Nat} {a:Act} {w:World},Pu ops oi pre=true→Yields P ops oi v a→wpOps P ops (JL R) (pre++post) (a.put oi.dst v) w→wpOps P ops (JL R) (pre++i::post) a w
 |[],a,w,_,hy,h=>by
  rw[List.nil_append,wpOps_cons];exact hy.wpOp hi h
 |j::pre,a,w,hap,hy,h=>by
  unfold Pu at hap
  split at hap
  rotate_left
  ·cases hap
  rename_i oj hj
  split at hap
  rotate_left
  ·cases hap
  rename_i hapj
  rw[List.cons_append,wpOps_cons] at h ⊢
  have:=wpOp_put hj hapj (fun cs b=>Region.noSelect_spec hs i oi cs b hi) (fun cs b=>Region.noSelect_spec hs j oj cs b hj) (fun c a w h=>h) hy h
  exact wpOp_mono (fun a' w' h'=>XG hi hs hap h'.1 h'.2) this
theorem Tp{P:Program}{Γ:FuncId→Nat→Option Sig}{C:Ctx}(hΓ:∀f k S,Γ f k=some S→Aj C.G P f S){E:TypeId→Option ES}{ov:Bool}{ops:Array Oper}{js:List Nat}{a0:Act}
 (hs:Region.noSelect ops=true) (hjs:∀(i:Nat) (o:Oper),ops[i]? =some o→GU js o.dst=true) {R:Act→World→Prop}:
 ∀(n:Nat) (l:List Nat) (s:St) (K:St→Prop) (a:Act) (w:World),Mj P Γ E ov ops n l s K→Rel C s a w→DC js a0 a→
 (∀s' a' w',K s'→Rel C s' a' w'→DC js a0 a'→R a' w')→wpOps P ops (JL R) l a w
 |0,l,s,K,a,w,h,hr,hf,hQ=>h.elim
 |n+1,[],s,K,a,w,h,hr,hf,hQ=>hQ s a w h hr hf
 |n+1,j::rest,s,K,a,w,h,hr,hf,hQ=>by
  unfold Mj at h
  split at h
  ·rename_i pre i post hfi
   obtain⟨h1,h2,h3⟩:=XF hfi
   have h3:j::rest=pre++i::post:=h3
   rw[h3]
   unfold Tn at h1
   split at h1
   rotate_left
   ·cases h1
   rename_i o ho
   split at h1
   rotate_left
   ·cases h1
   rename_i hg
   unfold To at h2
   rw[ho] at h2
   simp only[DN,ho,hg,ND] at h
   obtain⟨η,Z,T,hi⟩:=hr
   have hp:EO P ov s.regs o.op (fun r=>Mj P Γ E ov ops n (pre++post) ⟨setR s.regs o.dst r,s.nx⟩ K):=by
    unfold IQ at h
    unfold Pf at h1
    split at h1
    ·rename_i x heq
     simp only[heq] at h ⊢;exact h
    ·rename_i args ts heq
     simp only[heq] at h ⊢;exact h
    ·cases h1
   obtain⟨v,r,g1,g2,g3,g4⟩:=a4F h1 hp hi.rel hi.ids
   have hw:Region.wanted o (yielded ops a.tmps)=true:=by simp [Region.wanted,hg]
   exact XG ho hs h2 (.inl ⟨hw,g1⟩) (Tp hΓ hs hjs n _ _ K _ w g4 (hi.put o.dst g2 g3) (hf.put (hjs i o ho) v) hQ)
  ·rw[wpOps_cons]
   exact XB hΓ hjs j s _ a w h hr hf fun s' a' w' hk hr' hf'=>Tp hΓ hs hjs n _ s' K a' w' hk hr' hf' hQ
end Go.Eng
end
section
set_option linter.unusedVariables false
set_option linter.unusedSimpArgs false
namespace Go.Eng
inductive Ex where
 |normal
 |exit (id:Nat)
 |ret
def Ex.to:Ex→Exit
 | .normal=> .normal
 | .exit id=> .exit id
 | .ret=> .ret
structure LS:Type 1 where
 ι:Type
 inv:ι→Prop
 regs:ι→List (Nat×AV)
 als:List (Nat×Nat)
 meas:ι→Nat
 sub:ι→List (Nat×LS):=fun _=>[]
 clos:List (Nat×Fn×Nat):=[]
def Tq:List (Nat×LS)→(Nat→Option LS)→Nat→Option LS
 |[],L=>L
 |(g,S)::l,L=>fun f=>match Nat.beq g f with
  |true=>some S
  |false=>Tq l L f
def NE:List (Nat×AV)→List AV→(List AV→Prop)→Prop
 |[],regs,K=>K regs
 |(j,e)::rest,regs,K=>DI false e regs (Bi regs (.tmp j)) fun regs'=>NE rest regs' K
def NF(regs:List AV):List (Nat×Nat)→Prop
 |[]=>True
 |(s,j)::rest=>(match Bi regs (.tmp s),Bi regs (.tmp j) with
    | .al a,.al b=>match Nat.beq a b with
      |true=>True
      |false=>False
    |_,_=>False)∧NF regs rest
def Ky:List AV→List Nat→List AV→List AV
 |regs,j::js,a::azs=>Ky (regs.set j a) js azs
 |regs,_,_=>regs
def NG:List AV→List (Nat×Nat)→List AV
 |regs,[]=>regs
 |regs,(s,j)::rest=>NG (regs.set s (Bi regs (.tmp j))) rest
def Pw:List (Nat×Fn×Nat)→List AV→List AV
 |[],regs=>regs
 |(p,fn,j)::l,regs=>Pw l (match regs[j]? with
  |some (.box id _)=>regs.set p (.clo fn [.al id])
  |_=>regs)
def Tr(caps:List (Nat×Fn×Nat))(s:St):St:=match caps with
 |[]=>s
 |c::cs=>⟨Pw (c::cs) s.regs,s.nx⟩
def Px(regs:List AV):List (Nat×Fn×Nat)→Prop
 |[]=>True
 |(s,fn,j)::rest=>(match Bi regs (.tmp s),Bi regs (.tmp j) with
    | .clo fn' [.al a],.al b=>match Ny fn' fn,Nat.beq a b with
      |true,true=>True
      |_,_=>False
    |_,_=>False)∧Px regs rest
def Kz(N:Nat)(L:LS)(i:L.ι):St:=
 ⟨NG (Ky (List.replicate N .top) ((L.regs i).map (·.1)) (Cs 0 ((L.regs i).map (·.2))).1) L.als,(Cs 0 ((L.regs i).map (·.2))).2⟩
def KA(N:Nat)(L:LS)(i:L.ι):St:=Tr L.clos (Kz N L i)
def Ts(s:St)(L:LS)(i:L.ι):Prop:=NE (L.regs i) s.regs (fun _=>True)∧NF s.regs L.als
def enter(s:St)(L:LS)(i:L.ι):Prop:=match L.clos with
 |[]=>NE (L.regs i) s.regs (fun _=>True)∧NF s.regs L.als
 |c::cs=>Ts s L i∧Px s.regs (c::cs)
theorem a5r{s:St}{L:LS}{i:L.ι}(h:enter s L i):Ts s L i∧Px s.regs L.clos:=by
 unfold enter at h
 cases hc:L.clos with
 |nil=>rw[hc] at h;exact⟨h,trivial⟩
 |cons c cs=>rw[hc] at h;exact h
theorem XH{η:Nat→Value}{w:World}{n:Nat}{a:Act}:∀(es:List (Nat×AV)) (regs:List AV) (K:List AV→Prop),NE es regs K→
 ∀(Z B:FP),Aq Z η w regs a.tmps.toList B→AX n regs→(∀b,B b→Z b)→
 ∃Z' A',AZ Z' w (es.map (·.2)) (es.map fun p=>a.eval (.tmp p.1)) A'∧(∀b,Z' b→Z b)∧(∀b,Z b→¬Z' b→B b)∧(∀b,A' b→B b)∧(∀b,A' b→Z' b)
 |[],regs,K,h,Z,B,hR,hI,hB=>⟨Z,fun _=>False,by simp [AZ,emp],fun _ h=>h,fun _ h h'=>(h' h).elim,fun _ h=>h.elim,fun _ h=>h.elim⟩
 |(j,e)::es,regs,K,h,Z,B,hR,hI,hB=>by
  unfold NE at h
  obtain⟨Z1,A1,B1,r1,ho⟩:=WY e regs _ _ h Z a.tmps.toList (a.eval (.tmp j)) B (fun _=>False) B hR hI (EC hR (.tmp j)) (GN hI (.tmp j)) (Ck B)
  obtain⟨Z2,A2,k1,k2,k3,k4,k5⟩:=XH es r1 K ho.k Z1 B1 ho.rel ho.ids (fun b hb=>ho.ownB rfl b hb (hB b (ho.part b (.inr hb))))
  refine⟨Z2,fun b=>A1 b∨A2 b,?_,fun b hb=>ho.zz b (k2 b hb),?_,?_,?_⟩
  ·simp only[List.map_cons,AZ]
   refine⟨_,_,A1,A2,rfl,⟨fun _=>Iff.rfl,fun b x y=>ho.dis b x (k4 b y)⟩,FQ (GS k2) _ _ _ (fun _ _=>rfl) ho.got,k1⟩
  ·intro b hz hz2
   by_cases hz1:Z1 b
   ·exact ho.part b (.inr (k3 b hz1 hz2))
   ·exact ho.gone b hz hz1
  ·intro b hb
   exact hb.elim (fun hb=>ho.part b (.inl hb)) (fun hb=>ho.part b (.inr (k4 b hb)))
  ·intro b hb
   rcases hb with hb|hb
   ·have hz1:=ho.ownA b hb (hB b (ho.part b (.inl hb)))
    exact Classical.byContradiction fun hn=>ho.dis b hb (k3 b hz1 hn)
   ·exact k5 b hb
theorem Tt{Z:FP}{η:Nat→Value}{w:World}{n:Nat}{a:Act}:∀(js:List Nat) (azs regs:List AV) (A B:FP),Aq Z η w regs a.tmps.toList B→AX n regs→js.length=azs.length→
 Aq Z η w azs (js.map fun j=>a.eval (.tmp j)) A→AX n azs→(∀b,A b→¬B b)→
 ∃S,(∀b,S b→A b∨B b)∧Aq Z η w (Ky regs js azs) a.tmps.toList S∧AX n (Ky regs js azs)
 |[],azs,regs,A,B,hr,hi,hl,ha,hai,hd=>⟨B,fun _ h=> .inr h,by simpa [Ky] using hr,by simpa [Ky] using hi⟩
 |j::js,[],regs,A,B,hr,hi,hl,ha,hai,hd=>by simp at hl
 |j::js,x::azs,regs,A,B,hr,hi,hl,ha,hai,hd=>by
  simp only[List.map_cons,Aq] at ha
  obtain⟨v,cs',A1,A2,e,hj,h1,h2⟩:=ha
  simp only[List.cons.injEq] at e
  obtain⟨rfl,rfl⟩:=e
  simp only[Ky]
  rcases Nat.lt_or_ge j regs.length with hlt|hge
  ·obtain⟨S1,hS1,hr1⟩:=Se hr hlt h1 (fun b hb=>hd b ((hj.1 b).2 (.inl hb)))
   have hset:a.tmps.toList.set j (a.eval (.tmp j))=a.tmps.toList:=by
    have hlen:=Fb _ _ _ hr
    have hj2:j<a.tmps.size:=by simp at hlen;omega
    apply List.ext_getElem?
    intro i
    rw[List.getElem?_set]
    split
    ·rename_i h1;subst h1
     simp [Act.eval,hj2,Array.getD_eq_getD_getElem?]
    ·rfl
   rw[hset] at hr1
   obtain⟨S,hS,g1,g2⟩:=Tt js azs _ A2 S1 hr1 (IK _ _ _ hi hai.1) (by simpa using hl) h2 hai.2 (fun b h h'=>(hS1 b h').elim (fun h'=>hd b ((hj.1 b).2 (.inr h)) h') (fun h'=>hj.2 b h' h))
   exact⟨S,fun b hb=>(hS b hb).elim (fun h=> .inl ((hj.1 b).2 (.inr h))) (fun h=>(hS1 b h).elim .inr (fun h=> .inl ((hj.1 b).2 (.inl h)))),g1,g2⟩
  ·rw[List.set_eq_of_length_le hge]
   obtain⟨S,hS,g1,g2⟩:=Tt js azs regs A2 B hr hi (by simpa using hl) h2 hai.2 (fun b h h'=>hd b ((hj.1 b).2 (.inr h)) h')
   exact⟨S,fun b hb=>(hS b hb).elim (fun h=> .inl ((hj.1 b).2 (.inr h))) .inr,g1,g2⟩
theorem XI{Z:FP}{η:Nat→Value}{w:World}{n:Nat}{a:Act}:∀(als:List (Nat×Nat)) (regs:List AV) (B:FP),Aq Z η w regs a.tmps.toList B→AX n regs→
 (∀p∈als,a.eval (.tmp p.1)=a.eval (.tmp p.2))→∃S,(∀b,S b→B b)∧Aq Z η w (NG regs als) a.tmps.toList S∧AX n (NG regs als)
 |[],regs,B,hr,hi,h=>⟨B,fun _ h=>h,hr,hi⟩
 |(s,j)::als,regs,B,hr,hi,h=>by
  simp only[NG]
  have hv:=EC hr (.tmp j)
  have he:=h (s,j) (by simp)
  simp only at he
  rw[←he] at hv
  obtain⟨S1,hS1,hr1⟩:=Nj hr s hv
  have hset:s<regs.length→a.tmps.toList.set s (a.eval (.tmp s))=a.tmps.toList:=by
   intro hlt
   have hlen:=Fb _ _ _ hr
   have hj2:s<a.tmps.size:=by simp at hlen;omega
   apply List.ext_getElem?
   intro i
   rw[List.getElem?_set]
   split
   ·rename_i h1;subst h1
    simp [Act.eval,hj2,Array.getD_eq_getD_getElem?]
   ·rfl
  have hr2:Aq Z η w (regs.set s (Bi regs (.tmp j))) a.tmps.toList S1:=by
   rcases Nat.lt_or_ge s regs.length with hlt|hge
   ·rw[hset hlt] at hr1;exact hr1
   ·rw[List.set_eq_of_length_le (l:=a.tmps.toList) (by rw[Fb _ _ _ hr];exact hge)] at hr1;exact hr1
  obtain⟨S,hS,g1,g2⟩:=XI als _ S1 hr2 (IK _ _ _ hi (GN hi (.tmp j))) (fun p hp=>h p (by simp [hp]))
  exact⟨S,fun b hb=>hS1 b (hS b hb),g1,g2⟩
theorem XJ{Z:FP}{η:Nat→Value}{w:World}{a:Act}{regs:List AV}{B:FP}(hr:Aq Z η w regs a.tmps.toList B):∀als:List (Nat×Nat),NF regs als→
 ∀p∈als,a.eval (.tmp p.1)=a.eval (.tmp p.2)
 |[],_,p,hp=>by simp at hp
 |(s,j)::als,h,p,hp=>by
  simp only[NF] at h
  rcases List.mem_cons.1 hp with rfl|hp
  ·have h1:=EC hr (.tmp s)
   have h2:=EC hr (.tmp j)
   have h:=h.1
   split at h
   ·rename_i x y hx hy
    split at h
    ·rename_i hb
     have hb:=Nat.eq_of_beq_eq_true hb
     rw[hx] at h1;rw[hy] at h2
     simp only[Ad] at h1 h2
     simp only
     rw[h1.1,h2.1,hb]
    ·exact h.elim
   ·exact h.elim
  ·exact XJ hr als h.2 p hp
theorem XK(Z:FP)(η:Nat→Value)(w:World):∀(l:List Value),Aq Z η w (List.replicate l.length .top) l (fun _=>False)
 |[]=>by simp [Aq,emp]
 |v::l=>by
  simp only[List.length_cons,List.replicate_succ,Aq]
  exact⟨v,l,_,_,rfl,Ck _,AW,XK Z η w l⟩
theorem XL(n:Nat):∀N,AX n (List.replicate N .top)
 |0=>trivial
 |N+1=>⟨trivial,XL n N⟩
theorem XM{n:Nat}:∀(azs:List AV) (p:Nat) (a:AV),AX n azs→azs[p]? =some a→AP n a
 |[],p,a,h,ha=>by simp at ha
 |x::azs,0,a,h,ha=>by simp at ha;subst ha;exact h.1
 |x::azs,p+1,a,h,ha=>by simp only[List.getElem?_cons_succ] at ha;exact XM azs p a h.2 ha
theorem Py{C:Ctx}{a:Act}{w:World}{η:Nat→Value}{Z:FP}{n:Nat}:∀(caps:List (Nat×Fn×Nat)) (regs:List AV) (T:FP),Inst C ⟨regs,n⟩ a w η Z T→
 JI caps a.tmps.toList→∃T',Inst C ⟨Pw caps regs,n⟩ a w η Z T'
 |[],regs,T,h,_=>⟨T,h⟩
 |(p,fn,j)::l,regs,T,h,hc=>by
  obtain⟨⟨v,h1,h2⟩,h3⟩:=hc
  unfold Pw
  split
  ·rename_i id c hj
   obtain⟨u,B,g1,g2⟩:=Pg _ _ _ _ _ h.rel hj
   have hi:=XM _ _ _ h.ids hj
   simp only[Ad] at g2
   obtain⟨hu,b,arr,ty,S1,hp,_⟩:=g2
   rw[h2] at g1
   have hvu:v=u:=Option.some.inj g1
   have hnew:Ad Z η w (.clo fn [.al id]) (FO fn [v]) (fun _=>False):=by
    simp only[Ad,Aq]
    refine⟨[v],rfl,v,[],_,_,rfl,Ck _,⟨hvu.trans hu,?_,AW⟩,rfl,AW⟩
    rw[hvu,hp];trivial
   obtain⟨S',hs,hr'⟩:=Nj h.rel p hnew
   have hset:a.tmps.toList.set p (FO fn [v])=a.tmps.toList:=by
    apply List.ext_getElem?
    intro i
    rw[List.getElem?_set]
    split
    ·rename_i e;subst e;split
     ·exact h1.symm
     ·rename_i hlt;rw[List.getElem?_eq_none (by omega)]
    ·rfl
   rw[hset] at hr'
   exact Py l _ S' ⟨h.defers,hr',IK _ _ _ h.ids (by simp only[AP,AX];exact⟨hi.1,trivial⟩),fun b hb=>h.own b (hs b hb),h.ok⟩ h3
  ·exact Py l regs T h h3
theorem XN{Z:FP}{η:Nat→Value}{w:World}{regs:List AV}{a:Act}{T:FP}(hR:Aq Z η w regs a.tmps.toList T):∀l,Px regs l→JI l a.tmps.toList
 |[],_=>trivial
 |(s,fn,j)::l,h=>by
  obtain⟨h1,h2⟩:=h
  refine⟨?_,XN hR l h2⟩
  have hs:=EC (a:=a) hR (.tmp s)
  have hj:=EC (a:=a) hR (.tmp j)
  split at h1
  ·rename_i fn' id id' e1 e2
   split at h1
   ·rename_i q1 q2
    have q1:=SJ q1;have q2:=Nat.eq_of_beq_eq_true q2
    subst q1;subst q2
    rw[e1] at hs;rw[e2] at hj
    simp only[Ad,Aq] at hs hj
    obtain⟨cs,hsv,v',cs',A',B'',rfl,_,⟨rfl,_,_⟩,rfl,_⟩:=hs
    obtain⟨hjv,hjc,_⟩:=hj
    have get:∀(k:Nat) (v:Value),a.eval (.tmp k)=v→Dc v→a.tmps.toList[k]? =some v:=by
     intro k v hv hc
     simp only[Act.eval,Array.getD_eq_getD_getElem?] at hv
     rw[Array.getElem?_toList]
     cases hx:a.tmps[k]? with
     |none=>rw[hx] at hv;simp only[Option.getD_none] at hv;subst hv;exact hc.elim
     |some u=>rw[hx] at hv;simp only[Option.getD_some] at hv;rw[hv]
    exact⟨_,get s _ hsv Nh,get j _ hjv (by rw[←hjv];exact hjc)⟩
   ·exact h1.elim
  ·exact h1.elim
theorem a5s{C:Ctx}{s:St}{a:Act}{w:World}(h:Rel C s a w){L:LS}{i:L.ι}(he:Ts s L i):Rel C (Kz a.tmps.size L i) a w:=by
 obtain⟨η,Z,T,hi⟩:=h
 obtain⟨Z',A',k1,k2,k3,k4,k5⟩:=XH (L.regs i) s.regs _ he.1 Z T hi.rel hi.ids (fun b hb=>(hi.own b hb).1)
 have hal:=XJ hi.rel L.als he.2
 obtain⟨p1,p2,η1,p3,p4⟩:=Ig ((L.regs i).map (·.2)) 0 _ A' η k1
 have hst:=p4 η1 (fun _ _=>rfl)
 have hst':=CP (n:=(Cs 0 ((L.regs i).map (·.2))).2) (Z':=fun c=>Z' c∨w.heap.size≤c) (w':=w) (η':=η1) (fun b hb hl=>⟨fun x=>x.elim hb (fun x=>by omega),rfl⟩) (fun _ _=>rfl) _ _ _ p2 (fun _ _=>rfl) hst
 have htop:=XK (fun c=>Z' c∨w.heap.size≤c) η1 w a.tmps.toList
 obtain⟨S1,hS1,q1,q2⟩:=Tt (a:=a) (n:=(Cs 0 ((L.regs i).map (·.2))).2) ((L.regs i).map (·.1)) _ _ A' (fun _=>False) htop (XL _ _) (by
  have:∀(l:List AV) (n:Nat),(Cs n l).1.length=l.length:=by
   intro l
   induction l with
   |nil=>intro n;rfl
   |cons x l ih=>intro n;simp [Cs,ih]
  rw[this];simp) (by rw[List.map_map];exact hst') p2 (fun b _ h=>h)
 obtain⟨S2,hS2,r1,r2⟩:=XI L.als _ S1 q1 q2 hal
 have:=hi.next (A1:=fun _=>False) (Z1:=Z') k2 k3 (fun _ h=>h.elim) (w':=w) ⟨rfl,rfl,rfl,Nat.le_refl _,fun _ _ _=>rfl⟩ (regs':=(Kz a.tmps.size L i).regs) (n':=(Kz a.tmps.size L i).nx) (η':=η1) (S':=S2) (a':=a) rfl
  (by simpa [Kz] using r1) (by simpa [Kz] using r2) (fun b hb=>by
    have hA:A' b:=(hS1 b (hS2 b hb)).resolve_right (fun x=>x)
    exact⟨.inl (k5 b hA),.inl (k4 b hA),(hi.own b (k4 b hA)).2.1⟩)
 exact⟨η1,_,S2,this⟩
theorem Tu{C:Ctx}{s:St}{a:Act}{w:World}(h:Rel C s a w){L:LS}{i:L.ι}(he:enter s L i):Rel C (KA a.tmps.size L i) a w:=by
 obtain⟨he1,he2⟩:=a5r he
 have h0:=a5s h he1
 unfold KA
 cases hc:L.clos with
 |nil=>exact h0
 |cons c cs=>
  rw[hc] at he2
  obtain⟨η,Z,T,hi⟩:=h
  have hcap:=XN hi.rel _ he2
  obtain⟨η2,Z2,T2,hi2⟩:=h0
  obtain⟨T',h'⟩:=Py (c::cs) (Kz a.tmps.size L i).regs T2 hi2 hcap
  exact⟨η2,Z2,T',h'⟩
def NH:Code→Nat
 | .region id _ _=>id
 | .seq x _=>NH x
 | .block _ x=>NH x
 | .loop x=>NH x
 |_=>0
def Ff(js:List Nat):Code→Bool
 | .region _ ops _=>ops.toList.all fun o=>GU js o.dst
 | .seq x y=>Ff js x&&Ff js y
 | .cond _ x y=>Ff js x&&Ff js y
 | .block _ x=>Ff js x
 | .loop x=>Ff js x
 |_=>true
def Fv(P:Program)(Γ:FuncId→Nat→Option Sig)(E:TypeId→Option ES)(ov:Bool)(N:Nat)(L:Nat→Option LS):Code→St→(Ex→St→Prop)→Prop
 | .skip,s,K=>K .normal s
 | .label _,s,K=>K .normal s
 | .ret,s,K=>K .ret s
 | .exit id,s,K=>K (.exit id) s
 | .region id ops draw,s,K=>match draw with
   |false=>match L (300000+id) with
    |some _=>Region.noSelect ops=true∧Mj P Γ E ov ops (ops.size+1) (List.range ops.size) s (K .normal)
    |none=>DN P Γ E ov ops (List.range ops.size) s (K .normal)
   |true=>match L (100000+id) with
    |some D=>P.follows .mixedOrders=true∧Kx P Γ E ov ops ops.size (Array.replicate ops.size false) s (fun s'=>∃i,D.inv i∧enter s' D i)∧∀i,D.inv i→K .normal (KA N D i)
    |none=>P.follows .mixedOrders=true∧Region.lexB .any ops=true∧vcQ P Γ ov ops ops.toList s (K .normal)
 | .seq x y,s,K=>match L (200000+NH y) with
   |some D=>(Fv P Γ E ov N L x s fun e s'=>match e with
    | .normal=>∃i,D.inv i∧enter s' D i
    | .exit i=>K (.exit i) s'
    | .ret=>K .ret s')∧∀i,D.inv i→Fv P Γ E ov N (Tq (D.sub i) L) y (KA N D i) K
   |none=>Fv P Γ E ov N L x s fun e s'=>match e with
    | .normal=>Fv P Γ E ov N L y s' K
    | .exit i=>K (.exit i) s'
    | .ret=>K .ret s'
 | .cond c x y,s,K=>match c with
   | .tmp d=>match s.regs[d]? with
     |some (.bool b)=>Aa b (Fv P Γ E ov N L x ⟨s.regs.set d (.bool true),s.nx⟩ K) (Fv P Γ E ov N L y ⟨s.regs.set d (.bool false),s.nx⟩ K)
     |_=>False
   |_=>False
 | .block id x,s,K=>Fv P Γ E ov N L x s fun e s'=>match e with
   | .normal=>K .normal s'
   | .exit i=>match Nat.beq i id with
     |true=>K .normal s'
     |false=>K (.exit i) s'
   | .ret=>K .ret s'
 | .loop x,s,K=>match L (NH x) with
   |some S=>(∃i,S.inv i∧enter s S i)∧∀i,S.inv i→Fv P Γ E ov N (Tq (S.sub i) L) x (KA N S i) fun e s'=>match e with
    | .normal=>∃i',S.inv i'∧S.meas i'<S.meas i∧enter s' S i'
    | .exit k=>K (.exit k) s'
    | .ret=>K .ret s'
   |none=>False
 |_,_,_=>False
theorem KB{p:Nat→Prop}(h:∃n,p n):∃n,p n∧∀m,p m→n≤m:=by
 obtain⟨n,hn⟩:=h
 induction n using Nat.strongRecOn with
 |_ n ih=>
  by_cases hm:∃m,m<n∧p m
  ·obtain⟨m,h1,h2⟩:=hm;exact ih m h1 h2
  ·exact⟨n,hn,fun m hp=>Nat.le_of_not_lt fun hl=>hm ⟨m,hl,hp⟩⟩
theorem IR{P:Program}{Γ:FuncId→Nat→Option Sig}{C:Ctx}(hΓ:∀f k S,Γ f k=some S→Aj C.G P f S){E:TypeId→Option ES}{ov:Bool}{js:List Nat}{a0:Act}:
 ∀(c:Code) (L:Nat→Option LS) (s:St) (K:Ex→St→Prop) (Q:Exit→Act→World→Prop) (a:Act) (w:World),Fv P Γ E ov a0.tmps.size L c s K→Ff js c=true→Rel C s a w→DC js a0 a→
 (∀e s' a' w',K e s'→Rel C s' a' w'→DC js a0 a'→Q e.to a' w')→c.wp P Q a w
 | .skip,L,s,K,Q,a,w,h,hd,hr,hf,hQ=>wp_skip (hQ .normal s a w h hr hf)
 | .label _,L,s,K,Q,a,w,h,hd,hr,hf,hQ=>wp_label (hQ .normal s a w h hr hf)
 | .ret,L,s,K,Q,a,w,h,hd,hr,hf,hQ=>wp_ret (hQ .ret s a w h hr hf)
 | .exit id,L,s,K,Q,a,w,h,hd,hr,hf,hQ=>wp_exit (hQ (.exit id) s a w h hr hf)
 | .region id ops draw,L,s,K,Q,a,w,h,hd,hr,hf,hQ=>by
   simp only[Fv] at h
   cases draw
   ·simp only at h
    have hjs0:∀(i:Nat) (o:Oper),ops[i]? =some o→GU js o.dst=true:=by
     intro i o ho
     simp only[Ff] at hd
     have hmem:o∈ops.toList:=List.mem_of_getElem? (i:=i) (by simpa [Array.getElem?_toList] using ho)
     exact List.all_eq_true.1 hd o hmem
    split at h
    ·refine wp_mono (Q:=JL fun a w=>Q .normal a w) (wp_region (Tp hΓ (js:=js) (a0:=a0) h.1 hjs0 _ _ s _ a w h.2 hr hf fun s' a' w' hk hr' hf'=>hQ .normal s' a' w' hk hr' hf')) (fun e a w h=> ?_)
     cases e<;>simp only[JL] at h<;>exact h
    refine wp_region (Mh hΓ (js:=js) (a0:=a0) ?_ _ s _ a w h hr hf fun s' a' w' hk hr' hf'=>hQ .normal s' a' w' hk hr' hf')
    intro i o ho
    simp only[Ff] at hd
    have hmem:o∈ops.toList:=List.mem_of_getElem? (i:=i) (by simpa [Array.getElem?_toList] using ho)
    exact List.all_eq_true.1 hd o hmem
   ·simp only at h
    split at h
    ·rename_i D hD
     obtain⟨h1,h2,h3⟩:=h
     refine a5q hΓ (js:=js) (a0:=a0) h1 h2 ?_ hr hf fun s' a' w' hk hr' hf'=> ?_
     ·intro i o ho
      simp only[Ff] at hd
      have hmem:o∈ops.toList:=List.mem_of_getElem? (i:=i) (by simpa [Array.getElem?_toList] using ho)
      exact List.all_eq_true.1 hd o hmem
     ·obtain⟨i,hi,he⟩:=hk
      have hh:=Tu hr' he
      rw[hf'.1] at hh
      exact hQ .normal _ a' w' (h3 i hi) hh hf'
    obtain⟨h1,h2,h3⟩:=h
    simp only[Ff] at hd
    exact a5p hΓ (js:=js) (a0:=a0) h1 h2 h3 (fun o ho=>List.all_eq_true.1 hd o ho) hr hf fun s' a' w' hk hr' hf'=>hQ .normal s' a' w' hk hr' hf'
 | .seq x y,L,s,K,Q,a,w,h,hd,hr,hf,hQ=>by
   simp only[Fv] at h
   simp only[Ff,Bool.and_eq_true] at hd
   split at h
   ·rename_i D hD
    obtain⟨h1,h2⟩:=h
    refine wp_seq (IR hΓ x L s _ _ a w h1 hd.1 hr hf ?_)
    intro e s' a' w' hk hr' hf'
    cases e with
    |normal=>
     obtain⟨i,hi,he⟩:=hk
     have hh:=Tu hr' he
     rw[hf'.1] at hh
     exact IR hΓ y _ _ K Q a' w' (h2 i hi) hd.2 hh hf' hQ
    |exit i=>exact hQ (.exit i) s' a' w' hk hr' hf'
    |ret=>exact hQ .ret s' a' w' hk hr' hf'
   ·refine wp_seq (IR hΓ x L s _ _ a w h hd.1 hr hf ?_)
    intro e s' a' w' hk hr' hf'
    cases e with
    |normal=>exact IR hΓ y L s' K Q a' w' hk hd.2 hr' hf' hQ
    |exit i=>exact hQ (.exit i) s' a' w' hk hr' hf'
    |ret=>exact hQ .ret s' a' w' hk hr' hf'
 | .cond c x y,L,s,K,Q,a,w,h,hd,hr,hf,hQ=>by
   simp only[Fv] at h
   simp only[Ff,Bool.and_eq_true] at hd
   split at h
   ·rename_i d
    split at h
    ·rename_i b hb
     obtain⟨hr1,ht⟩:=hr.know hb
     have hc:a.eval (.tmp d)= .bool b:=by simp [Act.eval,Array.getD_eq_getD_getElem?,ht]
     unfold Aa at h
     cases b
     ·exact wp_cond_false hc (IR hΓ y L _ K Q a w h hd.2 hr1 hf hQ)
     ·exact wp_cond_true hc (IR hΓ x L _ K Q a w h hd.1 hr1 hf hQ)
    ·exact h.elim
   ·exact h.elim
 | .block id x,L,s,K,Q,a,w,h,hd,hr,hf,hQ=>by
   simp only[Fv] at h
   simp only[Ff] at hd
   refine wp_block (IR hΓ x L s _ _ a w h hd hr hf ?_)
   intro e s' a' w' hk hr' hf'
   cases e with
   |normal=>exact hQ .normal s' a' w' hk hr' hf'
   |exit i=>
    simp only[Ex.to,Exit.inBlock]
    simp only at hk
    split at hk
    ·rename_i hb
     rw[if_pos (Nat.eq_of_beq_eq_true hb)]
     exact hQ .normal s' a' w' hk hr' hf'
    ·rename_i hb
     rw[if_neg (Nat.ne_of_beq_eq_false hb)]
     exact hQ (.exit i) s' a' w' hk hr' hf'
   |ret=>exact hQ .ret s' a' w' hk hr' hf'
 | .loop x,L,s,K,Q,a,w,h,hd,hr,hf,hQ=>by
   simp only[Fv] at h
   simp only[Ff] at hd
   split at h
   ·rename_i S hS
    obtain⟨⟨i0,hi0,he0⟩,hround⟩:=h
    let p:Act→World→Nat→Prop:=fun a w n=>∃i,S.inv i∧S.meas i=n∧Rel C (KA a0.tmps.size S i) a w∧DC js a0 a
    have hent:∀(s:St) (a:Act) (w:World) (i:S.ι),Rel C s a w→DC js a0 a→enter s S i→Rel C (KA a0.tmps.size S i) a w:=by
     intro s a w i hr hf he
     have:=Tu hr he
     rwa [hf.1] at this
    refine wp_loop (fun a w=>∃n,p a w n) (fun a w=>open Classical in if h:∃n,p a w n then(KB h).choose else 0) ⟨_,i0,hi0,rfl,hent s a w i0 hr hf he0,hf⟩ ?_
    intro a w hI
    have hμ:(open Classical in if h:∃n,p a w n then(KB h).choose else 0)=(KB hI).choose:=dif_pos hI
    obtain⟨⟨i,h1,h2,h3,h4⟩,hmin⟩:=(KB hI).choose_spec
    refine IR hΓ x _ _ _ _ a w (hround i h1) hd h3 h4 ?_
    intro e s' a' w' hk hr' hf'
    cases e with
    |normal=>
     obtain⟨i',g1,g2,g3⟩:=hk
     have hp':p a' w' (S.meas i'):=⟨i',g1,rfl,hent s' a' w' i' hr' hf' g3,hf'⟩
     refine⟨⟨_,hp'⟩,?_⟩
     have hμ':(open Classical in if h:∃n,p a' w' n then(KB h).choose else 0)=(KB ⟨_,hp'⟩).choose:=dif_pos ⟨_,hp'⟩
     have h5:=(KB ⟨_,hp'⟩).choose_spec.2 _ hp'
     simp only[hμ,hμ']
     rw[h2] at g2
     exact Nat.lt_of_le_of_lt h5 g2
    |exit k=>exact hQ (.exit k) s' a' w' hk hr' hf'
    |ret=>exact hQ .ret s' a' w' hk hr' hf'
   ·exact h.elim
 | .rangeFunc _ _ _ _,L,s,K,Q,a,w,h,hd,hr,hf,hQ=>h.elim
 | .scope _,L,s,K,Q,a,w,h,hd,hr,hf,hQ=>h.elim
 | .goto _,L,s,K,Q,a,w,h,hd,hr,hf,hQ=>h.elim
 | .refuse _,L,s,K,Q,a,w,h,hd,hr,hf,hQ=>h.elim
end Go.Eng
end
section
set_option linter.unusedVariables false
set_option linter.unusedSimpArgs false
namespace Go.Eng
def a5t:AV→Bool
 | .box _ _=>true
 | .bv _ _=>true
 |_=>false
def Tv:List AV→Nat→List Nat
 |[],_=>[]
 |a::azs,j=>match a5t a with
  |true=>j::Tv azs (j+1)
  |false=>Tv azs (j+1)
def JM(js:List Nat):Nat→List AV→Bool
 |_,[]=>true
 |j,o::os=>match o with
  | .top=>JM js (j+1) os
  | .box _ _=>match js.elem j with
    |true=>JM js (j+1) os
    |false=>false
  | .bv _ _=>match js.elem j with
    |true=>JM js (j+1) os
    |false=>false
  | .sl true _ _ _ _ _=>match js.elem j with
    |true=>JM js (j+1) os
    |false=>false
  |_=>false
def Tw(S:Sig)(x:S.X):List Nat:=Tv (S.args x) 0++S.fixed
def KC(P:Program)(regs:List AV):List ResultVar→(List AV→Prop)→Prop
 |[],K=>K []
 | .tmp t::rs,K=>KC P regs rs fun azs=>K (Bi regs (.tmp t)::azs)
 | .cell a t::rs,K=>Nr P regs t (Bi regs (.tmp a)) fun r=>KC P regs rs fun azs=>K (r::azs)
def JN:List AV→AV
 |[a]=>a
 |azs=> .tup azs
def NI(N:Nat)(args:List AV):St:=⟨(Cs 0 args).1++List.replicate (N-args.length) (.tup []),(Cs 0 args).2⟩
def XO(P:Program)(S:Sig)(x:S.X)(rs:List ResultVar)(n:Nat)(s:St):Prop:=
 KC P s.regs rs fun azs=>∃y,S.post x y∧match JM (Tw S x) 0 (S.outs x y) with
  |true=>DJ false (S.res x y::S.outs x y) s.regs (JN azs::(List.range n).map fun j=>Bi s.regs (.tmp j)) fun _=>True
  |false=>False
def a5u(P:Program)(S:Sig)(x:S.X)(rs:List ResultVar)(n:Nat):Ex→St→Prop
 | .exit _,_=>False
 |_,s=>XO P S x rs n s
def Pz(P:Program)(Γ:FuncId→Nat→Option Sig)(E:TypeId→Option ES)(ov:Bool)(L:Nat→Option LS)(N:Nat)(results:List ResultVar)(c:Code)(S:Sig)(x:S.X):Prop:=
 match Nat.ble (S.args x).length N,Ff (Tw S x) c with
 |true,true=>SL S.keep (∀y,S.post x y→Hr (S.res x y::S.outs x y))∧Fv P Γ E ov N L c (Tr S.caps (NI N (S.args x))) (a5u P S x results (S.args x).length)
 |_,_=>False
theorem XP{Z:FP}{w:World}{js:List Nat}:∀(j:Nat) (os:List AV) (vals us:List Value) (A:FP),JM js j os=true→us.length=vals.length→
 (∀(i:Nat),i<vals.length→js.elem (j+i)=true→us[i]? =vals[i]?)→AZ Z w os us A→AZ Z w os vals A
 |j,[],vals,us,A,ho,hl,hf,h=>by
  simp only[AZ] at h ⊢
  rw[h.1] at hl
  exact⟨List.length_eq_zero_iff.1 (by simpa using hl.symm),h.2⟩
 |j,o::os,vals,us,A,ho,hl,hf,h=>by
  simp only[AZ] at h ⊢
  obtain⟨u,us',A1,A2,e,hj,h1,h2⟩:=h
  subst e
  cases vals with
  |nil=>simp at hl
  |cons v vals=>
   obtain⟨ho1,ho2⟩:(o= .top∨js.elem j=true)∧JM js (j+1) os=true:=by
    unfold JM at ho
    split at ho
    ·exact⟨.inl rfl,ho⟩
    ·split at ho
     ·rename_i hb;exact⟨.inr hb,ho⟩
     ·cases ho
    ·split at ho
     ·rename_i hb;exact⟨.inr hb,ho⟩
     ·cases ho
    ·split at ho
     ·rename_i hb;exact⟨.inr hb,ho⟩
     ·cases ho
    ·cases ho
   refine⟨v,vals,A1,A2,rfl,hj,?_,XP (j+1) os vals us' A2 ho2 (by simpa using hl) (fun i h3 h4=>by
    have:=hf (i+1) (by simpa using h3) (by rw[show j+(i+1)=j+1+i from by omega];exact h4)
    simpa using this) h2⟩
   rcases ho1 with rfl|ho1
   ·simpa only[Am] using h1
   ·have:=hf 0 (by simp) (by simpa using ho1)
    simp at this
    rw[←this];exact h1
def NJ:List Value→Value
 |[v]=>v
 |vs=> .tuple vs.toArray
theorem a5v{P:Program}{t:TypeId}{x v:Value}{w:World}(h:(Instr.loadAt t x).run P w= .ok v w):(do loadVar t (←asAddr x):Sem Value).run P w= .ok v w:=by
 unfold Instr.loadAt at h
 cases x with
 |pointer a=>
  cases a with
  |none=>rw[Fc] at h;cases h
  |some a=>rw[Fc] at h ⊢;exact h
 |_=>rw[Fc] at h;cases h
theorem Tx{P:Program}{regs:List AV}{Z:FP}{η:Nat→Value}{w:World}{n:Nat}{a:Act}{T:FP}(hR:Aq Z η w regs a.tmps.toList T)(hI:AX n regs)
 {g:ResultVar→Sem Value} (g1:∀t,g (.tmp t)=pure (a.tmps.getD t undef)) (g2:∀b t,g (.cell b t)=(do loadVar t (←asAddr (a.tmps.getD b undef)))):
 ∀(rs:List ResultVar) (K:List AV→Prop),KC P regs rs K→∃vs azs,(rs.mapM g).run P w= .ok vs w∧
  Aq Z η w azs vs (fun _=>False)∧AX n azs∧K azs
 |[],K,h=>⟨[],[],rfl,by simp [Aq,emp],trivial,h⟩
 | .tmp t::rs,K,h=>by
   simp only[KC] at h
   obtain⟨vs,azs,h1,h2,h3,h4⟩:=Tx hR hI g1 g2 rs _ h
   refine⟨a.tmps.getD t undef::vs,Bi regs (.tmp t)::azs,?_,?_,⟨GN hI (.tmp t),h3⟩,h4⟩
   ·rw[List.mapM_cons,g1,AU (Cd P _ w),AU h1];rfl
   ·simp only[Aq];exact⟨_,_,_,_,rfl,Ck _,EC hR (.tmp t),h2⟩
 | .cell b t::rs,K,h=>by
   simp only[KC] at h
   obtain⟨v,r,h1,h2,h3,h4⟩:=WH (n:=n) h hR hI (EC (a:=a) hR (.tmp b))
   obtain⟨vs,azs,k1,k2,k3,k4⟩:=Tx hR hI g1 g2 rs _ h4
   refine⟨v::vs,r::azs,?_,?_,⟨h3,k3⟩,k4⟩
   ·have hl:(do loadVar t (←asAddr (a.tmps.getD b undef)):Sem Value).run P w= .ok v w:=a5v (h1 w (Sees.refl w))
    rw[List.mapM_cons,g2,AU hl,AU k1];rfl
   ·simp only[Aq];exact⟨_,_,_,_,rfl,Ck _,h2,k2⟩
theorem a5w{P:Program}{fn:Func}{regs:List AV}{Z:FP}{η:Nat→Value}{w:World}{n:Nat}{a:Act}{T:FP}(hR:Aq Z η w regs a.tmps.toList T)(hI:AX n regs)
 {K:List AV→Prop} (h:KC P regs fn.results.toList K):∃vs azs,(results fn a.tmps).run P w= .ok (NJ vs) w∧Aq Z η w azs vs (fun _=>False)∧AX n azs∧K azs:=by
 unfold results
 obtain⟨vs,azs,h1,h2⟩:=Tx hR hI (g:=fun| .tmp t=>pure (a.tmps.getD t undef)| .cell b t=>do loadVar t (←asAddr (a.tmps.getD b undef))) (fun _=>rfl) (fun _ _=>rfl) fn.results.toList K h
 refine⟨vs,azs,?_,h2⟩
 rw[Array.mapM_eq_mapM_toList,map_eq_pure_bind]
 refine(AU (x:=vs.toArray) (w':=w) ?_).trans ?_
 ·exact(AU h1).trans rfl
 ·simp only[Cd]
  congr 1
  match vs with
  |[]=>rfl
  |[v]=>rfl
  |v::u::vs=>rfl
theorem XQ(Z:FP)(η:Nat→Value)(w:World):∀n,Aq Z η w (List.replicate n (.tup [])) (List.replicate n undef) (fun _=>False)
 |0=>by simp [Aq,emp]
 |n+1=>by
  simp only[List.replicate_succ,Aq]
  exact⟨undef,_,_,_,rfl,Ck _,XA Z η w,XQ Z η w n⟩
theorem XR(n:Nat):∀N,AX n (List.replicate N (.tup []))
 |0=>trivial
 |N+1=>⟨trivial,XR n N⟩
theorem XS{n:Nat}:∀(l1 l2:List AV),AX n l1→AX n l2→AX n (l1++l2)
 |[],l2,_,h2=>by simpa using h2
 |x::l1,l2,h1,h2=>⟨h1.1,XS l1 l2 h1.2 h2⟩
theorem XT{vs us:List Value}(e:∃r,us=vs++r):∀ {l:List (Nat×Fn×Nat)},JI l vs→JI l us
 |[],_=>trivial
 |(p,fn,j)::l,h=>by
  obtain⟨r,rfl⟩:=e
  obtain⟨⟨v,h1,h2⟩,h3⟩:=h
  refine⟨⟨v,?_,?_⟩,XT ⟨r,rfl⟩ h3⟩
  ·rw[List.getElem?_append_left ((List.getElem?_eq_some_iff.1 h1).1)];exact h1
  ·rw[List.getElem?_append_left ((List.getElem?_eq_some_iff.1 h2).1)];exact h2
theorem a5x{G:GInv}{P:Program}{Γ:FuncId→Nat→Option Sig}{E:TypeId→Option ES}{ov:Bool}{f:FuncId}{fn:Func}{c:Code}{S:Sig}{L:S.X→Nat→Option LS}
 (hfn:P.funcs[f]? =some fn) (hbody:fn.body=some c) (hname:(fn.name== "runtime.NumGoroutine")=false)
 (hΓ:∀f k S,Γ f k=some S→Aj G P f S) (h:∀x,S.pre x→Pz P Γ E ov (L x) fn.ntmps fn.results.toList c S x):Aj G P f S:=by
 refine⟨⟨⟨fn,hfn,hname,by simp [hbody]⟩,fun x y hx hy=> ?_⟩,?_⟩
 ·have h:=h x hx
  unfold Pz at h
  split at h
  ·have h:=h.1
   unfold SL at h ⊢
   split
   ·trivial
   ·rename_i hk;rw[hk] at h;exact h y hy
  ·exact h.elim
 intro x hpre Z w vals A hG hargs hA hcaps
 have h:=h x hpre
 unfold Pz at h
 split at h
 rotate_left
 ·exact h.elim
 ·rename_i hN hd
  have hvc:=h.2
  have hN:=Nat.le_of_ble_eq_true hN
  have hvl:vals.length=(S.args x).length:=Xn _ _ _ hargs
  refine calls_of_wp hfn hbody ?_
  let a0:Act:= {tmps:=vals.toArray++Array.replicate (fn.ntmps-vals.toArray.size) undef,defers:=[]}
  have hsz:a0.tmps.size=fn.ntmps:=by simp [a0];omega
  obtain⟨p1,p2,η1,p3,p4⟩:=Ig (S.args x) 0 vals A (fun _=>undef) hargs
  have hst:=p4 η1 (fun _ _=>rfl)
  let C:Ctx:=⟨w,Z,A,G,hG,fun b hb=>(hA b hb).1⟩
  have hinit:Rel C (NI fn.ntmps (S.args x)) a0 w:=by
   refine⟨η1,Z,A,⟨rfl,?_,XS _ _ p2 (XR _ _),fun b hb=>⟨(hA b hb).1,(hA b hb).2,fun _=>hb⟩,⟨rfl,rfl,rfl,Nat.le_refl _,fun b _ _=>⟨rfl,Iff.rfl⟩⟩⟩⟩
   have:=JK _ _ _ _ _ _ A hst (XQ Z η1 w (fn.ntmps-(S.args x).length)) (IJ A)
   simpa [NI,a0,hvl] using this
  have hinit2:Rel C (Tr S.caps (NI fn.ntmps (S.args x))) a0 w:=by
   cases hcc:S.caps with
   |nil=>exact hinit
   |cons c cs=>
    obtain⟨η,Z1,T,hi⟩:=hinit
    obtain⟨T',h'⟩:=Py (c::cs) (NI fn.ntmps (S.args x)).regs T hi (by
     rw[←hcc]
     exact XT ⟨List.replicate (fn.ntmps-vals.length) undef,by simp [a0]⟩ hcaps)
    exact⟨η,Z1,T',h'⟩
  refine IR (C:=C) hΓ (js:=Tw S x) (a0:=a0) (E:=E) (ov:=ov) c (L x) _ _ _ a0 w (by rw[hsz];exact hvc) hd hinit2 ⟨rfl,fun _ _=>rfl⟩ ?_
  intro e s' a' w' hk hr hf
  have fin:XO P S x fn.results.toList (S.args x).length s'→a'.defers=[]∧∃v,(results fn a'.tmps).run P w'= .ok v w'∧∃y v' Z' A',S.post x y∧Ending.returned v= .returned v'∧AZ Z' w' (S.res x y::S.outs x y) (v'::vals) A'∧After Z w A Z' w' A':=by
   intro hfin
   obtain⟨η,Z1,T,hi⟩:=hr
   obtain⟨rvs,ras,hrun,hrr,hri,y,hpost,hh⟩:=a5w hi.rel hi.ids hfin
   split at hh
   rotate_left
   ·exact hh.elim
   rename_i hout
   have hres:Ad Z1 η w' (JN ras) (NJ rvs) (fun _=>False):=by
    match ras,rvs,hrr with
    |[],rvs,hrr=>
     simp only[Aq] at hrr
     rw[hrr.1]
     simp only[JN,NJ,Ad];exact⟨[],rfl,by simp [Aq,emp]⟩
    |[r],rvs,hrr=>
     simp only[Aq] at hrr
     obtain⟨v,cs',A,B,e,hj,h1,h2,h3⟩:=hrr
     subst h2;subst e
     have:=(HY hj AW).1
     rw[EB this] at h1
     exact h1
    |r::q::ras,rvs,hrr=>
     have hl:=Fb _ _ _ hrr
     match rvs,hl with
     |v::u::rvs,_=>simp only[JN,NJ,Ad];exact⟨_,rfl,hrr⟩
   have hresi:AP s'.nx (JN ras):=by
    match ras,hri with
    |[],hri=>exact hri
    |[r],hri=>exact hri.1
    |r::q::ras,hri=>simp only[JN,AP];exact hri
   have hactual:Aq Z1 η w' (JN ras::(List.range (S.args x).length).map fun j=>Bi s'.regs (.tmp j))
    (NJ rvs::(List.range (S.args x).length).map fun j=>a'.eval (.tmp j)) (fun _=>False):=by
    simp only[Aq]
    refine⟨_,_,_,_,rfl,Ck _,hres,?_⟩
    have:∀l:List Nat,Aq Z1 η w' (l.map fun j=>Bi s'.regs (.tmp j)) (l.map fun j=>a'.eval (.tmp j)) (fun _=>False):=by
     intro l
     induction l with
     |nil=>simp [Aq,emp]
     |cons t ts ih=>
      simp only[List.map_cons,Aq]
      exact⟨_,_,_,_,rfl,Ck _,EC hi.rel (.tmp t),ih⟩
    exact this _
   have hactuali:AX s'.nx (JN ras::(List.range (S.args x).length).map fun j=>Bi s'.regs (.tmp j)):=by
    refine⟨hresi,?_⟩
    have:∀l:List Nat,AX s'.nx (l.map fun j=>Bi s'.regs (.tmp j)):=by
     intro l
     induction l with
     |nil=>trivial
     |cons t ts ih=>exact⟨GN hi.ids (.tmp t),ih⟩
    exact this _
   obtain⟨Z2,A',B',r',ho⟩:=FS _ s'.regs _ _ hh Z1 a'.tmps.toList _ T (fun _=>False) T hi.rel hi.ids hactual hactuali (Ck T)
   refine⟨hi.defers,_,hrun,y,_,Z2,A',hpost,rfl,?_,?_⟩
   ·have hgot:=ho.got
    simp only[AZ] at hgot ⊢
    obtain⟨v',us',A1,A2,e1,hj,h1,h2⟩:=hgot
    simp only[List.cons.injEq] at e1
    obtain⟨rfl,rfl⟩:=e1
    refine⟨_,vals,A1,A2,rfl,hj,h1,XP 0 _ vals _ A2 hout (by simp [hvl]) (fun i hil0 hb=> ?_) h2⟩
    have hil:i<(S.args x).length:=by omega
    have hfix:=hf.2 i (by simpa using hb)
    have hav:a0.tmps[i]? =vals[i]? :=by
     simp only[a0]
     rw[Array.getElem?_append_left (by simp;omega)]
     simp
    have hvi:vals[i]? =some vals[i]:=by simp
    simp only[List.getElem?_map,List.getElem?_range hil,Option.map_some,Act.eval]
    rw[hav,hvi] at hfix
    simp [Array.getD_eq_getD_getElem?,hfix,hvi]
   ·refine⟨hi.ok.os,hi.ok.tape,hi.ok.output,hi.ok.size,fun b hb hn=> ?_,fun b hb=> ?_⟩
    ·obtain⟨g1,g2⟩:=hi.ok.old b hb hn
     refine⟨g1,fun h=>g2.1 (ho.zz b h),fun h=>Classical.byContradiction fun hn2=> ?_⟩
     have hT:=ho.gone b (g2.2 h) hn2
     exact hn ((hi.own b hT).2.2 hb)
    ·have hT:=ho.part b (.inl hb)
     exact⟨ho.ownA b hb (hi.own b hT).1,(hi.own b hT).2.1,(hi.own b hT).2.2⟩
  cases e with
  |normal=>exact fin hk
  |exit id=>exact hk.elim
  |ret=>exact fin hk
def Γof:List (Nat×Nat×Sig)→FuncId→Nat→Option Sig
 |[],_,_=>none
 |(g,k,S)::l,f,j=>match Nat.beq g f,Nat.beq k j with
  |true,true=>some S
  |_,_=>Γof l f j
def Ty(G:GInv)(P:Program):List (Nat×Nat×Sig)→Prop
 |[]=>True
 |(g,_,S)::l=>Aj G P g S∧Ty G P l
theorem XU{G:GInv}{P:Program}:∀ {l:List (Nat×Nat×Sig)},Ty G P l→∀f k S,Γof l f k=some S→Aj G P f S
 |[],_,f,k,S,h=>by simp [Γof] at h
 |(g,j,S')::l,ha,f,k,S,h=>by
  unfold Γof at h
  split at h
  ·rename_i hb _
   simp only[Option.some.injEq] at h;subst h
   rw[←Nat.eq_of_beq_eq_true hb];exact ha.1
  ·exact XU ha.2 f k S h
def Lof:List (Nat×LS)→Nat→Option LS
 |[],_=>none
 |(g,S)::l,f=>match Nat.beq g f with
  |true=>some S
  |false=>Lof l f
def Eof:List (Nat×ES)→TypeId→Option ES
 |[],_=>none
 |(g,S)::l,f=>match Nat.beq g f with
  |true=>some S
  |false=>Eof l f
theorem Aw{b:Bool}{p q:Prop}(h1:b=true→p)(h2:b=false→q):Aa b p q:=by
 cases b
 ·exact h2 rfl
 ·exact h1 rfl
end Go.Eng
end
section
set_option linter.unusedVariables false
namespace Go.Eng
mutual
def AB:AV→AV→Prop→Prop
 | .int _ n,a,R=>match a with
   | .int _ m=>m=n∧R
   |_=>False
 | .bool b,a,R=>match a with
   | .bool c=>c=b∧R
   |_=>False
 | .str l,a,R=>match a with
   | .str m=>m=l∧R
   |_=>False
 | .val v,a,R=>match a with
   | .val u=>u=v∧R
   |_=>False
 | .nil,_,R=>R
 | .any,_,R=>R
 | .top,_,R=>R
 | .agg es,a,R=>match a with
   | .agg azs=>Av es azs R
   |_=>False
 | .tup es,a,R=>match a with
   | .tup azs=>Av es azs R
   |_=>False
 | .clo _ es,a,R=>match a with
   | .clo _ azs=>Av es azs R
   |_=>False
 | .pf c,a,R=>match a with
   | .pf c'=>AV.pf c'=AV.pf c∧R
   | .box _ c'=>AV.pf (fzL c')=AV.pf c∧R
   |_=>False
 | .box _ c,a,R=>match a with
   | .box _ c'=>Av c c' R
   |_=>False
 | .bv y c,a,R=>match a with
   | .bv x c'=>x=y∧Av c c' R
   |_=>False
 | .sl true _ sz α f xs,a,R=>match a with
   | .nil=>xs=[]∧R
   | .sl true _ sz' α' f' xs'=>AV.sl true 0 sz' α' f' xs'=AV.sl true 0 sz α f xs∧R
   |_=>False
 | .sl false _ sz α f xs,a,R=>match a with
   | .nil=>xs=[]∧R
   | .sl false _ sz' α' f' xs'=>AV.sl false 0 sz' α' f' xs'=AV.sl false 0 sz α f xs∧R
   | .sl true _ sz' α' f' xs'=>AV.sl false 0 sz' α' (fun x=>fzL (f' x)) xs'=AV.sl false 0 sz α f xs∧R
   |_=>False
 | .hole _,_,_=>False
 | .hv _,_,_=>False
 | .al _,_,_=>False
 | .po _ _ _ _,_,_=>False
def Av:List AV→List AV→Prop→Prop
 |[],azs,R=>R
 |e::es,azs,R=>match azs with
  |[]=>False
  |a::azs=>AB e a (Av es azs R)
end
def mvE:AV→AV
 | .int _ _=> .top
 | .bool _=> .top
 | .str _=> .top
 | .val _=> .top
 | .any=> .top
 | .top=> .top
 | .nil=> .top
 | .hole _=> .top
 | .al _=> .top
 | .po _ _ _ _=> .top
 | .agg _=> .top
 | .tup _=> .top
 | .hv _=> .top
 | .pf _=> .top
 | .clo _ _=> .top
 | .box i c=> .box i c
 | .bv x c=> .bv x c
 | .sl true i sz α f xs=> .sl true i sz α f xs
 | .sl false _ _ _ _ _=> .top
def lnE:AV→AV
 | .int k n=> .int k n
 | .bool b=> .bool b
 | .str l=> .str l
 | .val v=> .val v
 | .any=> .any
 | .top=> .top
 | .nil=> .nil
 | .hole i=> .hole i
 | .al i=> .al i
 | .po a b c d=> .po a b c d
 | .agg l=> .agg l
 | .tup l=> .tup l
 | .hv x=> .hv x
 | .pf c=> .pf c
 | .clo f l=> .clo f l
 | .box _ _=> .top
 | .bv _ _=> .top
 | .sl true _ _ _ _ _=> .top
 | .sl false i sz α f xs=> .sl false i sz α f xs
def mvL:List AV→List AV
 |[]=>[]
 |e::es=>mvE e::mvL es
def lnL:List AV→List AV
 |[]=>[]
 |e::es=>lnE e::lnL es
def Bw:List (Nat×AV)→List AV
 |[]=>[]
 |(_,e)::es=>e::Bw es
def cA(S:Sig)(azs:List AV)(K:S.X→S.Y→Prop):Prop:=
 ∃x:S.X,S.pre x∧Av (mvL (S.args x)) azs (Av (lnL (S.args x)) azs (∀y,S.post x y→K x y))
def eA(L:LS)(azs:List AV):Prop:=∃i,L.inv i∧Av (Bw (L.regs i)) azs True∧True
def eN(L:LS)(i:L.ι)(azs:List AV):Prop:=∃i',L.inv i'∧L.meas i'<L.meas i∧Av (Bw (L.regs i')) azs True∧True
def rA(S:Sig)(x:S.X)(azs:List AV):Prop:=∃y,S.post x y∧Av (S.res x y::S.outs x y) azs True
theorem vcFun_okP{G:GInv}{P:Program}(l:List (Nat×Nat×Sig))(e:List (Nat×ES))(ov:Bool){f:FuncId}{S:Sig}(L:S.X→List (Nat×LS)){fn:Func}
 (hfn:P.funcs[f]? =some fn) (hbody:fn.body=some (fn.body.getD .skip)) (hname:(fn.name== "runtime.NumGoroutine")=false)
 (ha:Ty G P l) (Q:S.X→Prop) (hq:∀x,Pz P (Γof l) (Eof e) ov (Lof (L x)) fn.ntmps fn.results.toList (fn.body.getD .skip) S x=Q x) (h:∀x,S.pre x→Q x):Aj G P f S:=
 a5x (Γ:=Γof l) (E:=Eof e) (ov:=ov) (L:=fun x=>Lof (L x)) hfn hbody hname (XU ha) fun x hx=>(hq x).mpr (h x hx)
end Go.Eng
end
section
set_option linter.unusedVariables false
namespace Go.My
open Go.Eng
structure Nd where
 kind:Int
 text:List UInt8
 kids:List Int
 blank:Bool
def Bb:Int→List AV:=fun n=>[.int .i64 n]
def BX:List UInt8→List AV:=fun s=>[.str s]
def AQ(l:List Int):AV:= .sl false 0 1 Int Bb l
def Ab(l:List Int):AV:= .sl true 0 1 Int Bb l
def ndA(o:Bool):Nd→List AV:=fun x=>[.int .i64 x.kind,.str x.text,.sl o 0 1 Int Bb x.kids,.bool x.blank]
theorem Bg(o:Bool)(x:Nd):ndA o x=[.int .i64 x.kind,.str x.text,.sl o 0 1 Int Bb x.kids,.bool x.blank]:=rfl
def nds(l:List Nd):AV:= .sl false 0 4 Nd (ndA false) l
def Au(l:List Nd):AV:= .sl true 0 4 Nd (ndA true) l
theorem Ae{α:Type}{p q:α→Prop}(x:α)(h2:q x)(h1:p x):∃x,p x∧q x:=⟨x,h1,h2⟩
theorem AC{α β:Type}{p q:α×β→Prop}(a:α)(b:β)(h2:q (a,b))(h1:p (a,b)):∃x,p x∧q x:=⟨_,h1,h2⟩
theorem AD{α β γ:Type}{p q:α×β×γ→Prop}(a:α)(b:β)(c:γ)(h2:q (a,b,c))(h1:p (a,b,c)):∃x,p x∧q x:=⟨_,h1,h2⟩
theorem AE{α β γ δ:Type}{p q:α×β×γ×δ→Prop}(a:α)(b:β)(c:γ)(d:δ)(h2:q (a,b,c,d))(h1:p (a,b,c,d)):∃x,p x∧q x:=⟨_,h1,h2⟩
theorem AF{α β γ δ ε:Type}{p q:α×β×γ×δ×ε→Prop}(a:α)(b:β)(c:γ)(d:δ)(e:ε)(h2:q (a,b,c,d,e))(h1:p (a,b,c,d,e)):∃x,p x∧q x:=⟨_,h1,h2⟩
theorem AG{α β γ δ ε ζ:Type}{p q:α×β×γ×δ×ε×ζ→Prop}(a:α)(b:β)(c:γ)(d:δ)(e:ε)(f:ζ)(h2:q (a,b,c,d,e,f))(h1:p (a,b,c,d,e,f)):∃x,p x∧q x:=⟨_,h1,h2⟩
theorem AH{o:Bool}{id sz:Nat}{α:Type}{f:α→List AV}{l l':List α}(h:l=l'):AV.sl o id sz α f l=AV.sl o id sz α f l':=by rw[h]
theorem Az{p:Prop}[Decidable p]{P Q:Prop}(h1:p→P)(h2:¬p→Q):Aa (decide p) P Q:=
 Aw (fun h=>h1 (of_decide_eq_true h)) (fun h=>h2 (of_decide_eq_false h))
theorem Dt{α:Type}{l:List α}{n:Nat}{e:α}(h:l[n]? =some e):∃h:n<l.length,l[n]=e:=List.getElem?_eq_some_iff.1 h
theorem CS{α:Type}{l:List α}{n:Nat}{e:α}(h:l[n]? =some e):e∈l:=List.mem_of_getElem? h
theorem KD{α:Type}{l:List α}{n:Nat}{e:α}(h:l[n]? =some e):l.drop n=e::l.drop (n+1):=by
 obtain⟨h1,h2⟩:=Dt h
 rw[←h2];exact List.drop_eq_getElem_cons h1
theorem DD{α:Type}{l:List α}{n:Nat}{e:α}(h:l[n]? =some e):l.take (n+1)=l.take n++[e]:=by
 rw[List.take_add_one,h];rfl
theorem AI{α:Type}[BEq α][LawfulBEq α]{a b:α}{P Q:Prop}(h1:a≠b→P)(h2:a=b→Q):Aa (a != b) P Q:=
 Aw (fun h=>h1 (by simpa using h)) (fun h=>h2 (by simpa using h))
theorem AA{α:Type}[BEq α][LawfulBEq α]{a b:α}{P Q:Prop}(h1:a=b→P)(h2:a≠b→Q):Aa (a==b) P Q:=
 Aw (fun h=>h1 (by simpa using h)) (fun h=>h2 (by simpa using h))
theorem AJ{b:Bool}{P Q:Prop}(h1:b=false→P)(h2:b=true→Q):Aa (!b) P Q:=
 Aw (fun h=>h1 (by simpa using h)) (fun h=>h2 (by simpa using h))
theorem De{i:Int}(h:0≤i):(i+1).toNat=i.toNat+1:=by omega
theorem a5y{α:Type}{x y:List α}{i:Int}{e f:α}(h0:0≤i)(ht:x.take i.toNat=y.take i.toNat)(h1:x[i.toNat]? =some e)(h2:y[i.toNat]? =some f)(he:e=f):
 x.take (i+1).toNat=y.take (i+1).toNat:=by
 rw[De h0,DD h1,DD h2,ht,he]
theorem a5z{α:Type}{x y:List α}{i:Int}(hl:x.length=y.length)(ht:x.take i.toNat=y.take i.toNat)(h:(x.length:Int)≤i):x=y:=by
 rw[List.take_of_length_le (by omega),List.take_of_length_le (by omega)] at ht;exact ht
theorem AR:IntKind.i64.max=9223372036854775807:=rfl
theorem AK{n:Int}(h1: -9223372036854775808≤n)(h2:n≤9223372036854775807):inR .i64 n:=by
 unfold inR;simp [IntKind.min,IntKind.max,IntKind.bits,IntKind.signed];omega
end Go.My
end
section
set_option linter.unusedVariables false
set_option linter.unusedSimpArgs false
namespace Go.My
open Go.Eng
def Bt(c:UInt8):Bool:=decide (48≤c.toNat)&&decide (c.toNat≤57)
def Cv(c:UInt8):Bool:=(decide (97≤c.toNat)&&decide (c.toNat≤122))||((decide (65≤c.toNat)&&decide (c.toNat≤90))||decide (c.toNat=95))
def BP(c:UInt8):Bool:=Cv c||Bt c
def Cl(c:UInt8):Bool:=decide (32≤c.toNat)&&decide (c.toNat≤126)
def Cg(c:UInt8):Bool:=decide (c.toNat≠10)
def kw(s:List UInt8):Bool:=s==[99,108,97,115,115]||(s==[118,97,114]||(s==[105,102]||(s==[101,108,115,101]||(s==[119,104,105,108,101]||s==[114,101,116,117,114,110]))))
def mk2(s:List UInt8):Bool:=s==[38,38]||(s==[124,124]||(s==[61,61]||(s==[61,62]||s==[46,46])))
def mk1:List UInt8:=[40,41,123,125,91,93,59,44,46,61,43,45,42,60,63,58]
def CH(s:List UInt8):Bool:=mk2 s||match s with
 |[c]=>mk1.elem c
 |_=>false
def DP(p:UInt8→Bool):List UInt8→Option Nat
 |[]=>none
 |c::s=>if p c then some 0 else(DP p s).map (· +1)
def CI(s:List UInt8):List UInt8:=(s.reverse.dropWhile (fun c=>decide (c.toNat=32))).reverse
def Dx(s:List UInt8):List UInt8×Bool:=match DP (fun c=>decide (c.toNat=39)) (s.drop 1) with
 |none=>([],false)
 |some i=>(s.take (i+2),(s.take (i+2)).all Cl)
structure SgR where
 kind:Int
 text:List UInt8
 size:Int
 ok:Bool
def Bc(s:List UInt8):SgR:=match s with
 |[]=>⟨0,[],0,false⟩
 |b::_=>
  if Cv b then⟨1,s.takeWhile BP,(s.takeWhile BP).length,decide ((s.takeWhile BP).length≤30)⟩
  else if Bt b then⟨2,s.takeWhile Bt,(s.takeWhile Bt).length,decide ((s.takeWhile Bt).length≤12)⟩
  else if b.toNat=39 then⟨3,(Dx s).1,(Dx s).1.length,(Dx s).2⟩
  else if s.take 2=[47,47] then⟨5,CI (s.takeWhile Cg),(s.takeWhile Cg).length,(s.takeWhile Cg).all Cl⟩
  else if CH (s.take 2) then⟨4,s.take 2,(s.take 2).length,true⟩
  else if CH (s.take 1) then⟨4,s.take 1,1,true⟩
  else⟨0,[],0,false⟩
def Cy(s:List UInt8)(k:Int):Bool:= !(s==[])&&((Bc s).ok&&(decide ((Bc s).kind=k)&&((Bc s).text==s&&decide ((Bc s).size=s.length))))
def DQ(s:List UInt8):Bool:=Cy s 1&& !kw s
def NK(s:List UInt8):Bool:=s==[38,38]||(s==[124,124]||(s==[61,61]||(s==[60]||(s==[43]||(s==[45]||s==[42])))))
def Fw(k:Int)(s:List UInt8):Bool:=
 if k=1∨k=6∨k=12∨k=13∨k=20∨k=21 then DQ s
 else if k=2 then Cy s 2
 else if k=3 then Cy s 3
 else if k=19 then Cy s 5
 else if k=7 then NK s
 else s==[]
theorem IT{p:UInt8→Bool}:∀ {s:List UInt8} {n:Nat},(∀e∈s.take n,p e=true)→(s.length≤n∨∃e,s[n]? =some e∧p e=false)→s.take n=s.takeWhile p
 |[],n,_,_=>by simp
 |c::s,0,_,h=>by
  rcases h with h|⟨e,he,hp⟩
  ·simp at h
  ·simp at he;subst he;simp [List.takeWhile,hp]
 |c::s,n+1,ha,h=>by
  have hc:p c=true:=ha c (by simp)
  rw[List.take_succ_cons,List.takeWhile_cons,if_pos hc,IT (fun e he=>ha e (by simp [he]))]
  rcases h with h|⟨e,he,hp⟩
  ·exact .inl (by simpa using h)
  ·exact .inr ⟨e,by simpa using he,hp⟩
theorem NL{p:UInt8→Bool}{s:List UInt8}{n:Nat}{e:UInt8}(h:∀e∈s.take n,p e=true)(he:s[n]? =some e)(hp:p e=true):∀e∈s.take (n+1),p e=true:=by
 rw[DD he];intro x hx
 rcases List.mem_append.1 hx with hx|hx
 ·exact h x hx
 ·simp at hx;subst hx;exact hp
theorem Tz{p:UInt8→Bool}{s:List UInt8}{n:Nat}(h:∀e∈s.take n,p e=true)(hn:s.length≤n):s.all p=true:=by
 rw[List.take_of_length_le hn] at h;exact List.all_eq_true.2 h
theorem PA{p:UInt8→Bool}{s:List UInt8}{n:Nat}{e:UInt8}(he:s[n]? =some e)(hp:p e=false):s.all p=false:=by
 rw[Bool.eq_false_iff];intro h
 rw[List.all_eq_true.1 h e (List.mem_of_getElem? he)] at hp;cases hp
theorem PB{p:UInt8→Bool}{s:List UInt8}:s.takeWhile p=s↔s.all p=true:=by
 constructor
 ·intro h;rw[←h];exact List.all_takeWhile
 ·intro h;induction s with
  |nil=>rfl
  |cons c s ih=>
   simp only[List.all_cons,Bool.and_eq_true] at h
   rw[List.takeWhile_cons,if_pos h.1,ih h.2]
theorem TA{p:UInt8→Bool}:∀ {s:List UInt8},DP p s=none↔∀e∈s,p e=false
 |[]=>by simp [DP]
 |c::s=>by
  unfold DP
  by_cases h:p c=true
  ·simp [h]
  ·simp [h,TA (s:=s)]
theorem KE{p:UInt8→Bool}:∀ {s:List UInt8} {i:Nat},DP p s=some i↔(∀e∈s.take i,p e=false)∧∃e,s[i]? =some e∧p e=true
 |[],i=>by simp [DP]
 |c::s,i=>by
  unfold DP
  by_cases h:p c=true
  ·cases i with
   |zero=>simp [h]
   |succ i=>simp [h]
  ·cases i with
   |zero=>simp [h]
   |succ i=>
    simp only[h,Bool.false_eq_true,if_false,Option.map_eq_some_iff]
    constructor
    ·rintro⟨j,hj,e⟩
     obtain rfl:j=i:=by omega
     obtain⟨h1,h2⟩:=KE.1 hj
     refine⟨?_,by simpa using h2⟩
     intro e he;simp at he
     rcases he with rfl|he
     ·simpa using h
     ·exact h1 e he
    ·rintro⟨h1,h2⟩
     exact⟨i,KE.2 ⟨fun e he=>h1 e (by simp [he]),by simpa using h2⟩,rfl⟩
end Go.My
end
section
set_option linter.unusedVariables false
set_option linter.unusedSimpArgs false
namespace Go.My
open Go.Eng
def inn(x a b:Int):Bool:=decide (a≤x)&&decide (x≤b)
def BQ(l:List Nd)(k:Int):Bool:=decide (0≤k)&&decide (k<l.length)
def BN(k:Int):Bool:=inn k 1 11
def JO(k:Int):Bool:=inn k 12 17
def ER(k:Int):Bool:=decide (k=12)||(decide (k=20)||decide (k=19))
def Eb(k:Int):Bool:=decide (k=18)
def EG(k:Int):Bool:=decide (k=1)
def FT(k:Int):Bool:=decide (k=5)
def ET(k:Int):Bool:=JO k||decide (k=19)
def GV(k:Int):Bool:=ER k||decide (k=21)
def Hs(p:Int→Bool)(ks:List Int):Bool:=match ks.getLast? with
 |some k=>p k&&ks.dropLast.all EG
 |none=>false
def Em(k:Int)(ks:List Int):Bool:=
 if k=1∨k=2∨k=3∨k=19 then decide (ks.length=0)
 else if k=4 then ks.all BN
 else if k=5 then decide (1≤ks.length)&&ks.all BN
 else if k=7 then decide (2≤ks.length)&&ks.all BN
 else if k=8 then decide (ks.length=3)&&ks.all BN
 else if k=6∨k=11∨k=13∨k=14 then decide (ks.length=1)&&ks.all BN
 else if k=12∨k=15 then decide (ks.length≤1)&&ks.all BN
 else if k=9 then Hs BN ks
 else if k=10 then decide (2≤ks.length)&&(BN (ks.headD 0)&&(ks.drop 1).all FT)
 else if k=16 then(decide (2≤ks.length)&&decide (ks.length≤3))&&(BN (ks.headD 0)&&(ks.drop 1).all Eb)
 else if k=17 then decide (ks.length=2)&&(BN (ks.headD 0)&&Eb (ks.getD 1 0))
 else if k=18 then ks.all ET
 else if k=20 then Hs Eb ks
 else if k=21 then ks.all ER
 else if k=22 then ks.all GV
 else false
def An(ns:List Nd)(c:Int):Nd:=ns.getD c.toNat ⟨0,[],[],false⟩
def Ch(ns:List Nd)(c:Int):Int:=(An ns c).kind
def CV(ns:List Nd)(x:Nd)(i:Nat)(c:Int):Bool:=
 let y:=An ns c
 if y.kind=5 then match y.kids with
  |[]=>false
  |h::_=>BQ ns h&& !(decide (x.kind=10)&&(decide (0<i)&& !decide (Ch ns h=1)))
 else true
def Fg(ns:List Nd)(x:Nd):Bool:=(x.kids.zipIdx).all fun p=>CV ns x p.2 p.1
def DR(l:List Int)(k:Int):Bool:=l.all fun c=>decide (0≤c)&&decide (c<k)
def Ht(k:Int):Bool:=JO k||(ER k||decide (k=21))
def Ii(ns:List Nd)(k:Int)(x:Nd):Bool:=
 decide (x.kids.length≤12)&&(Fw x.kind x.text&&((DR x.kids k&&decide x.kids.Nodup)&&(Em x.kind (x.kids.map (Ch ns))&&(Fg ns x&&(Ht x.kind|| !x.blank)))))
def Cm(ns:List Nd)(k:Int):Bool:=BQ ns k&&Ii ns k (An ns k)
def mx(ds:List Int):List Int→Int→Int
 |[],d=>d
 |c::l,d=>mx ds l (max d (ds.getD c.toNat 0))
def DE(ns:List Nd):Nat→Option (List Int)
 |0=>some []
 |n+1=>match DE ns n with
  |none=>none
  |some ds=>if Cm ns n then(if 14≤mx ds (An ns n).kids 0 then none else some (ds++[mx ds (An ns n).kids 0+1])) else none
def DS(ns:List Nd)(k:Int):Int:=if BQ ns k then match DE ns (k.toNat+1) with
    |none=>0
    |some ds=>ds.getD k.toNat 0
 else 0
def Ca(ns:List Nd):List Int:=ns.flatMap (·.kids)
def Df(ns:List Nd):Bool:=
 (decide (1≤ns.length)&&decide (ns.length≤300))&&(decide (Ch ns (ns.length-1)=22)&&(!decide (DS ns (ns.length-1)=0)&&((List.range (ns.length-1)).all fun i=>decide ((Ca ns).count (i:Int)=1))))
theorem Dg{l:List Nd}{k:Int}:BQ l k=true↔0≤k∧k<l.length:=by simp [BQ]
theorem BG{ns:List Nd}{c:Int}{x:Nd}(h:ns[c.toNat]? =some x):An ns c=x:=by
 simp [An,List.getD,h]
theorem TB(ds:List Int):∀(l:List Int) (d:Int),d≤mx ds l d
 |[],d=>Int.le_refl d
 |c::l,d=>by unfold mx;have:=TB ds l (max d (ds.getD c.toNat 0));omega
theorem NM{ns:List Nd}:∀ {n:Nat} {ds:List Int},DE ns n=some ds→ds.length=n
 |0,ds,h=>by cases h;rfl
 |n+1,ds,h=>by
  unfold DE at h
  split at h
  ·cases h
  ·rename_i ds' hd
   split at h
   ·split at h
    ·cases h
    ·simp at h;rw[←h];simp [NM hd]
   ·cases h
theorem TC{ns:List Nd}:∀ {n:Nat} {ds:List Int},DE ns n=some ds→∀d∈ds,1≤d∧d≤14
 |0,ds,h=>by cases h;simp
 |n+1,ds,h=>by
  unfold DE at h
  split at h
  ·cases h
  ·rename_i ds' hd
   split at h
   ·split at h
    ·cases h
    ·simp at h;rw[←h]
     intro d hdm
     rcases List.mem_append.1 hdm with hdm|hdm
     ·exact TC hd d hdm
     ·simp at hdm
      have:=TB ds' (An ns n).kids 0
      omega
   ·cases h
theorem XV{ns:List Nd}:∀ {n:Nat} {ds:List Int},DE ns n=some ds→∀i,i<n→Cm ns i=true
 |0,ds,h,i,hi=>by omega
 |n+1,ds,h,i,hi=>by
  unfold DE at h
  split at h
  ·cases h
  ·rename_i ds' hd
   split at h
   ·rename_i hok
    by_cases e:i=n
    ·subst e;exact hok
    ·exact XV hd i (by omega)
   ·cases h
theorem XW{ns:List Nd}{n m:Nat}(h:DE ns n=none)(hm:n≤m):DE ns m=none:=by
 induction m with
 |zero=>obtain rfl:n=0:=by omega
        exact h
 |succ m ih=>
  by_cases e:n=m+1
  ·subst e;exact h
  ·unfold DE;rw[ih (by omega)]
theorem TD{ns:List Nd}{k:Int}(h:DS ns k≠0):BQ ns k=true∧(∃ds,DE ns (k.toNat+1)=some ds)∧∀i:Nat,(i:Int)≤k→Cm ns i=true:=by
 unfold DS at h
 split at h
 ·rename_i hn
  split at h
  ·exact(h rfl).elim
  ·rename_i ds hd
   exact⟨hn,⟨ds,hd⟩,fun i hi=>XV hd i (by have:=Dg.1 hn;omega)⟩
 ·exact(h rfl).elim
theorem FU{ns:List Nd}{k:Int}(h:Cm ns k=true):(0≤k∧k<ns.length)∧(An ns k).kids.length≤12∧Fw (An ns k).kind (An ns k).text=true∧
 (∀c∈(An ns k).kids,0≤c∧c<k)∧(An ns k).kids.Nodup∧Em (An ns k).kind ((An ns k).kids.map (Ch ns))=true∧Fg ns (An ns k)=true:=by
 simp only[Cm,Ii,Bool.and_eq_true,decide_eq_true_eq,DR,List.all_eq_true] at h
 exact⟨Dg.1 h.1,h.2.1,h.2.2.1,h.2.2.2.1.1,h.2.2.2.1.2,h.2.2.2.2.1,h.2.2.2.2.2.1⟩
end Go.My
end
section
set_option linter.unusedVariables false
set_option linter.unusedSimpArgs false
namespace Go.My
open Go.Eng Go.Proofs Go.RowKit
variable {G:GInv}
def CJ(s:List UInt8)(c:UInt8):Int:=match DP (fun d=>decide (d.toNat=c.toNat)) s with
 |none=> -1
 |some i=>i
theorem XX:∀(s:List UInt8) (c:UInt8),Lib.indexByte s c=CJ s c
 |[],c=>rfl
 |b::s,c=>by
  unfold Lib.indexByte CJ DP
  have e:(b==c)=decide (b.toNat=c.toNat):=by
   rw[Bool.eq_iff_iff];simp [UInt8.toNat_inj]
  rw[e]
  by_cases h:b.toNat=c.toNat
  ·simp [h]
  ·have ih:=XX s c
   unfold CJ at ih
   simp only[h,decide_false,Bool.false_eq_true,if_false]
   rw[ih]
   cases hh:DP (fun d=>decide (d.toNat=c.toNat)) s with
   |none=>simp
   |some i=>simp
set_option maxHeartbeats 1000000 in
set_option maxRecDepth 100000 in
theorem a5A(s:ByteArray)(c:Int)(w:World):
 Calls Tryz.prog 145 #[.string s,.int .u8 c] w fun e w'=>e= .returned (.int .i64 (Lib.indexByte s.data.toList c.toNat.toUInt8))∧w'=w:=by
 go_enter Tryz.func145,Tryz.ntmps145
 go_wp2
 rw[run_callFunc_extern Tryz.func172 (by kernel_rfl) (by kernel_rfl) (by kernel_rfl) (e:=Extern.BytealgIndexByte.indexByte) (by kernel_rfl),Lib.run_indexByteString]
 simp only[Result.andThen]
 rw[Oper.upon_value]
 go_wp2
 go_ret
 exact⟨rfl,rfl⟩
def Mk:Sig:= {X:=List UInt8×UInt8,args:=fun x=>[.str x.1,.int .u8 x.2.toNat],pre:=fun _=>True,Y:=Unit,post:=fun _ _=>True,res:=fun x _=> .int .i64 (CJ x.1 x.2),outs:=fun _ _=>[.top,.top],keep:=false}
theorem TE:Aj G Tryz.prog 145 Mk:=by
 refine⟨⟨⟨_,Tryz.func145,by kernel_rfl,by kernel_rfl⟩,fun x y _ _=>⟨trivial,trivial,trivial,trivial⟩⟩,?_⟩
 rintro⟨l,c⟩ _ Z w vals A _ h hA _
 simp only[Mk,AZ,Am] at h
 obtain⟨v,cs,A1,A2,rfl,_,⟨rfl,_⟩,v',cs',A3,A4,rfl,_,⟨rfl,_⟩,rfl,_⟩:=h
 refine(a5A ⟨l.toArray⟩ c.toNat w).mono ?_
 rintro e w' ⟨rfl,rfl⟩
 refine⟨(),_,Z,(fun _=>False),trivial,rfl,?_,⟨rfl,rfl,rfl,Nat.le_refl _,fun _ _ _=>⟨rfl,Iff.rfl⟩,fun _ h=>h.elim⟩⟩
 simp only[Mk,AZ,Am]
 refine⟨_,_,_,_,rfl,Ck _,⟨?_,AW⟩,_,_,_,_,rfl,Ck _,AW,_,_,_,_,rfl,Ck _,AW,rfl,AW⟩
 rw[XX];simp
def PC:Sig:= {X:=List UInt8,args:=fun x=>[.str x,.int .u8 39],pre:=fun _=>True,Y:=Unit,post:=fun _ _=>True,res:=fun x _=> .int .i64 (CJ x 39),outs:=fun _ _=>[.top,.top],keep:=false}
theorem a5B:Aj G Tryz.prog 145 PC:=⟨⟨(TE (G:=G)).1.1,fun x y _ _=>⟨trivial,trivial,trivial,trivial⟩⟩,fun x hx=>(TE (G:=G)).2 (x,39) trivial⟩
def Ml:Sig:= {X:=List UInt8,args:=fun x=>[.str x,.int .u8 39],pre:=fun x=>True,Y:=Unit,post:=fun x y=>True,res:=fun x y=> .int .i64 (CJ x 39),outs:=fun x y=>[.top,.top],keep:=false}
theorem a5C:Aj G Tryz.prog 111 Ml:=
 vcFun_okP [(145,0,PC)] [] false (fun x=>[]) Tryz.func111 rfl (by decide) ⟨a5B,trivial⟩ (fun(x:List UInt8)=>(∀(y:Unit),True→True∧True∧True∧True)∧cA PC [.str x,AV.int IntKind.u8 (39:Int)] fun x_1 y=>rA Ml x [.int .i64 (CJ x_1 (39:UInt8)),.top,.top]) (fun x=>by kernel_rfl) fun(x:List UInt8) (hx:True)=>(by
 dsimp only[cA,rA,PC,Ml,Av,AB,mvL,lnL,mvE,lnE]
 (repeat' first|(with_reducible first|rfl|exact True.intro|apply AK|apply And.intro|((first|apply Az|apply AI|apply AA|apply AJ)<;>intro _))|(apply Aw<;>intro _)|apply AH|refine Ae () ?_ ?_|((first|apply AO|apply AN|apply AM|apply AL|apply AG|apply AF|apply AE|apply AD|apply AC)<;>try dsimp only)|apply Ae|(refine Prod.forall.2 ?_;intro _;try dsimp only)|(intro _;try dsimp only))<;>(try dsimp only at*)<;>(try simp only[AR,List.length_cons,List.length_nil])<;>(try omega))
def IU:Sig:= {X:=List UInt8×List UInt8,args:=fun x=>[.str x.1,.str x.2],pre:=fun x=>x.2.length=1,Y:=Unit,post:=fun x y=>True,res:=fun x y=> .int .i64 (CJ x.1 (x.2.headD 0)),outs:=fun x y=>[.top,.top],keep:=false}
theorem a5D:Aj G Tryz.prog 159 IU:=
 vcFun_okP [(145,0,Mk)] [] false (fun x=>[]) Tryz.func159 rfl (by decide) ⟨TE,trivial⟩ (fun(x:List UInt8×List UInt8)=>(∀(y:Unit),True→True∧True∧True∧True)∧Aa ((↑(List.length x.2):Int)==(0:Int)) (rA IU x [.int .i64 (0:Int),.top,.top]) (Aa (x.2==x.1) (rA IU x [.int .i64 (0:Int),.top,.top]) (Aa ((↑(List.length x.2):Int)==(1:Int)) (((0:Int)≤(0:Int)∧(0:Int)<(↑(List.length x.2):Int))∧∀(c:UInt8),x.2[(0:Nat)]? =some c→cA Mk [.str x.1,AV.int IntKind.u8 (↑(UInt8.toNat c):Int)] fun x_1 y=>rA IU x [.int .i64 (CJ x_1.1 x_1.2),.top,.top]) (Aa (decide ((↑(List.length x.2):Int)≥(↑(List.length x.1):Int))) (rA IU x [.int .i64 (-1:Int),.top,.top]) False)))) (fun x=>by kernel_rfl) fun(x:List UInt8×List UInt8) (hx:x.2.length=1)=>(by
 dsimp only[cA,rA,Mk,IU,Av,AB,mvL,lnL,mvE,lnE]
 (repeat' first|(with_reducible first|rfl|exact True.intro|apply AK|apply And.intro|((first|apply Az|apply AI|apply AA|apply AJ)<;>intro _))|(apply Aw<;>intro _)|apply AH|refine Ae () ?_ ?_|((first|apply AO|apply AN|apply AM|apply AL|apply AG|apply AF|apply AE|apply AD|apply AC)<;>try dsimp only)|apply Ae|(refine Prod.forall.2 ?_;intro _;try dsimp only)|(intro _;try dsimp only))<;>(try dsimp only at*)<;>(try simp only[AR,List.length_cons,List.length_nil])<;>(try omega)
 ·rename_i _ h;rw[←h];match x.2,hx with
  |[c],_=>simp [CJ,DP]
 ·rename_i c hc _ _
  match x.2,hx,hc with
  |[d],_,hc=>simp at hc;rw[←hc];rfl)
def Mm:Sig:= {X:=List UInt8×List UInt8,args:=fun x=>[.str x.1,.str x.2],pre:=fun x=>x.2.length=1,Y:=Unit,post:=fun x y=>True,res:=fun x y=> .int .i64 (CJ x.1 (x.2.headD 0)),outs:=fun x y=>[.top,.top],keep:=false}
theorem a5E:Aj G Tryz.prog 121 Mm:=
 vcFun_okP [(159,0,IU)] [] false (fun x=>[]) Tryz.func121 rfl (by decide) ⟨a5D,trivial⟩ (fun(x:List UInt8×List UInt8)=>(∀(y:Unit),True→True∧True∧True∧True)∧cA IU [.str x.1,.str x.2] fun x_1 y=>rA Mm x [.int .i64 (CJ x_1.1 (List.headD x_1.2 (0:UInt8))),.top,.top]) (fun x=>by kernel_rfl) fun(x:List UInt8×List UInt8) (hx:x.2.length=1)=>(by
 dsimp only[cA,rA,Mm,IU,Av,AB,mvL,lnL,mvE,lnE]
 (repeat' first|(with_reducible first|rfl|exact True.intro|apply AK|apply And.intro|((first|apply Az|apply AI|apply AA|apply AJ)<;>intro _))|(apply Aw<;>intro _)|apply AH|refine Ae () ?_ ?_|((first|apply AO|apply AN|apply AM|apply AL|apply AG|apply AF|apply AE|apply AD|apply AC)<;>try dsimp only)|apply Ae|(refine Prod.forall.2 ?_;intro _;try dsimp only)|(intro _;try dsimp only))<;>(try dsimp only at*)<;>(try simp only[AR,List.length_cons,List.length_nil])<;>(try omega))
def Mn:Sig:= {X:=List UInt8×List UInt8,args:=fun x=>[.str x.1,.str x.2],pre:=fun x=>x.2.length=1,Y:=Unit,post:=fun x y=>True,res:=fun x y=> .bool (decide (CJ x.1 (x.2.headD 0)≥0)),outs:=fun x y=>[.top,.top],keep:=false}
theorem a5F:Aj G Tryz.prog 114 Mn:=
 vcFun_okP [(121,0,Mm)] [] false (fun x=>[]) Tryz.func114 rfl (by decide) ⟨a5E,trivial⟩ (fun(x:List UInt8×List UInt8)=>(∀(y:Unit),True→True∧True∧True∧True)∧cA Mm [.str x.1,.str x.2] fun x_1 y=>rA Mn x [.bool (decide (CJ x_1.1 (List.headD x_1.2 (0:UInt8))≥(0:Int))),.top,.top]) (fun x=>by kernel_rfl) fun(x:List UInt8×List UInt8) (hx:x.2.length=1)=>(by
 dsimp only[cA,rA,Mn,Mm,Av,AB,mvL,lnL,mvE,lnE]
 (repeat' first|(with_reducible first|rfl|exact True.intro|apply AK|apply And.intro|((first|apply Az|apply AI|apply AA|apply AJ)<;>intro _))|(apply Aw<;>intro _)|apply AH|refine Ae () ?_ ?_|((first|apply AO|apply AN|apply AM|apply AL|apply AG|apply AF|apply AE|apply AD|apply AC)<;>try dsimp only)|apply Ae|(refine Prod.forall.2 ?_;intro _;try dsimp only)|(intro _;try dsimp only))<;>(try dsimp only at*)<;>(try simp only[AR,List.length_cons,List.length_nil])<;>(try omega))
def KF:Sig:= {X:=List UInt8×List UInt8,args:=fun x=>[.str x.1,.str x.2],pre:=fun x=>x.2.length<2^62∧x.1.length<2^63,Y:=Unit,post:=fun x y=>True,res:=fun x y=> .bool (x.1.take x.2.length==x.2),outs:=fun x y=>[.top,.top],keep:=false}
theorem a5G:Aj G Tryz.prog 112 KF:=
 vcFun_okP [] [] false (fun x=>[]) Tryz.func112 rfl (by decide) trivial (fun(x:List UInt8×List UInt8)=>(∀(y:Unit),True→True∧True∧True∧True)∧Aa (decide ((↑(List.length x.1):Int)≥(↑(List.length x.2):Int))) (((0:Int)≤(0:Int)∧(0:Int)≤(↑(List.length x.2):Int)∧(↑(List.length x.2):Int)≤(↑(List.length x.1):Int))∧rA KF x [.bool (List.take (Int.toNat (↑(List.length x.2):Int)) x.1==x.2),.top,.top]) (rA KF x [.bool false,.top,.top])) (fun x=>by kernel_rfl) fun(x:List UInt8×List UInt8) (hx:x.2.length<2^62∧x.1.length<2^63)=>(by
 dsimp only[rA,KF,Av,AB]
 obtain⟨h1,h2⟩:=hx
 (repeat' first|(with_reducible first|rfl|exact True.intro|apply AK|apply And.intro|((first|apply Az|apply AI|apply AA|apply AJ)<;>intro _))|(apply Aw<;>intro _)|apply AH|refine Ae () ?_ ?_|((first|apply AO|apply AN|apply AM|apply AL|apply AG|apply AF|apply AE|apply AD|apply AC)<;>try dsimp only)|apply Ae|(refine Prod.forall.2 ?_;intro _;try dsimp only)|(intro _;try dsimp only))<;>(try dsimp only at*)<;>(try simp only[AR,List.length_cons,List.length_nil])<;>(try omega)
 ·simp
 ·rename_i h;rw[eq_comm,beq_eq_false_iff_ne];intro e;have:=congrArg List.length e;simp at this;omega)
def Mo:Sig:= {X:=List UInt8×List UInt8,args:=fun x=>[.str x.1,.str x.2],pre:=fun x=>x.2.length<2^62∧x.1.length<2^63,Y:=Unit,post:=fun x y=>True,res:=fun x y=> .bool (x.1.take x.2.length==x.2),outs:=fun x y=>[.top,.top],keep:=false}
theorem a5H:Aj G Tryz.prog 87 Mo:=
 vcFun_okP [(112,0,KF)] [] false (fun x=>[]) Tryz.func87 rfl (by decide) ⟨a5G,trivial⟩ (fun(x:List UInt8×List UInt8)=>(∀(y:Unit),True→True∧True∧True∧True)∧cA KF [.str x.1,.str x.2] fun x_1 y=>rA Mo x [.bool (List.take (List.length x_1.2) x_1.1==x_1.2),.top,.top]) (fun x=>by kernel_rfl) fun(x:List UInt8×List UInt8) (hx:x.2.length<2^62∧x.1.length<2^63)=>(by
 dsimp only[cA,rA,Mo,KF,Av,AB,mvL,lnL,mvE,lnE]
 obtain⟨h1,h2⟩:=hx
 (repeat' first|(with_reducible first|rfl|exact True.intro|apply AK|apply And.intro|((first|apply Az|apply AI|apply AA|apply AJ)<;>intro _))|(apply Aw<;>intro _)|apply AH|refine Ae () ?_ ?_|((first|apply AO|apply AN|apply AM|apply AL|apply AG|apply AF|apply AE|apply AD|apply AC)<;>try dsimp only)|apply Ae|(refine Prod.forall.2 ?_;intro _;try dsimp only)|(intro _;try dsimp only))<;>(try dsimp only at*)<;>(try simp only[AR,List.length_cons,List.length_nil])<;>(try omega))
end Go.My
end
section
set_option linter.unusedVariables false
set_option linter.unusedSimpArgs false
namespace Go.My
open Go.Eng Go.Proofs
variable {G:GInv}
def Fh:Sig:= {X:=Int×Int×Int,args:=fun x=>[.int .i64 x.1,.int .i64 x.2.1,.int .i64 x.2.2],pre:=fun x=>True,Y:=Unit,post:=fun x y=>True,res:=fun x y=> .bool (inn x.1 x.2.1 x.2.2),outs:=fun x y=>[.top,.top,.top],keep:=false}
theorem PD:Aj G Tryz.prog 58 Fh:=
 vcFun_okP [] [] false (fun x=>[]) Tryz.func58 rfl (by decide) trivial (fun(x:Int×Int×Int)=>(∀(y:Unit),True→True∧True∧True∧True∧True)∧Aa (decide (x.1≥x.2.1)) (rA Fh x [.bool (decide (x.1≤x.2.2)),.top,.top,.top]) (rA Fh x [.bool false,.top,.top,.top])) (fun x=>by kernel_rfl) fun(x:Int×Int×Int) (hx:True)=>(by
 dsimp only[rA,Fh,Av,AB]
 (repeat' first|(with_reducible first|rfl|exact True.intro|apply AK|apply And.intro|((first|apply Az|apply AI|apply AA|apply AJ)<;>intro _))|(apply Aw<;>intro _)|apply AH|refine Ae () ?_ ?_|((first|apply AO|apply AN|apply AM|apply AL|apply AG|apply AF|apply AE|apply AD|apply AC)<;>try dsimp only)|apply Ae|(refine Prod.forall.2 ?_;intro _;try dsimp only)|(intro _;try dsimp only))<;>(try dsimp only at*)<;>(try simp only[AR,List.length_cons,List.length_nil])<;>(try omega)
 all_goals simp [inn,*])
def CW:Sig:= {X:=Int×Int×Int,args:=fun x=>[.int .i64 x.1,.int .i64 x.2.1,.int .i64 x.2.2],pre:=fun x=>True,Y:=Unit,post:=fun x y=>True,res:=fun x y=> .bool (inn x.1 x.2.1 x.2.2),outs:=fun x y=>[.top,.top,.top],keep:=false}
theorem KG:Aj G Tryz.prog 53 CW:=
 vcFun_okP [] [] false (fun x=>[]) Tryz.func53 rfl (by decide) trivial (fun(x:Int×Int×Int)=>(∀(y:Unit),True→True∧True∧True∧True∧True)∧Aa (decide (x.1≥x.2.1)) (rA CW x [.bool (decide (x.1≤x.2.2)),.top,.top,.top]) (rA CW x [.bool false,.top,.top,.top])) (fun x=>by kernel_rfl) fun(x:Int×Int×Int) (hx:True)=>(by
 dsimp only[rA,CW,Av,AB]
 (repeat' first|(with_reducible first|rfl|exact True.intro|apply AK|apply And.intro|((first|apply Az|apply AI|apply AA|apply AJ)<;>intro _))|(apply Aw<;>intro _)|apply AH|refine Ae () ?_ ?_|((first|apply AO|apply AN|apply AM|apply AL|apply AG|apply AF|apply AE|apply AD|apply AC)<;>try dsimp only)|apply Ae|(refine Prod.forall.2 ?_;intro _;try dsimp only)|(intro _;try dsimp only))<;>(try dsimp only at*)<;>(try simp only[AR,List.length_cons,List.length_nil])<;>(try omega)
 all_goals simp [inn,*])
def Gv:Sig:= {X:=UInt8,args:=fun x=>[.int .u8 x.toNat],pre:=fun x=>True,Y:=Unit,post:=fun x y=>True,res:=fun x y=> .bool (Bt x),outs:=fun x y=>[.top],keep:=false}
theorem TF:Aj G Tryz.prog 85 Gv:=
 vcFun_okP [] [] false (fun x=>[]) Tryz.func85 rfl (by decide) trivial (fun(x:UInt8)=>(∀(y:Unit),True→True∧True∧True)∧Aa (decide ((↑(UInt8.toNat x):Int)≥(48:Int))) (rA Gv x [.bool (decide ((↑(UInt8.toNat x):Int)≤(57:Int))),.top]) (rA Gv x [.bool false,.top])) (fun x=>by kernel_rfl) fun(x:UInt8) (hx:True)=>(by
 dsimp only[rA,Gv,Av,AB]
 (repeat' first|(with_reducible first|rfl|exact True.intro|apply AK|apply And.intro|((first|apply Az|apply AI|apply AA|apply AJ)<;>intro _))|(apply Aw<;>intro _)|apply AH|refine Ae () ?_ ?_|((first|apply AO|apply AN|apply AM|apply AL|apply AG|apply AF|apply AE|apply AD|apply AC)<;>try dsimp only)|apply Ae|(refine Prod.forall.2 ?_;intro _;try dsimp only)|(intro _;try dsimp only))<;>(try dsimp only at*)<;>(try simp only[AR,List.length_cons,List.length_nil])<;>(try omega)
 all_goals(rw[Bool.eq_iff_iff];simp only[Bt,Bool.and_eq_true,Bool.or_eq_true,decide_eq_true_eq,Bool.not_eq_true',decide_eq_false_iff_not,bne_iff_ne,ne_eq,beq_iff_eq,Bool.not_not,reduceCtorEq,Bool.false_eq_true,true_iff,false_iff,iff_true,iff_false,not_true,not_false_eq_true]<;>omega))
def Fx:Sig:= {X:=UInt8,args:=fun x=>[.int .u8 x.toNat],pre:=fun x=>True,Y:=Unit,post:=fun x y=>True,res:=fun x y=> .bool (Bt x),outs:=fun x y=>[.top],keep:=false}
theorem TG:Aj G Tryz.prog 79 Fx:=
 vcFun_okP [] [] false (fun x=>[]) Tryz.func79 rfl (by decide) trivial (fun(x:UInt8)=>(∀(y:Unit),True→True∧True∧True)∧Aa (decide ((↑(UInt8.toNat x):Int)≥(48:Int))) (rA Fx x [.bool (decide ((↑(UInt8.toNat x):Int)≤(57:Int))),.top]) (rA Fx x [.bool false,.top])) (fun x=>by kernel_rfl) fun(x:UInt8) (hx:True)=>(by
 dsimp only[rA,Fx,Av,AB]
 (repeat' first|(with_reducible first|rfl|exact True.intro|apply AK|apply And.intro|((first|apply Az|apply AI|apply AA|apply AJ)<;>intro _))|(apply Aw<;>intro _)|apply AH|refine Ae () ?_ ?_|((first|apply AO|apply AN|apply AM|apply AL|apply AG|apply AF|apply AE|apply AD|apply AC)<;>try dsimp only)|apply Ae|(refine Prod.forall.2 ?_;intro _;try dsimp only)|(intro _;try dsimp only))<;>(try dsimp only at*)<;>(try simp only[AR,List.length_cons,List.length_nil])<;>(try omega)
 all_goals(rw[Bool.eq_iff_iff];simp only[Bt,Bool.and_eq_true,Bool.or_eq_true,decide_eq_true_eq,Bool.not_eq_true',decide_eq_false_iff_not,bne_iff_ne,ne_eq,beq_iff_eq,Bool.not_not,reduceCtorEq,Bool.false_eq_true,true_iff,false_iff,iff_true,iff_false,not_true,not_false_eq_true]<;>omega))
def Fy:Sig:= {X:=UInt8,args:=fun x=>[.int .u8 x.toNat],pre:=fun x=>True,Y:=Unit,post:=fun x y=>True,res:=fun x y=> .bool (Cv x),outs:=fun x y=>[.top],keep:=false}
theorem XY:Aj G Tryz.prog 82 Fy:=
 vcFun_okP [] [] false (fun x=>[]) Tryz.func82 rfl (by decide) trivial (fun(x:UInt8)=>(∀(y:Unit),True→True∧True∧True)∧Aa (decide ((↑(UInt8.toNat x):Int)≥(97:Int))) (Aa (decide ((↑(UInt8.toNat x):Int)≤(122:Int))) (rA Fy x [.bool true,.top]) (Aa (decide ((↑(UInt8.toNat x):Int)≥(65:Int))) (Aa (decide ((↑(UInt8.toNat x):Int)≤(90:Int))) (rA Fy x [.bool true,.top]) (rA Fy x [.bool ((↑(UInt8.toNat x):Int)==(95:Int)),.top])) (rA Fy x [.bool ((↑(UInt8.toNat x):Int)==(95:Int)),.top]))) (Aa (decide ((↑(UInt8.toNat x):Int)≥(65:Int))) (Aa (decide ((↑(UInt8.toNat x):Int)≤(90:Int))) (rA Fy x [.bool true,.top]) (rA Fy x [.bool ((↑(UInt8.toNat x):Int)==(95:Int)),.top])) (rA Fy x [.bool ((↑(UInt8.toNat x):Int)==(95:Int)),.top]))) (fun x=>by kernel_rfl) fun(x:UInt8) (hx:True)=>(by
 dsimp only[rA,Fy,Av,AB]
 (repeat' first|(with_reducible first|rfl|exact True.intro|apply AK|apply And.intro|((first|apply Az|apply AI|apply AA|apply AJ)<;>intro _))|(apply Aw<;>intro _)|apply AH|refine Ae () ?_ ?_|((first|apply AO|apply AN|apply AM|apply AL|apply AG|apply AF|apply AE|apply AD|apply AC)<;>try dsimp only)|apply Ae|(refine Prod.forall.2 ?_;intro _;try dsimp only)|(intro _;try dsimp only))<;>(try dsimp only at*)<;>(try simp only[AR,List.length_cons,List.length_nil])<;>(try omega)
 all_goals(rw[Bool.eq_iff_iff];simp only[Cv,Bool.and_eq_true,Bool.or_eq_true,decide_eq_true_eq,Bool.not_eq_true',decide_eq_false_iff_not,bne_iff_ne,ne_eq,beq_iff_eq,Bool.not_not,reduceCtorEq,Bool.false_eq_true,true_iff,false_iff,iff_true,iff_false,not_true,not_false_eq_true]<;>omega))
def EU:Sig:= {X:=UInt8,args:=fun x=>[.int .u8 x.toNat],pre:=fun x=>True,Y:=Unit,post:=fun x y=>True,res:=fun x y=> .bool (Cv x),outs:=fun x y=>[.top],keep:=false}
theorem XZ:Aj G Tryz.prog 78 EU:=
 vcFun_okP [] [] false (fun x=>[]) Tryz.func78 rfl (by decide) trivial (fun(x:UInt8)=>(∀(y:Unit),True→True∧True∧True)∧Aa (decide ((↑(UInt8.toNat x):Int)≥(97:Int))) (Aa (decide ((↑(UInt8.toNat x):Int)≤(122:Int))) (rA EU x [.bool true,.top]) (Aa (decide ((↑(UInt8.toNat x):Int)≥(65:Int))) (Aa (decide ((↑(UInt8.toNat x):Int)≤(90:Int))) (rA EU x [.bool true,.top]) (rA EU x [.bool ((↑(UInt8.toNat x):Int)==(95:Int)),.top])) (rA EU x [.bool ((↑(UInt8.toNat x):Int)==(95:Int)),.top]))) (Aa (decide ((↑(UInt8.toNat x):Int)≥(65:Int))) (Aa (decide ((↑(UInt8.toNat x):Int)≤(90:Int))) (rA EU x [.bool true,.top]) (rA EU x [.bool ((↑(UInt8.toNat x):Int)==(95:Int)),.top])) (rA EU x [.bool ((↑(UInt8.toNat x):Int)==(95:Int)),.top]))) (fun x=>by kernel_rfl) fun(x:UInt8) (hx:True)=>(by
 dsimp only[rA,EU,Av,AB]
 (repeat' first|(with_reducible first|rfl|exact True.intro|apply AK|apply And.intro|((first|apply Az|apply AI|apply AA|apply AJ)<;>intro _))|(apply Aw<;>intro _)|apply AH|refine Ae () ?_ ?_|((first|apply AO|apply AN|apply AM|apply AL|apply AG|apply AF|apply AE|apply AD|apply AC)<;>try dsimp only)|apply Ae|(refine Prod.forall.2 ?_;intro _;try dsimp only)|(intro _;try dsimp only))<;>(try dsimp only at*)<;>(try simp only[AR,List.length_cons,List.length_nil])<;>(try omega)
 all_goals(rw[Bool.eq_iff_iff];simp only[Cv,Bool.and_eq_true,Bool.or_eq_true,decide_eq_true_eq,Bool.not_eq_true',decide_eq_false_iff_not,bne_iff_ne,ne_eq,beq_iff_eq,Bool.not_not,reduceCtorEq,Bool.false_eq_true,true_iff,false_iff,iff_true,iff_false,not_true,not_false_eq_true]<;>omega))
def KH:Sig:= {X:=UInt8,args:=fun x=>[.int .u8 x.toNat],pre:=fun x=>True,Y:=Unit,post:=fun x y=>True,res:=fun x y=> .bool (BP x),outs:=fun x y=>[.top],keep:=false}
theorem a5I:Aj G Tryz.prog 84 KH:=
 vcFun_okP [(82,0,Fy),(85,0,Gv)] [] false (fun x=>[]) Tryz.func84 rfl (by decide) ⟨XY,TF,trivial⟩ (fun(x:UInt8)=>(∀(y:Unit),True→True∧True∧True)∧cA Fy [AV.int IntKind.u8 (↑(UInt8.toNat x):Int)] fun x_1 y=>Aa (Cv x_1) (rA KH x [.bool true,.top]) (cA Gv [AV.int IntKind.u8 (↑(UInt8.toNat x):Int)] fun x_2 y=>rA KH x [.bool (Bt x_2),.top])) (fun x=>by kernel_rfl) fun(x:UInt8) (hx:True)=>(by
 dsimp only[cA,rA,Gv,Fy,KH,Av,AB,mvL,lnL,mvE,lnE]
 (repeat' first|(with_reducible first|rfl|exact True.intro|apply AK|apply And.intro|((first|apply Az|apply AI|apply AA|apply AJ)<;>intro _))|(apply Aw<;>intro _)|apply AH|refine Ae () ?_ ?_|((first|apply AO|apply AN|apply AM|apply AL|apply AG|apply AF|apply AE|apply AD|apply AC)<;>try dsimp only)|apply Ae|(refine Prod.forall.2 ?_;intro _;try dsimp only)|(intro _;try dsimp only))<;>(try dsimp only at*)<;>(try simp only[AR,List.length_cons,List.length_nil])<;>(try omega)
 all_goals simp [BP,*])
def Ij:Sig:= {X:=UInt8,args:=fun x=>[.int .u8 x.toNat],pre:=fun x=>True,Y:=Unit,post:=fun x y=>True,res:=fun x y=> .bool (Cl x),outs:=fun x y=>[.top],keep:=false}
theorem Ya:Aj G Tryz.prog 109 Ij:=
 vcFun_okP [] [] false (fun x=>[]) Tryz.func109 rfl (by decide) trivial (fun(x:UInt8)=>(∀(y:Unit),True→True∧True∧True)∧Aa (decide ((↑(UInt8.toNat x):Int)≥(32:Int))) (rA Ij x [.bool (decide ((↑(UInt8.toNat x):Int)≤(126:Int))),.top]) (rA Ij x [.bool false,.top])) (fun x=>by kernel_rfl) fun(x:UInt8) (hx:True)=>(by
 dsimp only[rA,Ij,Av,AB]
 (repeat' first|(with_reducible first|rfl|exact True.intro|apply AK|apply And.intro|((first|apply Az|apply AI|apply AA|apply AJ)<;>intro _))|(apply Aw<;>intro _)|apply AH|refine Ae () ?_ ?_|((first|apply AO|apply AN|apply AM|apply AL|apply AG|apply AF|apply AE|apply AD|apply AC)<;>try dsimp only)|apply Ae|(refine Prod.forall.2 ?_;intro _;try dsimp only)|(intro _;try dsimp only))<;>(try dsimp only at*)<;>(try simp only[AR,List.length_cons,List.length_nil])<;>(try omega)
 all_goals(rw[Bool.eq_iff_iff];simp only[Cl,Bool.and_eq_true,Bool.or_eq_true,decide_eq_true_eq,Bool.not_eq_true',decide_eq_false_iff_not,bne_iff_ne,ne_eq,beq_iff_eq,Bool.not_not,reduceCtorEq,Bool.false_eq_true,true_iff,false_iff,iff_true,iff_false,not_true,not_false_eq_true]<;>omega))
def Mp:Sig:= {X:=UInt8,args:=fun x=>[.int .u8 x.toNat],pre:=fun x=>True,Y:=Unit,post:=fun x y=>True,res:=fun x y=> .bool (Cg x),outs:=fun x y=>[.top],keep:=false}
theorem a5J:Aj G Tryz.prog 88 Mp:=
 vcFun_okP [] [] false (fun x=>[]) Tryz.func88 rfl (by decide) trivial (fun(x:UInt8)=>(∀(y:Unit),True→True∧True∧True)∧rA Mp x [.bool ((↑(UInt8.toNat x):Int) != (10:Int)),.top]) (fun x=>by kernel_rfl) fun(x:UInt8) (hx:True)=>(by
 dsimp only[rA,Mp,Av,AB]
 (repeat' first|(with_reducible first|rfl|exact True.intro|apply AK|apply And.intro|((first|apply Az|apply AI|apply AA|apply AJ)<;>intro _))|(apply Aw<;>intro _)|apply AH|refine Ae () ?_ ?_|((first|apply AO|apply AN|apply AM|apply AL|apply AG|apply AF|apply AE|apply AD|apply AC)<;>try dsimp only)|apply Ae|(refine Prod.forall.2 ?_;intro _;try dsimp only)|(intro _;try dsimp only))<;>(try dsimp only at*)<;>(try simp only[AR,List.length_cons,List.length_nil])<;>(try omega)
 all_goals(rw[Bool.eq_iff_iff];simp only[Cg,Bool.and_eq_true,Bool.or_eq_true,decide_eq_true_eq,Bool.not_eq_true',decide_eq_false_iff_not,bne_iff_ne,ne_eq,beq_iff_eq,Bool.not_not,reduceCtorEq,Bool.false_eq_true,true_iff,false_iff,iff_true,iff_false,not_true,not_false_eq_true]<;>omega))
def Ec(p:UInt8→Bool)(x:List UInt8)(rs:Int→List (Nat×AV)):LS:= {
 ι:=Int,inv:=fun i=>0≤i∧i≤x.length∧∀e∈x.take i.toNat,p e=true,regs:=rs,als:=[],meas:=fun i=>x.length-i.toNat}
def Hu:Sig:= {X:=List UInt8,args:=fun x=>[.str x],pre:=fun x=>x.length<2^63,Y:=Unit,post:=fun x y=>True,res:=fun x y=> .bool (x.all Cl),outs:=fun x y=>[.top],keep:=false}
theorem Yb:Aj G Tryz.prog 90 Hu:=
 vcFun_okP [] [] false (fun x=>[(2,Ec Cl x fun i=>[(0,.str x),(3,.int .i64 i)])]) Tryz.func90 rfl (by decide) trivial (fun(x:List UInt8)=>(∀(y:Unit),True→True∧True∧True)∧eA (Ec Cl x fun(i:Int)=>[((0:Nat),.str x),((3:Nat),.int .i64 i)]) [.str x,.int .i64 (0:Int)]∧∀(i:Int),((0:Int)≤i∧i≤(↑(List.length x):Int)∧∀(e:UInt8),e∈List.take (Int.toNat i) x→Cl e=true)→Aa (decide (i<(↑(List.length x):Int))) (((0:Int)≤i∧i<(↑(List.length x):Int))∧∀(c:UInt8),x[Int.toNat i]? =some c→Aa (decide ((↑(UInt8.toNat c):Int)<(32:Int))) (rA Hu x [.bool false,.top]) (((0:Int)≤i∧i<(↑(List.length x):Int))∧∀(c:UInt8),x[Int.toNat i]? =some c→Aa (decide ((↑(UInt8.toNat c):Int)>(126:Int))) (rA Hu x [.bool false,.top]) (inR IntKind.i64 (i+(1:Int))∧eN (Ec Cl x fun(i:Int)=>[((0:Nat),.str x),((3:Nat),.int .i64 i)]) i [.str x,.int .i64 (i+(1:Int))]))) (rA Hu x [.bool true,.top])) (fun x=>by kernel_rfl) fun(x:List UInt8) (hx:x.length<2^63)=>(by
 dsimp only[eA,eN,Ec,rA,Hu,Av,AB,Bw]
 (repeat' first|(with_reducible first|rfl|exact True.intro|apply AK|apply And.intro|((first|apply Az|apply AI|apply AA|apply AJ)<;>intro _))|(apply Aw<;>intro _)|apply AH|refine Ae () ?_ ?_|((first|apply AO|apply AN|apply AM|apply AL|apply AG|apply AF|apply AE|apply AD|apply AC)<;>try dsimp only)|apply Ae|(refine Prod.forall.2 ?_;intro _;try dsimp only)|(intro _;try dsimp only))<;>(try dsimp only at*)<;>(try simp only[AR,List.length_cons,List.length_nil])<;>(try omega)
 ·rename_i h;simp at h
 ·rename_i i hi hl c hc h;exact(PA hc (by(rw[Bool.eq_iff_iff];simp only[Cl,Bool.and_eq_true,Bool.or_eq_true,decide_eq_true_eq,Bool.not_eq_true',decide_eq_false_iff_not,bne_iff_ne,ne_eq,beq_iff_eq,Bool.not_not,reduceCtorEq,Bool.false_eq_true,true_iff,false_iff,iff_true,iff_false,not_true,not_false_eq_true]<;>omega))).symm
 ·rename_i i hi hl c hc h d hd h2;exact(PA hd (by(rw[Bool.eq_iff_iff];simp only[Cl,Bool.and_eq_true,Bool.or_eq_true,decide_eq_true_eq,Bool.not_eq_true',decide_eq_false_iff_not,bne_iff_ne,ne_eq,beq_iff_eq,Bool.not_not,reduceCtorEq,Bool.false_eq_true,true_iff,false_iff,iff_true,iff_false,not_true,not_false_eq_true]<;>omega))).symm
 ·rename_i i hi hl c hc h d hd h2 e he
  rw[hc] at hd;cases hd
  rw[De hi.1] at he;exact NL hi.2.2 hc (by(rw[Bool.eq_iff_iff];simp only[Cl,Bool.and_eq_true,Bool.or_eq_true,decide_eq_true_eq,Bool.not_eq_true',decide_eq_false_iff_not,bne_iff_ne,ne_eq,beq_iff_eq,Bool.not_not,reduceCtorEq,Bool.false_eq_true,true_iff,false_iff,iff_true,iff_false,not_true,not_false_eq_true]<;>omega)) e he
 ·rename_i i hi hl;exact(Tz hi.2.2 (by omega)).symm)
def KI:Sig:= {X:=List UInt8,args:=fun x=>[.str x,.clo (.func 84) []],pre:=fun x=>x.length<2^63,Y:=Unit,post:=fun x y=>True,res:=fun x y=> .str (x.takeWhile BP),outs:=fun x y=>[.top,.top],keep:=false}
theorem a5K:Aj G Tryz.prog 83 KI:=
 vcFun_okP [(84,0,KH)] [] false (fun x=>[(2,Ec BP x fun i=>[(0,.str x),(1,.clo (.func 84) []),(5,.int .i64 i)])]) Tryz.func83 rfl (by decide) ⟨a5I,trivial⟩ (fun(x:List UInt8)=>(∀(y:Unit),True→True∧True∧True∧True)∧eA (Ec BP x fun(i:Int)=>[((0:Nat),.str x),((1:Nat),AV.clo (Fn.func (84:FuncId)) []),((5:Nat),.int .i64 i)]) [.str x,AV.clo (Fn.func (84:FuncId)) [],.int .i64 (0:Int)]∧∀(i:Int),((0:Int)≤i∧i≤(↑(List.length x):Int)∧∀(e:UInt8),e∈List.take (Int.toNat i) x→BP e=true)→Aa (decide (i<(↑(List.length x):Int))) (((0:Int)≤i∧i<(↑(List.length x):Int))∧∀(c:UInt8),x[Int.toNat i]? =some c→cA KH [AV.int IntKind.u8 (↑(UInt8.toNat c):Int)] fun x_1 y=>Aa (BP x_1) (inR IntKind.i64 (i+(1:Int))∧eN (Ec BP x fun(i:Int)=>[((0:Nat),.str x),((1:Nat),AV.clo (Fn.func (84:FuncId)) []),((5:Nat),.int .i64 i)]) i [.str x,AV.clo (Fn.func (84:FuncId)) [],.int .i64 (i+(1:Int))]) (((0:Int)≤(0:Int)∧(0:Int)≤i∧i≤(↑(List.length x):Int))∧rA KI x [.str (List.take (Int.toNat i) x),.top,.top])) (((0:Int)≤(0:Int)∧(0:Int)≤i∧i≤(↑(List.length x):Int))∧rA KI x [.str (List.take (Int.toNat i) x),.top,.top])) (fun x=>by kernel_rfl) fun(x:List UInt8) (hx:x.length<2^63)=>(by
 dsimp only[cA,eA,eN,Ec,rA,KH,KI,Av,AB,mvL,lnL,mvE,lnE,Bw]
 (repeat' first|(with_reducible first|rfl|exact True.intro|apply AK|apply And.intro|((first|apply Az|apply AI|apply AA|apply AJ)<;>intro _))|(apply Aw<;>intro _)|apply AH|refine Ae () ?_ ?_|((first|apply AO|apply AN|apply AM|apply AL|apply AG|apply AF|apply AE|apply AD|apply AC)<;>try dsimp only)|apply Ae|(refine Prod.forall.2 ?_;intro _;try dsimp only)|(intro _;try dsimp only))<;>(try dsimp only at*)<;>(try simp only[AR,List.length_cons,List.length_nil])<;>(try omega)
 ·rename_i h;simp at h
 ·rename_i i hi hl c hc y _ hp e he
  rw[De hi.1] at he;exact NL hi.2.2 hc hp e he
 ·rename_i i hi hl c hc y _ hp
  exact IT hi.2.2 (.inr ⟨c,hc,hp⟩)
 ·rename_i i hi hl
  exact IT hi.2.2 (.inl (by omega)))
def KJ:Sig:= {X:=List UInt8,args:=fun x=>[.str x,.clo (.func 85) []],pre:=fun x=>x.length<2^63,Y:=Unit,post:=fun x y=>True,res:=fun x y=> .str (x.takeWhile Bt),outs:=fun x y=>[.top,.top],keep:=false}
theorem a5L:Aj G Tryz.prog 83 KJ:=
 vcFun_okP [(85,0,Gv)] [] false (fun x=>[(2,Ec Bt x fun i=>[(0,.str x),(1,.clo (.func 85) []),(5,.int .i64 i)])]) Tryz.func83 rfl (by decide) ⟨TF,trivial⟩ (fun(x:List UInt8)=>(∀(y:Unit),True→True∧True∧True∧True)∧eA (Ec Bt x fun(i:Int)=>[((0:Nat),.str x),((1:Nat),AV.clo (Fn.func (85:FuncId)) []),((5:Nat),.int .i64 i)]) [.str x,AV.clo (Fn.func (85:FuncId)) [],.int .i64 (0:Int)]∧∀(i:Int),((0:Int)≤i∧i≤(↑(List.length x):Int)∧∀(e:UInt8),e∈List.take (Int.toNat i) x→Bt e=true)→Aa (decide (i<(↑(List.length x):Int))) (((0:Int)≤i∧i<(↑(List.length x):Int))∧∀(c:UInt8),x[Int.toNat i]? =some c→cA Gv [AV.int IntKind.u8 (↑(UInt8.toNat c):Int)] fun x_1 y=>Aa (Bt x_1) (inR IntKind.i64 (i+(1:Int))∧eN (Ec Bt x fun(i:Int)=>[((0:Nat),.str x),((1:Nat),AV.clo (Fn.func (85:FuncId)) []),((5:Nat),.int .i64 i)]) i [.str x,AV.clo (Fn.func (85:FuncId)) [],.int .i64 (i+(1:Int))]) (((0:Int)≤(0:Int)∧(0:Int)≤i∧i≤(↑(List.length x):Int))∧rA KJ x [.str (List.take (Int.toNat i) x),.top,.top])) (((0:Int)≤(0:Int)∧(0:Int)≤i∧i≤(↑(List.length x):Int))∧rA KJ x [.str (List.take (Int.toNat i) x),.top,.top])) (fun x=>by kernel_rfl) fun(x:List UInt8) (hx:x.length<2^63)=>(by
 dsimp only[cA,eA,eN,Ec,rA,Gv,KJ,Av,AB,mvL,lnL,mvE,lnE,Bw]
 (repeat' first|(with_reducible first|rfl|exact True.intro|apply AK|apply And.intro|((first|apply Az|apply AI|apply AA|apply AJ)<;>intro _))|(apply Aw<;>intro _)|apply AH|refine Ae () ?_ ?_|((first|apply AO|apply AN|apply AM|apply AL|apply AG|apply AF|apply AE|apply AD|apply AC)<;>try dsimp only)|apply Ae|(refine Prod.forall.2 ?_;intro _;try dsimp only)|(intro _;try dsimp only))<;>(try dsimp only at*)<;>(try simp only[AR,List.length_cons,List.length_nil])<;>(try omega)
 ·rename_i h;simp at h
 ·rename_i i hi hl c hc y _ hp e he
  rw[De hi.1] at he;exact NL hi.2.2 hc hp e he
 ·rename_i i hi hl c hc y _ hp
  exact IT hi.2.2 (.inr ⟨c,hc,hp⟩)
 ·rename_i i hi hl
  exact IT hi.2.2 (.inl (by omega)))
def KK:Sig:= {X:=List UInt8,args:=fun x=>[.str x,.clo (.func 88) []],pre:=fun x=>x.length<2^63,Y:=Unit,post:=fun x y=>True,res:=fun x y=> .str (x.takeWhile Cg),outs:=fun x y=>[.top,.top],keep:=false}
theorem a5M:Aj G Tryz.prog 83 KK:=
 vcFun_okP [(88,0,Mp)] [] false (fun x=>[(2,Ec Cg x fun i=>[(0,.str x),(1,.clo (.func 88) []),(5,.int .i64 i)])]) Tryz.func83 rfl (by decide) ⟨a5J,trivial⟩ (fun(x:List UInt8)=>(∀(y:Unit),True→True∧True∧True∧True)∧eA (Ec Cg x fun(i:Int)=>[((0:Nat),.str x),((1:Nat),AV.clo (Fn.func (88:FuncId)) []),((5:Nat),.int .i64 i)]) [.str x,AV.clo (Fn.func (88:FuncId)) [],.int .i64 (0:Int)]∧∀(i:Int),((0:Int)≤i∧i≤(↑(List.length x):Int)∧∀(e:UInt8),e∈List.take (Int.toNat i) x→Cg e=true)→Aa (decide (i<(↑(List.length x):Int))) (((0:Int)≤i∧i<(↑(List.length x):Int))∧∀(c:UInt8),x[Int.toNat i]? =some c→cA Mp [AV.int IntKind.u8 (↑(UInt8.toNat c):Int)] fun x_1 y=>Aa (Cg x_1) (inR IntKind.i64 (i+(1:Int))∧eN (Ec Cg x fun(i:Int)=>[((0:Nat),.str x),((1:Nat),AV.clo (Fn.func (88:FuncId)) []),((5:Nat),.int .i64 i)]) i [.str x,AV.clo (Fn.func (88:FuncId)) [],.int .i64 (i+(1:Int))]) (((0:Int)≤(0:Int)∧(0:Int)≤i∧i≤(↑(List.length x):Int))∧rA KK x [.str (List.take (Int.toNat i) x),.top,.top])) (((0:Int)≤(0:Int)∧(0:Int)≤i∧i≤(↑(List.length x):Int))∧rA KK x [.str (List.take (Int.toNat i) x),.top,.top])) (fun x=>by kernel_rfl) fun(x:List UInt8) (hx:x.length<2^63)=>(by
 dsimp only[cA,eA,eN,Ec,rA,KK,Mp,Av,AB,mvL,lnL,mvE,lnE,Bw]
 (repeat' first|(with_reducible first|rfl|exact True.intro|apply AK|apply And.intro|((first|apply Az|apply AI|apply AA|apply AJ)<;>intro _))|(apply Aw<;>intro _)|apply AH|refine Ae () ?_ ?_|((first|apply AO|apply AN|apply AM|apply AL|apply AG|apply AF|apply AE|apply AD|apply AC)<;>try dsimp only)|apply Ae|(refine Prod.forall.2 ?_;intro _;try dsimp only)|(intro _;try dsimp only))<;>(try dsimp only at*)<;>(try simp only[AR,List.length_cons,List.length_nil])<;>(try omega)
 ·rename_i h;simp at h
 ·rename_i i hi hl c hc y _ hp e he
  rw[De hi.1] at he;exact NL hi.2.2 hc hp e he
 ·rename_i i hi hl c hc y _ hp
  exact IT hi.2.2 (.inr ⟨c,hc,hp⟩)
 ·rename_i i hi hl
  exact IT hi.2.2 (.inl (by omega)))
end Go.My
end
