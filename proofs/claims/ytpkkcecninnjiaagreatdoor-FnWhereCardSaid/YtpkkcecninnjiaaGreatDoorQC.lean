/- joined -/
import Derived.Test.YtpkkcecninnjiaaGreatDoorQB
import Derived.Laws.Sem
set_option linter.unusedSimpArgs false
set_option linter.unusedVariables false
section
namespace Go.Eng
variable {A1 S T Z Z1:FP}{C:Ctx}{K:St→Prop}{P:Program}{a:Act}{dst:Option Nat}{n off sz:Nat}{r x:AV}{s:St}{sv v xv:Value}{ts:Array TypeId}{w:World}{η:Nat→Value}
structure Grew (w w':World) (A:FP):Prop where
 os:w'.os=w.os
 tape:w'.tape=w.tape
 output:w'.output=w.output
 size:w.heap.size≤w'.heap.size
 old:∀b,b<w.heap.size→¬A b→w'.heap[b]? =w.heap[b]?
theorem Inst.next(hi:Inst C s a w η Z T)
 (hzz:∀b,Z1 b→Z b) (hgone:∀b,Z b→¬Z1 b→T b) (hA1T:∀b,A1 b→T b)
 {w':World} (hg:Grew w w' A1) {regs':List AV} {n':Nat} {η':Nat→Value} {S':FP} {a':Act} (hd:a'.defers=a.defers)
 (hrel:Am (fun c=>Z1 c∨w.heap.size≤c) η' w' regs' a'.tmps.toList S') (hids:AN n' regs')
 (hS':∀b,S' b→(Z1 b∨w.heap.size≤b)∧(T b∨w.heap.size≤b)∧b<w'.heap.size):
 Inst C ⟨regs',n'⟩ a' w' η' (fun c=>Z1 c∨w.heap.size≤c) S':=by
 refine⟨hd.trans hi.defers,hrel,hids,fun b hb=> ?_,?_⟩
 ·obtain⟨g1,g2,g3⟩:=hS' b hb
  refine⟨g1,g3,fun h0=> ?_⟩
  rcases g2 with g2|g2
  ·exact(hi.own b g2).2.2 h0
  ·exact absurd (Ev h0 hi.ok.size) (by omega)
 ·refine⟨hg.os.trans hi.ok.os,hg.tape.trans hi.ok.tape,hg.output.trans hi.ok.output,Jt hi.ok.size hg.size,fun b h0 hs=> ?_⟩
  have hnT:¬T b:=fun x=>hs ((hi.own b x).2.2 h0)
  have hlt:=Ev h0 hi.ok.size
  obtain⟨g3,g4⟩:=hi.ok.old b h0 hs
  refine⟨(hg.old b hlt (fun x=>hnT (hA1T b x))).trans g3,⟨fun x=> ?_,fun x=> ?_⟩⟩
  ·rcases x with x|x
   ·exact g4.1 (hzz b x)
   ·omega
  ·exact .inl (Classical.byContradiction fun hn=>hnT (hgone b (g4.2 x) hn))
theorem Inst.putOwn(hi:Inst C s a w η Z T){B1:FP}{regs1:List AV}
 (hr:Am Z1 η w regs1 a.tmps.toList B1) (hids:AN s.nx regs1)
 (hzz:∀b,Z1 b→Z b) (hgone:∀b,Z b→¬Z1 b→T b) (hA1T:∀b,A1 b→T b) (hB1T:∀b,B1 b→T b) (hdis:∀b,A1 b→B1 b→False)
 (hA1Z:∀b,A1 b→Z1 b) (hB1Z:∀b,B1 b→Z1 b)
 {w':World} (hg:Grew w w' A1)   {n':Nat} {A':FP} {η':Nat→Value} (hn:s.nx≤n') (hη:∀i,i<s.nx→η' i=η i)
 (hrr:Af (fun c=>Z1 c∨w.heap.size≤c) η' w' r v A') (hri:Az n' r) (hA':∀b,A' b→(A1 b∨w.heap.size≤b)∧b<w'.heap.size) (dst:Option Nat):
 Rel C ⟨setR regs1 dst r,n'⟩ (a.put dst v) w':=by
 have hr':Am (fun c=>Z1 c∨w.heap.size≤c) η' w' regs1 a.tmps.toList B1:=by
  refine Dj (n:=s.nx) (fun b hz hb=>⟨fun x=>x.elim hz (fun x=>by omega),hg.old b hb (fun x=>hz (hA1Z b x))⟩) hη _ _ _ hids (fun b hb=> ?_) hr
  exact hg.old b (hi.own b (hB1T b hb)).2.1 (fun x=>hdis b x hb)
 have hlt:∀b,B1 b→b<w.heap.size:=fun b hb=>(hi.own b (hB1T b hb)).2.1
 obtain⟨S',hS',hfin⟩:∃S',(∀b,S' b→B1 b∨A' b)∧Am (fun c=>Z1 c∨w.heap.size≤c) η' w' (setR regs1 dst r) (a.put dst v).tmps.toList S':=by
  cases dst with
  |none=>exact⟨_,fun b hb=> .inl hb,hr'⟩
  |some d=>
   rw[QJ]
   simp only[setR]
   rcases Ju d regs1.length with hd|hd
   ·exact Tn hr' hd hrr (fun b x y=>(hA' b x).1.elim (fun x=>hdis b x y) (fun x=>by have:=hlt b y;omega))
   ·rw[Nc hd,Nc (by rw[GF _ _ _ hr'];exact hd)]
    exact⟨_,fun b hb=> .inl hb,hr'⟩
 refine⟨η',_,S',hi.next hzz hgone hA1T hg (by rw[QK]) hfin ?_ (fun b hb=> ?_)⟩
 ·cases dst with
  |none=>exact GZ hn _ hids
  |some d=>exact Iy _ _ _ (GZ hn _ hids) hri
 ·rcases hS' b hb with hb|hb
  ·exact⟨.inl (hB1Z b hb),.inl (hB1T b hb),Ev (hlt b hb) hg.size⟩
  ·obtain⟨g1,g2⟩:=hA' b hb
   exact⟨g1.imp (hA1Z b) id,g1.imp (hA1T b) id,g2⟩
def Gq(w:World)(o:Obj):World:= {w with heap:=w.heap.push o}
theorem OK(w:World)(o:Obj)(A:FP):Grew w (Gq w o) A:=
 ⟨rfl,rfl,rfl,by simp [Gq],fun b hb _=>by simp only[Gq];rw[Qt,if_neg (by omega)]⟩
theorem Wf(w:World)(o:Obj):(Gq w o).heap[w.heap.size]? =some o:=by
 show(w.heap.push o)[w.heap.size]? =some o
 rw[Qt,if_pos rfl]
theorem Wg(w:World)(o:Obj):(Gq w o).heap.size=w.heap.size+1:=by simp [Gq]
theorem QY{e:TypeId}{cells:Array Value}:(newRow e cells).run P w= .ok (ad w.heap.size 0) (Gq w (.cells cells e (0,0))):=rfl
def Wh(s:St)(dst:Option Nat)(x:AV)(K:St→Prop):Prop:=
 match Mf x with
 |some ls=>K ⟨setR s.regs dst (.box s.nx ls),s.nx+1⟩
 |none=>False
theorem a7r(h:Wh s dst x K)
 (hi:Inst C s a w η Z T)  (hx:Af Z η w x v (fun _=>False)) (hxi:Az s.nx x) (e:TypeId):
 ∃u w' s',(do pure (Value.pointer (some (←newVar e v))):Sem Value).run P w= .ok u w'∧K s'∧Rel C s' (a.put dst u) w':=by
 unfold Wh at h
 split at h
 ·rename_i ls hl
  obtain⟨hr,hc⟩:=VR hx hl
  refine⟨.pointer (some (ad w.heap.size 0)),Gq w (.cells v.cells e (0,0)),_,by unfold newVar;rw[AC QY];rfl,h,?_⟩
  have hids:AN s.nx ls:=by
   cases x<;>simp only[Mf,AS,reduceCtorEq] at hl<;>try(subst hl;exact⟨hxi,trivial⟩)
   case agg fs=>
    split at hl
    ·simp only[AS] at hl;subst hl;simpa only[Az] using hxi
    ·cases hl
  refine hi.putOwn (A1:=fun _=>False) (η':=fun i=>if i=s.nx then .pointer (some (ad w.heap.size 0)) else η i) (A':=one w.heap.size) hi.rel hi.ids (fun _ h=>h) (fun _ h h'=>(h' h).elim) (fun _ h=>h.elim)
   (fun _ h=>h) (fun _ h=>h.elim) (fun _ h=>h.elim) (fun b hb=>(hi.own b hb).1) (OK _ _ _) (Nf _) (fun i hi=>if_neg (by omega)) ?_ ?_ ?_ dst
  ·simp only[Af]
   refine⟨by simp,w.heap.size,v.cells,e,fun _=>False,rfl,Wf _ _,?_,Me _⟩
   exact Dj (n:=s.nx) (fun b hz hb=>⟨fun x=>x.elim hz (fun x=>by omega),(OK w _ (fun _=>False)).old b hb id⟩) (fun i hi=>if_neg (by omega)) _ _ _ hids (fun b hb=>hb.elim) hr
  ·simp only[Az];exact⟨Ng _,GZ (Nf _) _ hids⟩
  ·intro b hb;rw[Wg];simp only[one] at hb;omega
 ·exact h.elim
def a0V(P:Program)(s:St)(dst:Option Nat)(t:TypeId)(id:Nat)(lo hi:Option AV)(K:St→Prop):Prop:=
 match EY id s.regs with
 |some (.sl true j sz α f xs,r1)=>match Nn P t with
  |some (_,es)=>match Nat.beq sz es with
   |true=>match JA 0 lo,JA xs.length hi with
    |some p,some q=>(0≤p∧p≤q∧q≤(xs.length:Int))∧K ⟨setR r1 dst (.sl true s.nx sz α f (Tw lo.isSome hi.isSome p q xs)),s.nx+1⟩
    |_,_=>False
   |false=>False
  |none=>False
 |_=>False
theorem b6P{t:TypeId}{id:Nat}{lo hi:Option AV}(h:a0V P s dst t id lo hi K)
  {a:Act}    (hin:Inst C s a w η Z T)  {lov hiv:Option Value} (hx:Af Z η w (.al id) xv (fun _=>False))
 (hlo:∀a,lo=some a→∃v,lov=some v∧Af Z η w a v (fun _=>False)) (hlon:lo=none→lov=none)
 (hhi:∀a,hi=some a→∃v,hiv=some v∧Af Z η w a v (fun _=>False)) (hhin:hi=none→hiv=none):
 ∃u w' s',(Instr.sliceAt t xv lov hiv none).run P w= .ok u w'∧K s'∧Rel C s' (a.put dst u) w':=by
 unfold a0V at h
 split at h
 rotate_left
 ·exact h.elim
 rename_i j sz α f xs r1 htake
 split at h
 rotate_left
 ·exact h.elim
 rename_i e es he
 obtain⟨hu,inf,hinf,hsz⟩:=QQ he
 split at h
 rotate_left
 ·exact h.elim
 rename_i hb
 have hb:=Cj hb
 subst hb
 split at h
 rotate_left
 ·exact h.elim
 rename_i p q hp hq
 obtain⟨⟨h0,h1,h2⟩,h⟩:=h
 rw[a0y hp hq] at h
 obtain⟨A,B,hj,hown,ho,hr1⟩:=Gn _ _ T _ _ hin.rel htake
 obtain⟨hid,hoi,hri⟩:=Hb _ _ _ hin.ids htake
 simp only[Af] at hx
 rw[hx.1]
 simp only[Af,Aj] at ho
 obtain⟨_,a0,n',c,ev,hn,hc,hr⟩:=ho
 rcases hr with⟨_,hr⟩|⟨hh,_⟩
 rotate_left
 ·cases hh
 rw[ev]
 subst hn
 have hrun:(Instr.sliceAt t (.slice a0 xs.length c) lov hiv none).run P w= .ok (.slice (if c=p.toNat then a0 else a0.map (·.add (p.toNat*sz))) (q.toNat-p.toNat) (c-p.toNat)) w:=by
  unfold Instr.sliceAt Instr.slice
  rw[AC (DV hu w)]
  simp only[]
  rw[AC (DV hu w)]
  simp only[]
  rw[AC (a0A hc h0 h1 h2 (QR hp hlo hlon) (QR hq hhi hhin))]
  simp only[]
  rw[AC (Hy hinf w),hsz];rfl
 have hAT:∀b,A b→T b:=fun b hb=>(hj.1 b).2 (.inl hb)
 have hBT:∀b,B b→T b:=fun b hb=>(hj.1 b).2 (.inr hb)
 let v:Value:= .slice (if c=p.toNat then a0 else a0.map (·.add (p.toNat*sz))) (q.toNat-p.toNat) (c-p.toNat)
 obtain⟨A',hA',hnew⟩:∃A',(∀b,A' b→A b)∧Aj Z w (.sl true s.nx sz α f ((xs.take q.toNat).drop p.toNat)) v A':=by
  rcases hr with⟨ha,hcz,hAe⟩|⟨b,off,arr,ty,S1,ha,hbk,hfit,hrows,hjb⟩
  ·refine⟨fun _=>False,fun _ h=>h.elim,?_⟩
   subst ha
   simp only[Aj]
   have:p.toNat=0:=by omega
   refine⟨none,q.toNat-p.toNat,c-p.toNat,by simp [v],by simp;omega,by omega,.inl ⟨trivial,.inl ⟨rfl,by omega,AI⟩⟩⟩
  ·subst ha
   obtain⟨S2,hs2,hr2⟩:=a0C q.toNat xs _ _ hrows
   obtain⟨S3,hs3,hr3⟩:=a0B p.toNat _ _ _ hr2
   rw[Dv] at hr3
   have hS31:∀x,S3 x→S1 x:=fun x hx=>hs2 x (hs3 x hx)
   have hj3:Bm (fun x=>one b x∨S3 x) (one b) S3:=⟨fun _=>Cg,fun x y z=>hjb.2 x y (hS31 x z)⟩
   refine⟨fun x=>one b x∨S3 x,fun x hx=>(hjb.1 x).2 (hx.imp (fun h=>h) (hS31 x)),?_⟩
   have hqp:q.toNat-p.toNat=((xs.take q.toNat).drop p.toNat).length:=by simp;omega
   by_cases hcp:c=p.toNat
   ·have hnil:(xs.take q.toNat).drop p.toNat=[]:=by
     apply OA;simp;omega
    have hS3:emp S3:=by rw[hnil] at hr3;exact hr3
    rw[hnil]
    simp only[Aj]
    refine⟨some ⟨b,off,none⟩,q.toNat-p.toNat,c-p.toNat,by simp [v,hcp],by rw[hqp,hnil],by omega,.inl ⟨trivial,.inr ⟨b,off,arr,ty,S3,rfl,hbk,?_,?_,hj3⟩⟩⟩
    ·have:c-p.toNat=0:=by omega
     rw[this];have:0≤c*sz:=Nat.zero_le _;omega
    ·exact hS3
   ·simp only[Aj]
    refine⟨some (ad b (off+p.toNat*sz)),q.toNat-p.toNat,c-p.toNat,?_,hqp,by omega,.inl ⟨trivial,.inr ⟨b,off+p.toNat*sz,arr,ty,S3,rfl,hbk,?_,hr3,hj3⟩⟩⟩
    ·simp only[v,if_neg hcp]
     exact congrArg (fun x=>Value.slice (some x) _ _) (Jx b off _)
    ·have:(c-p.toNat)*sz+p.toNat*sz=c*sz:=by rw[←OB];congr 1;omega
     omega
 refine⟨v,w,_,hrun,h,?_⟩
 have hcell:Dm v:=OE hnew
 refine hin.putOwn (A1:=A) (B1:=B) (A':=A') (η':=fun i=>if i=s.nx then v else η i) hr1 hri (fun _ h=>h) (fun _ h h'=>(h' h).elim) hAT hBT (fun b x y=>hj.2 b x y)
  (fun b hb=>(hin.own b (hAT b hb)).1) (fun b hb=>(hin.own b (hBT b hb)).1) (w':=w) ⟨rfl,rfl,rfl,Bu _,fun _ _ _=>rfl⟩ (Nf _) (fun i hi=>if_neg (by omega)) ?_ ?_ ?_ dst
 ·simp only[Af]
  refine⟨fun _=>by simp,?_⟩
  exact Hw (fun b hz hb=>⟨fun x=>x.elim hz (fun x=>by omega),rfl⟩) _ _ _ (fun _ _=>rfl) hnew
 ·simp only[Az];exact fun _=>Ng _
 ·intro b hb;exact⟨.inl (hA' b hb),(hin.own b (hAT b (hA' b hb))).2.1⟩
structure ES:Type 1 where
 α:Type
 f:α→List AV
theorem a0W(l:List Value):∀(cs:List Value) (j:Nat) (arr:Array Value) (off:Nat),off+j+cs.length≤arr.size→
 ((cs.zipIdx j).foldl (fun(a:Array Value) (p:Value×Nat)=>a.setIfInBounds (off+p.2) p.1) arr).toList=over arr.toList (off+j) cs
 |[],j,arr,off,h=>by simp [over]
 |c::cs,j,arr,off,h=>by
  simp only[List.zipIdx_cons,List.foldl_cons]
  rw[a0W l cs (j+1) _ off (by simp at h ⊢;omega)]
  simp only[over,Array.toList_setIfInBounds]
  have hlt:off+j<arr.toList.length:=by simp at h ⊢;omega
  have e1:(arr.toList.set (off+j) c).take (off+(j+1))=arr.toList.take (off+j)++[c]:=by
   rw[show off+(j+1)=off+j+1 by omega]
   rw[List.take_succ_eq_append_getElem (by simpa using hlt)]
   simp [List.take_set_of_le]
  have e2:(arr.toList.set (off+j) c).drop (off+(j+1)+cs.length)=arr.toList.drop (off+j+(c::cs).length):=by
   rw[List.drop_set_of_lt (by omega)];congr 1;simp;omega
  rw[e1,e2];simp
theorem a7s(sz:Nat):∀(vs:List Value) (j:Nat) (cells:Array Value),(∀v∈vs,v.cells.size=sz)→(j+vs.length)*sz≤cells.size→
 ∃out:Array Value,Instr.fill (fun i=>some (i*sz,sz)) cells ((vs.zipIdx j).map fun p=>(p.2,p.1))=some out∧
  out.toList=over cells.toList (j*sz) (vs.map (·.cells.toList)).flatten
 |[],j,cells,hv,hl=>⟨cells,by simp [Instr.fill],by simp [over]⟩
 |v::vs,j,cells,hv,hl=>by
  have hsz:v.cells.size=sz:=hv v (by simp)
  have hl':j*sz+sz+vs.length*sz≤cells.size:=by
   have:(j+(v::vs).length)*sz=j*sz+sz+vs.length*sz:=by simp [OB];omega
   omega
  simp only[List.zipIdx_cons,En,Instr.fill]
  rw[if_neg (by simp [hsz];omega)]
  have hf:=a0W [] v.cells.toList 0 cells (j*sz) (by simp [hsz];omega)
  have hfold:(v.cells.zipIdx.foldl (fun cs (x:Value×Nat)=>cs.setIfInBounds (j*sz+x.2) x.1) cells)=
   ((v.cells.toList.zipIdx 0).foldl (fun(a:Array Value) (p:Value×Nat)=>a.setIfInBounds (j*sz+p.2) p.1) cells):=by
   rw[←Array.foldl_toList];simp
  rw[←hfold] at hf
  have hlen:(over cells.toList (j*sz+0) v.cells.toList).length=cells.toList.length:=VQ (by simp [hsz];omega)
  obtain⟨out,ho,hout⟩:=a7s sz vs (j+1) (v.cells.zipIdx.foldl (fun cs (x:Value×Nat)=>cs.setIfInBounds (j*sz+x.2) x.1) cells) (fun u hu=>hv u (by simp [hu])) (by
   have:(v.cells.zipIdx.foldl (fun cs (x:Value×Nat)=>cs.setIfInBounds (j*sz+x.2) x.1) cells).size=cells.size:=by
    rw[←Array.length_toList,hf,hlen];simp
   rw[this];simp [OB];omega)
  refine⟨out,ho,?_⟩
  rw[hout,hf]
  have hvl:v.cells.toList.length=sz:=by simp [hsz]
  simp only[over,Nat.add_zero,En,Tf]
  have e:(j+1)*sz=j*sz+sz:=by simp [OB]
  rw[e]
  have hjl:(cells.toList.take (j*sz)).length=j*sz:=by simp;omega
  have t1:(cells.toList.take (j*sz)++v.cells.toList++cells.toList.drop (j*sz+v.cells.toList.length)).take (j*sz+sz)=cells.toList.take (j*sz)++v.cells.toList:=by
   rw[Ix (by rw[Ba,hjl,hvl];omega)]
   rw[EH (by rw[Ba,hjl,hvl];omega)]
  have t2:∀m,(cells.toList.take (j*sz)++v.cells.toList++cells.toList.drop (j*sz+v.cells.toList.length)).drop (j*sz+sz+m)=cells.toList.drop (j*sz+sz+m):=by
   intro m
   rw[List.drop_append]
   have:(cells.toList.take (j*sz)++v.cells.toList).length=j*sz+sz:=by rw[Ba,hjl,hvl]
   rw[this,EG (by rw[this];omega),Dv,hvl]
   simp only[Hr];congr 1;omega
  rw[t1,t2]
  simp only[Bz,Ba,hvl,QA]
def a0X{α:Type}(f:α→List AV):List (List AV)→List AV→(List α→List AV→Prop)→Prop
 |[],regs,K=>K [] regs
 |l::ls,regs,K=>∃x:α,Ff false (f x) regs l fun regs'=>a0X f ls regs' fun xs=>K (x::xs)
theorem a7t{η:Nat→Value}{w:World}{n:Nat}{α:Type}{f:α→List AV}(sz:Nat):∀(ls:List (List AV)) (regs:List AV) (K:List α→List AV→Prop),a0X f ls regs K→
 ∀(Z:FP) (vs:List Value) (css:List (List Value)) (B:FP),Am Z η w regs vs B→AN n regs→css.length=ls.length→
 (∀(i:Nat) (l:List AV) (cs:List Value),ls[i]? =some l→css[i]? =some cs→Am Z η w l cs (fun _=>False)∧AN n l∧cs.length=sz)→(∀b,B b→Z b)→
 ∃Z' A' B' regs' xs,Am Z' η w regs' vs B'∧AN n regs'∧Rows sz (fun x cs A=>AU Z' w (f x) cs A) xs css.flatten A'∧xs.length=ls.length∧
  (∀b,Z' b→Z b)∧(∀b,Z b→¬Z' b→B b)∧(∀b,A' b∨B' b→B b)∧(∀b,A' b→B' b→False)∧(∀b,A' b→Z' b)∧(∀b,B' b→Z' b)∧K xs regs'
 |[],regs,K,h,Z,vs,css,B,hR,hI,hl,hp,hB=>by
  have:css=[]:=Hq.1 hl
  subst this
  exact⟨Z,fun _=>False,B,regs,[],hR,hI,AI,rfl,fun _ h=>h,fun _ h h'=>(h' h).elim,fun b h=>h.resolve_left id,fun _ h=>h.elim,fun _ h=>h.elim,hB,h⟩
 |l::ls,regs,K,h,Z,vs,css,B,hR,hI,hl,hp,hB=>by
  obtain⟨x,h⟩:=h
  cases css with
  |nil=>simp at hl
  |cons cs css=>
   obtain⟨g1,g2,g3⟩:=hp 0 l cs rfl rfl
   obtain⟨Z1,A1,B1,r1,ho⟩:=HT (f x) regs l _ h Z vs cs B (fun _=>False) B hR hI g1 g2 (Cu B)
   have hB1:∀b,B1 b→Z1 b:=fun b hb=>ho.ownB rfl b hb (hB b (ho.part b (.inr hb)))
   have hA1:∀b,A1 b→Z1 b:=fun b hb=>ho.ownA b hb (hB b (ho.part b (.inl hb)))
   obtain⟨Z2,A2,B2,r2,xs,k1,k2,k3,k4,k5,k6,k7,k8,k9,k10,k11⟩:=a7t sz ls r1 _ ho.k Z1 vs css B1 ho.rel ho.ids (by simpa using hl)
    (fun i l' cs' h1 h2=>by
      obtain⟨p1,p2,p3⟩:=hp (i+1) l' cs' (by simpa using h1) (by simpa using h2)
      exact⟨Dj (JG (w:=w) ho.zz) (fun _ _=>rfl) _ _ _ p2 (fun _ _=>rfl) p1,p2,p3⟩) hB1
   have hA1Z2:∀b,A1 b→Z2 b:=fun b hb=>Classical.byContradiction fun hn=>ho.dis b hb (k6 b (hA1 b hb) hn)
   refine⟨Z2,fun b=>A1 b∨A2 b,B2,r2,x::xs,k1,k2,?_,by simp [k4],fun b hb=>ho.zz b (k5 b hb),?_,?_,?_,?_,k10,k11⟩
   ·refine⟨A1,A2,⟨fun _=>Cg,fun b p q=>ho.dis b p (k7 b (.inl q))⟩,?_,?_,?_⟩
    ·simp [g3]
    ·simp only[Tf]
     rw[Ix (by omega),EH (by omega)]
     exact Ea (JG k5) _ _ _ (fun _ _=>rfl) ho.got
    ·simp only[Tf]
     rw[Lc (by omega),EG (by omega)]
     exact k3
   ·intro b hz hz2
    by_cases hz1:Z1 b
    ·exact ho.part b (.inr (k6 b hz1 hz2))
    ·exact ho.gone b hz hz1
   ·intro b hb
    rcases hb with(hb|hb)|hb
    ·exact ho.part b (.inl hb)
    ·exact ho.part b (.inr (k7 b (.inl hb)))
    ·exact ho.part b (.inr (k7 b (.inr hb)))
   ·intro b hb hc
    rcases hb with hb|hb
    ·exact ho.dis b hb (k7 b (.inr hc))
    ·exact k8 b hb hc
   ·intro b hb
    exact hb.elim (hA1Z2 b) (k9 b)
def TE(regs:List AV)(sz:Nat):List (Nat×Operand)→Nat→Option (List (List AV))
 |[],_=>some []
 |(i,x)::ps,j=>match Nat.beq i j with
  |true=>match Mf (Bj regs x) with
   |some l=>match Nat.beq l.length sz with
    |true=>match TE regs sz ps (j+1) with
     |some ls=>some (l::ls)
     |none=>none
    |false=>none
   |none=>none
  |false=>none
theorem a0Y{ls:List AV}(hxi:Az n x)(hl:Mf x=some ls):AN n ls:=by
 cases x<;>simp only[Mf,AS,reduceCtorEq] at hl<;>try(subst hl;exact⟨hxi,trivial⟩)
 case agg fs=>
  split at hl
  ·simp only[AS] at hl;subst hl;simpa only[Az] using hxi
  ·cases hl
theorem a7u{Z:FP}{η:Nat→Value}{w:World}{n:Nat}{regs:List AV}{a:Act}{S:FP}(hR:Am Z η w regs a.tmps.toList S)(hI:AN n regs){sz:Nat}:
 ∀(ps:List (Nat×Operand)) (j:Nat) (ls:List (List AV)),TE regs sz ps j=some ls→
 ps.map (fun p=>(p.1,a.eval p.2))=((ps.map fun p=>a.eval p.2).zipIdx j).map (fun p=>(p.2,p.1))∧ls.length=ps.length∧
 (∀v∈ps.map (fun p=>a.eval p.2),v.cells.size=sz)∧
 (∀(i:Nat) (l:List AV) (cs:List Value),ls[i]? =some l→(ps.map fun p=>(a.eval p.2).cells.toList)[i]? =some cs→Am Z η w l cs (fun _=>False)∧AN n l∧cs.length=sz)
 |[],j,ls,h=>by
  simp only[TE,AS] at h;subst h
  exact⟨rfl,rfl,by simp,by simp⟩
 |(i,x)::ps,j,ls,h=>by
  unfold TE at h
  split at h
  ·rename_i hij
   have hij:=Cj hij
   subst hij
   split at h
   ·rename_i l hl
    split at h
    ·rename_i hlen
     have hlen:=Cj hlen
     split at h
     ·rename_i ls' hls
      simp only[AS] at h;subst h
      obtain⟨p1,p2,p3,p4⟩:=a7u hR hI ps (i+1) ls' hls
      obtain⟨q1,q2⟩:=VR (FQ hR x) hl
      have hsz:(a.eval x).cells.toList.length=sz:=by rw[GF _ _ _ q1];exact hlen
      refine⟨by simp [p1],by simp [p2],?_,?_⟩
      ·intro v hv
       simp only[En,EX] at hv
       rcases hv with rfl|hv
       ·simpa using hsz
       ·exact p3 v hv
      ·intro k l' cs h1 h2
       cases k with
       |zero=>
        simp at h1 h2;subst h1;subst h2
        exact⟨q1,a0Y (Iz hI x) hl,hsz⟩
       |succ k=>exact p4 k l' cs (by simpa using h1) (by simpa using h2)
     ·cases h
    ·cases h
   ·cases h
  ·cases h
def a0Z(P:Program)(E:TypeId→Option ES)(s:St)(dst:Option Nat)(t:TypeId)(len:Nat)(parts:List (Nat×Operand))(K:St→Prop):Prop:=
 match Nn P t,E t with
 |some (e,sz),some es=>match P.info? e with
  |some i=>match i.zero with
   |some z=>match TE s.regs sz parts 0,Nat.beq parts.length len,Nat.ble (len*sz) 16777216,Nat.blt 0 sz,Nat.beq z.cells.size sz with
    |some ls,true,true,true,true=>a0X es.f ls s.regs fun xs regs'=>K ⟨setR regs' dst (.sl true s.nx sz es.α es.f xs),s.nx+1⟩
    |_,_,_,_,_=>False
   |none=>False
  |none=>False
 |_,_=>False
theorem b6Q{E:TypeId→Option ES}{t:TypeId}{len:Nat}{parts:Array (Nat×Operand)}
 (h:a0Z P E s dst t len parts.toList K)      (hi:Inst C s a w η Z T):
 ∃u w' s',(Instr.buildSlice t len (parts.map fun p=>(p.1,a.eval p.2))).run P w= .ok u w'∧K s'∧Rel C s' (a.put dst u) w':=by
 unfold a0Z at h
 split at h
 ·rename_i e sz es he hE
  obtain⟨hu,inf,hinf,hsz⟩:=QQ he
  split at h
  ·rename_i i hi2
   rw[hinf] at hi2;simp only[AS] at hi2;subst hi2
   split at h
   ·rename_i z hz
    split at h
    ·rename_i ls hls hlen hle hpos hzs
     have hlen:=Cj hlen
     have hle:=HR hle
     have hpos:0<sz:=HR hpos
     have hzs:=Cj hzs
     obtain⟨p1,p2,p3,p4⟩:=a7u (a:=a) hi.rel hi.ids parts.toList 0 ls hls
     obtain⟨Z1,A1,B1,r1,xs,k1,k2,k3,k4,k5,k6,k7,k8,k9,k10,k11⟩:=a7t sz ls s.regs _ h Z a.tmps.toList
      (parts.toList.map fun p=>(a.eval p.2).cells.toList) T hi.rel hi.ids (by simp [p2]) (fun i l cs h1 h2=>p4 i l cs h1 h2) (fun b hb=>(hi.own b hb).1)
     obtain⟨out,ho,hout⟩:=a7s sz (parts.toList.map fun p=>a.eval p.2) 0 ((Array.range (len*sz)).map (fun k=>(if len*sz=0 then #[] else z.cells)[k % (if len*sz=0 then #[] else z.cells).size]!)) p3 (by simp [hlen])
     have hflat:out.toList=(parts.toList.map fun p=>(a.eval p.2).cells.toList).flatten:=by
      rw[hout]
      simp only[over,OC,Qz,Hr,Nat.zero_add,List.map_map]
      rw[EG]
      ·simp;rfl
      ·have hall:∀(l:List (Nat×Operand)),(∀v∈l.map (fun p=>a.eval p.2),v.cells.size=sz)→((l.map ((fun x=>x.cells.toList)∘fun p=>a.eval p.2)).flatten).length=l.length*sz:=by
        intro l
        induction l with
        |nil=>intro _;simp
        |cons q l ih=>
         intro hq
         simp only[En,Tf,Ba,Function.comp]
         have h1:=hq (a.eval q.2) (by simp)
         have h2:=ih (fun v hv=>hq v (by simp at hv ⊢;exact .inr hv))
         rw[h2];simp [h1,Hs];omega
       rw[hall _ p3,hlen];simp
     refine⟨.slice (some (ad w.heap.size 0)) len len,Gq w (.cells out e (0,0)),_,?_,k11,?_⟩
     ·unfold Instr.buildSlice
      rw[AC (DV hu w)]
      simp only[]
      rw[AC (Hy hinf w),hsz]
      rw[if_neg (by omega)]
      have hparts:(parts.map fun p=>(p.1,a.eval p.2)).toList=((parts.toList.map fun p=>a.eval p.2).zipIdx 0).map (fun p=>(p.2,p.1)):=by
       rw[←p1];simp
      rw[hparts]
      by_cases h0:len*sz=0
      ·simp only[h0,BN] at ho ⊢
       rw[AC (Cy P _ w)]
       simp only[ho]
       rw[AC QY];rfl
      ·simp only[h0,Br] at ho ⊢
       rw[AC (QH hinf hz w)]
       rw[AC (Cy P _ w)]
       simp only[ho]
       rw[AC QY];rfl
     ·refine hi.putOwn (A1:=A1) (η':=fun i=>if i=s.nx then .slice (some (ad w.heap.size 0)) len len else η i) (A':=fun b=>b=w.heap.size∨A1 b) k1 k2 k5 k6 (fun b hb=>k7 b (.inl hb)) (fun b hb=>k7 b (.inr hb)) k8 k9 k10
       (OK _ _ _) (Nf _) (fun i hi=>if_neg (by omega)) ?_ ?_ ?_ dst
      ·simp only[Af,Aj]
       refine⟨fun _=>by simp,some (ad w.heap.size 0),len,len,rfl,?_,Bu _,.inl ⟨trivial,.inr ⟨w.heap.size,0,out,e,A1,rfl,Wf _ _,?_,?_,?_⟩⟩⟩
       ·rw[k4,p2];simpa using hlen.symm
       ·have:out.toList.length=len*sz:=by
         rw[hout,VQ]
         ·simp
         ·have hall:∀(l:List Value),(∀v∈l,v.cells.size=sz)→((l.map (·.cells.toList)).flatten).length=l.length*sz:=by
           intro l
           induction l with
           |nil=>intro _;simp
           |cons q l ih=>
            intro hq
            simp only[En,Tf,Ba]
            rw[ih (fun v hv=>hq v (by simp [hv]))]
            simp [hq q (by simp),Hs];omega
          rw[hall _ p3];simp [hlen]
        simp at this;omega
       ·rw[GU,hflat]
        exact Lh xs _ A1 (fun x cs A hA hx=>Ea (fun b hz hb=>⟨fun x=>x.elim hz (fun x=>by omega),(OK w _ (fun _=>False)).old b hb id⟩) _ _ _
         (fun b hb=>(OK w _ (fun _=>False)).old b (hi.own b (k7 b (.inl (hA b hb)))).2.1 id) hx) k3
       ·exact⟨fun b=>Cg,fun b h1 h2=>by
         simp only[one] at h1
         have:=(hi.own b (k7 b (.inl h2))).2.1;omega⟩
      ·simp only[Az];intro _;exact Ng _
      ·intro b hb
       rw[Wg]
       rcases hb with hb|hb
       ·omega
       ·have:=(hi.own b (k7 b (.inl hb))).2.1
        exact⟨.inl hb,by omega⟩
    ·exact h.elim
   ·exact h.elim
  ·exact h.elim
 ·exact h.elim
theorem a7v{α:Type}{sz:Nat}{R:α→List Value→FP→Prop}{x:α}{zl:List Value}(hz:zl.length=sz)(hx:R x zl (fun _=>False)):∀(n:Nat) (cs:List Value),
 (∀k,k<n→(cs.drop (k*sz)).take sz=zl)→Rows sz R (List.replicate n x) cs (fun _=>False)
 |0,cs,h=>by simp [Rows,emp]
 |n+1,cs,h=>by
  have h0:=h 0 (by omega)
  simp at h0
  simp only[List.replicate_succ,Rows]
  refine⟨_,_,Cu _,by rw[h0];exact hz,by rw[h0];exact hx,a7v hz hx n _ fun k hk=> ?_⟩
  have:=h (k+1) (by omega)
  rw[Dv]
  rw[show sz+k*sz=(k+1)*sz by rw[Hs];omega]
  exact this
theorem b6R(zl:List Value)(sz c:Nat)(hz:zl.length=sz)(k:Nat)(hk:k<c):
 ((((Array.range (c*sz)).map fun i=>zl.toArray[i % zl.toArray.size]!).toList.drop (k*sz)).take sz)=zl:=by
 have hle:(k+1)*sz≤c*sz:=Ki _ hk
 rw[Hs] at hle
 apply List.ext_getElem
 ·simp;omega
 ·intro i h1 h2
  have hi:i<sz:=by omega
  simp only[List.getElem_take,List.getElem_drop,Array.getElem_toList,Array.getElem_map,Array.getElem_range,List.size_toArray]
  rw[hz]
  have:(k*sz+i) % sz=i:=by rw[Nat.add_comm,Nat.add_mul_mod_self_right];exact Nat.mod_eq_of_lt hi
  rw[this]
  simp [h2]
def a1a(P:Program)(E:TypeId→Option ES)(s:St)(dst:Option Nat)(t:TypeId)(l c:AV)(K:St→Prop):Prop:=
 match l,c with
 | .int _ n,.int _ m=>match Nn P t,E t with
   |some (e,sz),some es=>match P.info? e with
    |some i=>match i.zero with
     |some z=>match Nat.beq z.cells.size sz with
      |true=>(0≤n∧n≤m∧(i.bytes:Int)*m≤2^46∧m≤2^46)∧∃x:es.α,Ff false (es.f x) [] (z.cells.toList.map Jy) fun _=>
        K ⟨setR s.regs dst (.sl true s.nx sz es.α es.f (List.replicate n.toNat x)),s.nx+1⟩
      |false=>False
     |none=>False
    |none=>False
   |_,_=>False
 |_,_=>False
theorem Wi:(askRoom n).run P w= .ok () w:=by
 unfold askRoom;split<;>rfl
theorem b6S{E:TypeId→Option ES}{t:TypeId}{l c:AV}(h:a1a P E s dst t l c K)
   (hi:Inst C s a w η Z T) {lv cv:Value} (hl:Af Z η w l lv (fun _=>False)) (hc:Af Z η w c cv (fun _=>False)):
 ∃u w' s',(Instr.makeSlice t lv cv).run P w= .ok u w'∧K s'∧Rel C s' (a.put dst u) w':=by
 unfold a1a at h
 split at h
 ·rename_i k1 n k2 m
  simp only[Af,Aj] at hl hc
  rw[hl.1,hc.1]
  split at h
  ·rename_i e sz es he hE
   obtain⟨hu,inf,hinf,hsz⟩:=QQ he
   split at h
   ·rename_i i hi2
    rw[hinf] at hi2;simp only[AS] at hi2;subst hi2
    split at h
    ·rename_i z hz
     split at h
     ·rename_i hzs
      have hzs:=Cj hzs
      obtain⟨⟨h0,h1,h2,h3⟩,x,h⟩:=h
      have hcr:=Tp Z η w z.cells.toList
      have hci:=Tq s.nx z.cells.toList
      obtain⟨Z',A',B',r',ho⟩:=HT (es.f x) [] _ _ h Z [] z.cells.toList (fun _=>False) (fun _=>False) (fun _=>False) (by simp [Am,emp]) (by trivial) hcr hci (Cu _)
      have hA':A'=fun _=>False:=Fx fun b hb=>ho.part b (.inl hb)
      have hgot:=ho.got
      rw[hA'] at hgot
      have hZ:∀b,Z b→Z' b:=fun b hb=>Classical.byContradiction fun hn=>ho.gone b hb hn
      have hn64:IntKind.i64.wrap n=n:=VV ⟨by simp [IntKind.min,IntKind.bits,IntKind.signed];omega,by simp [IntKind.max,IntKind.bits,IntKind.signed];omega⟩
      have hm64:IntKind.i64.wrap m=m:=VV ⟨by simp [IntKind.min,IntKind.bits,IntKind.signed];omega,by simp [IntKind.max,IntKind.bits,IntKind.signed];omega⟩
      let cells:=(Array.range (m.toNat*sz)).map fun i=>z.cells.toList.toArray[i % z.cells.toList.toArray.size]!
      refine⟨.slice (some (ad w.heap.size 0)) n.toNat m.toNat,Gq w (.cells cells e (0,0)),_,?_,ho.k,?_⟩
      ·unfold Instr.makeSlice
       rw[AC (DV hu w)]
       simp only[asInt,asIntOf]
       rw[AC (x:=n) (w':=w) rfl]
       rw[AC (x:=m) (w':=w) rfl]
       rw[AC (QG hinf w)]
       simp only[hn64,hm64]
       have hcond:((decide (m<0)||decide (inf.bytes*m>2^48))||decide (n<0)||decide (n>m))=false:=by
        simp;omega
       simp only[CG,Bf,Bool.not_eq_eq_eq_not] at hcond ⊢
       rw[if_neg (by simp;omega)]
       rw[AC Wi]
       rw[AC (Hy hinf w),hsz]
       by_cases hq:m.toNat*sz=0
       ·simp only[hq,BN]
        rw[AC (Cy P _ w)]
        rw[AC QY]
        have:cells= #[]:=by simp [cells,hq]
        have hr0:Array.range 0= #[]:=rfl
        rw[this];simp [Cy,ad,hr0]
       ·simp only[hq,Br]
        rw[AC (QH hinf hz w)]
        rw[AC (Cy P _ w)]
        rw[AC QY]
        simp [cells,Cy,ad]
      ·refine hi.putOwn (A1:=fun _=>False) (η':=fun i=>if i=s.nx then .slice (some (ad w.heap.size 0)) n.toNat m.toNat else η i) (A':=one w.heap.size) hi.rel hi.ids (fun _ h=>h) (fun _ h h'=>(h' h).elim) (fun _ h=>h.elim)
        (fun _ h=>h) (fun _ h=>h.elim) (fun _ h=>h.elim) (fun b hb=>(hi.own b hb).1) (OK _ _ _) (Nf _) (fun i hi=>if_neg (by omega)) ?_ ?_ ?_ dst
       ·simp only[Af,Aj]
        refine⟨fun _=>by simp,_,_,_,rfl,by simp,by omega,.inl ⟨trivial,.inr ⟨w.heap.size,0,cells,e,fun _=>False,rfl,Wf _ _,?_,?_,Me _⟩⟩⟩
        ·simp [cells]
        ·rw[GU]
         refine a7v (zl:=z.cells.toList) (by simpa using hzs) ?_ _ _ (fun k hk=> ?_)
         ·refine Ea (fun b hz hb=>⟨fun x=>x.elim (fun x=>hz (hZ b x)) (fun x=>by omega),(OK w _ (fun _=>False)).old b hb id⟩) _ _ _ (fun b hb=>hb.elim) hgot
         ·exact b6R z.cells.toList sz m.toNat (by simpa using hzs) k (by omega)
       ·simp only[Az];intro _;exact Ng _
       ·intro b hb;rw[Wg];simp only[one] at hb;omega
     ·exact h.elim
    ·exact h.elim
   ·exact h.elim
  ·exact h.elim
 ·exact h.elim
theorem Nu{α:Type}{sz:Nat}{R:α→List Value→FP→Prop}:∀(xs:List α) (cs cs':List Value) (S:FP),Rows sz R xs cs S→
 cs.take (xs.length*sz)=cs'.take (xs.length*sz)→Rows sz R xs cs' S
 |[],_,_,_,h,_=>h
 |x::xs,cs,cs',S,h,he=>by
  obtain⟨A,B,hj,hl,h1,h2⟩:=h
  have e0:(x::xs).length*sz=sz+xs.length*sz:=by simp [Hs];omega
  rw[e0] at he
  have e1:cs'.take sz=cs.take sz:=by
   have:=congrArg (List.take sz) he
   simpa [Qy,Nat.min_eq_left (Nat.le_add_right sz (xs.length*sz))] using this.symm
  have e2:(cs.drop sz).take (xs.length*sz)=(cs'.drop sz).take (xs.length*sz):=by
   have:=congrArg (List.drop sz) he
   simpa [Ld] using this
  exact⟨A,B,hj,by rw[e1];exact hl,by rw[e1];exact h1,Nu xs _ _ B h2 e2⟩
theorem a1b{α:Type}{sz:Nat}{R:α→List Value→FP→Prop}:∀(xs ys:List α) (cs:List Value) (A B S:FP),Rows sz R xs cs A→Rows sz R ys (cs.drop (xs.length*sz)) B→Bm S A B→Rows sz R (xs++ys) cs S
 |[],ys,cs,A,B,S,h1,h2,hj=>by
  rw[show S=B from FO (Hv hj h1)];simpa using h2
 |x::xs,ys,cs,A,B,S,h1,h2,hj=>by
  obtain⟨A1,A2,hj1,hl,h3,h4⟩:=h1
  have e0:(x::xs).length*sz=sz+xs.length*sz:=by simp [Hs];omega
  rw[e0,←Dv] at h2
  obtain⟨E,h5,h6⟩:=Tl hj hj1
  exact⟨A1,E,h5,hl,h3,a1b xs ys _ A2 B E h4 h2 h6⟩
theorem b6T{a:AV}(h:Aj Z w a v S)(hl:Kl a=true):Dm v:=by
 cases a<;>simp only[Kl,Bl] at hl<;>simp only[Aj] at h
 case int=>rw[h.1];trivial
 case bool=>rw[h.1];trivial
 case str=>rw[h.1];trivial
 case val=>rw[h.1];exact h.2.1
 case any=>exact h.1
 case nil=>rw[h.1];trivial
 case box=>obtain⟨b,arr,ty,S1,e,_⟩:=h;rw[e];trivial
 case bv=>obtain⟨_,b,arr,ty,S1,e,_⟩:=h;rw[e];trivial
 case hv=>rw[h.1];exact h.2.1
 case pf=>obtain⟨_,b,off,arr,ty,fr,cs,rest,S1,e,_⟩:=h;rw[e];trivial
 case clo=>obtain⟨cs,e,_⟩:=h;rw[e];exact Tk
 case sl=>obtain⟨a,n,c,e,_⟩:=h;rw[e];trivial
theorem a7w{Z:FP}{w:World}:∀(azs:List AV) (cs:List Value) (S:FP),AU Z w azs cs S→azs.all Kl=true→∀c∈cs,Dm c
 |[],cs,S,h,_=>by simp only[AU] at h;simp [h.1]
 |a::azs,cs,S,h,hl=>by
  simp only[AU] at h
  obtain⟨v,cs',A,B,e,hj,h1,h2⟩:=h
  simp only[LO,AY] at hl
  subst e
  intro c hc
  rcases EX.1 hc with rfl|hc
  ·exact b6T h1 hl.1
  ·exact a7w azs cs' B h2 hl.2 c hc
theorem a7x{Z:FP}{w:World}{α:Type}{sz:Nat}{f:α→List AV}(hf:∀x,(f x).all Kl=true):∀(xs:List α) (cs:List Value) (S:FP),Rows sz (fun x cs A=>AU Z w (f x) cs A) xs cs S→
 (∀c∈cs.take (xs.length*sz),Dm c)∧xs.length*sz≤cs.length
 |[],cs,S,_=>by simp
 |x::xs,cs,S,h=>by
  obtain⟨A,B,hj,hl,h1,h2⟩:=h
  obtain⟨k1,k2⟩:=a7x hf xs _ B h2
  have e0:(x::xs).length*sz=sz+xs.length*sz:=by simp [Hs];omega
  have hs:sz≤cs.length:=by simp at hl;omega
  rw[e0]
  refine⟨fun c hc=> ?_,by simp at k2;omega⟩
  rw[List.take_add] at hc
  rcases FK.1 hc with hc|hc
  ·exact a7w _ _ _ h1 (hf x) c hc
  ·exact k1 c hc
theorem a1c{α:Type}{sz:Nat}{R:α→List Value→FP→Prop}:∀(xs:List α) (cs:List Value) (S:FP),Rows sz R xs cs S→xs.length*sz≤cs.length
 |[],cs,S,_=>by simp
 |x::xs,cs,S,h=>by
  obtain⟨A,B,hj,hl,h1,h2⟩:=h
  have k2:=a1c xs _ B h2
  have e0:(x::xs).length*sz=sz+xs.length*sz:=by simp [Hs];omega
  have hs:sz≤cs.length:=by simp at hl;omega
  rw[e0];simp at k2;omega
theorem a7y:∀(r n c:Nat),256≤c→c<n→Builtin.growBy n r c≤2*n
 |0,n,c,h1,h2=>by simp [Builtin.growBy];omega
 |r+1,n,c,h1,h2=>by
  simp only[Builtin.growBy]
  rw[if_neg (by omega)]
  by_cases h:c+(c+768)/4<n
  ·exact a7y r n _ (by omega) h
  ·cases r with
   |zero=>simp only[Builtin.growBy];omega
   |succ r=>simp only[Builtin.growBy];rw[if_pos (by omega)];omega
theorem b6U{c:Nat}(h:c<n):Builtin.nextslicecap n c≤2*n:=by
 unfold Builtin.nextslicecap
 split
 ·omega
 ·split
  ·omega
  ·exact a7y 4 n c (by omega) h
theorem a7z{c:Nat}{e:TypeId}:∃k,n≤k∧(choose (.appendCap n c e)).run P w= .ok k {w with drawn:=w.drawn+1}:=
 ⟨n+w.tape w.drawn (.appendCap n c e) % (2^63-n),by omega,rfl⟩
theorem a1d{b m cap:Nat}{arr:Array Value}{ty:TypeId}{fr:Nat×Nat}(hb:w.heap[b]? =some (.cells arr ty fr))(hl:off+m*sz≤arr.size):
 (Builtin.firstCells sz m (.slice (some (ad b off)) m cap)).run P w= .ok ((arr.toList.drop off).take (m*sz)).toArray w:=by
 unfold Builtin.firstCells
 have:=a0k (P:=P) (off:=off) hb (cs:=(arr.toList.drop off).take (m*sz)) (rest:=(arr.toList.drop off).drop (m*sz)) (Fw _ _).symm
 rw[show((arr.toList.drop off).take (m*sz)).length=m*sz by simp;omega] at this
 exact this
theorem b6V{t e:TypeId}{ty:TypeId}{tx:TypeId}{dx:TypeDesc}{inf:TypeInfo}{z:Value}{α:Type}{f:α→List AV}
 {xs ys:List α} {i j:Nat}  {A Ay:FP} {new:List Value}
 (ht0:ts[0]? =some t) (ht1:ts[1]? =some tx) (hu:P.underlying t=some (.slice e)) (hux:P.underlying tx=some dx) (hdx:∀k,dx≠ .int k) (hinf:P.info? e=some inf) (hsz:inf.size=sz) (hpos:0<sz)
 (hz:inf.zero=some z) (hzs:z.cells.size=sz) (hby:0<inf.bytes)
 (hs:Aj Z1 w (.sl true i sz α f xs) sv A) (hlen:∀W:World,W.heap=w.heap→(Builtin.lenOf xv).run P W= .ok ys.length W)
 (hfirst:∀W:World,W.heap=w.heap→(Builtin.firstCells sz ys.length xv).run P W= .ok new.toArray W)
 (hnew:new.length=ys.length*sz) (hrows:Rows sz (fun x cs A=>AU Z1 w (f x) cs A) ys new Ay) (hcell:∀c∈new,Dm c) (hj:Bm S A Ay)
 (hroom:(xs.length+ys.length)*inf.bytes≤2^46) (hSlt:∀b,S b→Z1 b∧b<w.heap.size):
 ∃v w' A',(Builtin.append_ ts ty #[sv,xv]).run P w= .ok v w'∧Grew w w' A∧(∀b,A' b→(S b∨w.heap.size≤b)∧b<w'.heap.size)∧
  Aj (fun c=>Z1 c∨w.heap.size≤c) w' (.sl true j sz α f (xs++ys)) v A':=by
 have hzz:∀b,¬Z1 b→b<w.heap.size→¬(Z1 b∨w.heap.size≤b):=fun b h1 h2 h=>h.elim h1 (fun h=>by omega)
 simp only[Aj] at hs
 obtain⟨a,n,c,e1,hn,hc,hs⟩:=hs
 subst e1;subst hn
 have hbound:xs.length+ys.length≤2^46:=by
  have:(xs.length+ys.length)*1≤(xs.length+ys.length)*inf.bytes:=Nat.mul_le_mul_left _ hby
  omega
 have hpre:(Builtin.append_ ts ty #[.slice a xs.length c,xv]).run P w=(do
  let need:=xs.length+ys.length
  if need≤c then
   let new←Builtin.firstCells sz ys.length xv
   if let some a:=a then storeCells (a.add (xs.length*sz)) new.toList
   pure (.slice a need c)
  else
   let newCap←choose (.appendCap need c e)
   askRoom (newCap*inf.bytes)
   let old←Builtin.firstCells sz xs.length (.slice a xs.length c)
   let new←Builtin.firstCells sz ys.length xv
   let rest:=Builtin.zeroCells z.cells (newCap-need)
   pure (.slice (some (←newRow e (old++new++rest))) need newCap):Sem Value).run P w:=by
  unfold Builtin.append_
  have g0:(#[.slice a xs.length c,xv]:Array Value)[0]? =some (.slice a xs.length c):=rfl
  have g1:(#[.slice a xs.length c,xv]:Array Value)[1]? =some xv:=rfl
  simp only[ht0,g0,g1,ht1]
  rw[AC (DV hu w)]
  simp only[]
  rw[AC (Hy hinf w),hsz]
  rw[AC (DV hux w)]
  have hz0:(match dx with| .int k=>true|_=>false)=false:=by
   cases dx<;>first|rfl|exact((hdx _) rfl).elim
  simp only[]
  rw[AC (Cy P _ w)]
  simp only[hz0,Bl,Br,Bool.not_false,BN]
  rw[AC (hlen w rfl)]
  by_cases hle:xs.length+ys.length≤c
  ·simp only[hle,BN]
   cases a<;>rfl
  ·simp only[hle,Br]
   rw[AC (QG hinf w)]
   rw[if_neg (by simp [IntKind.max,IntKind.bits,IntKind.signed];omega)]
   rw[AC (QG hinf w)]
   have hnc:=b6U (show c<xs.length+ys.length by omega)
   have hcap:Builtin.nextslicecap (xs.length+ys.length) c*inf.bytes≤2^48:=by
    calc Builtin.nextslicecap (xs.length+ys.length) c*inf.bytes≤(2*(xs.length+ys.length))*inf.bytes:=Ki _ hnc
     _=2*((xs.length+ys.length)*inf.bytes):=Nat.mul_assoc _ _ _
     _≤2^48:=by omega
   rw[if_neg (by omega)]
   obtain⟨k,hk,hch⟩:=a7z (P:=P) (n:=xs.length+ys.length) (c:=c) (e:=e) (w:=w)
   rw[AC hch,AC hch]
   rw[AC (QG hinf _)]
   rw[AC Wi,AC Wi]
   simp only[Ha]
   cases (Builtin.firstCells sz xs.length (.slice a xs.length c)).run P {w with drawn:=w.drawn+1} with
   |halt h w'=>rfl
   |ok o w'=>
    simp only[]
    cases (Builtin.firstCells sz ys.length xv).run P w' with
    |halt h w'=>rfl
    |ok o w'=>
     simp only[]
     rw[QH hinf hz]
 rw[hpre]
 have hmono:∀(w':World),(∀b,b<w.heap.size→¬A b→w'.heap[b]? =w.heap[b]?)→Rows sz (fun x cs A=>AU (fun c=>Z1 c∨w.heap.size≤c) w' (f x) cs A) ys new Ay:=by
  intro w' hw
  refine Lh ys new Ay (fun x cs A' hA' hx=>Ea (fun b h1 h2=>⟨hzz b h1 h2,hw b h2 (fun x=>h1 (hSlt b ((hj.1 b).2 (.inl x))).1)⟩) _ _ _ (fun b hb=> ?_) hx) hrows
  exact hw b (hSlt b ((hj.1 b).2 (.inr (hA' b hb)))).2 (fun x=>hj.2 b x (hA' b hb))
 by_cases hle:xs.length+ys.length≤c
 ·simp only[hle,BN]
  rw[AC (hfirst w rfl)]
  rcases hs with⟨_,hs⟩|⟨ho,_⟩
  ·rcases hs with⟨ha,hc0,hA⟩|⟨b,off,arr,tyy,S1,ha,hb,hsize,hr,hj1⟩
   ·subst ha
    have hx0:xs=[]:=Hq.1 (by omega)
    have hy0:ys=[]:=Hq.1 (by omega)
    subst hx0;subst hy0;subst hc0
    refine⟨.slice none 0 0,w,fun _=>False,rfl,⟨rfl,rfl,rfl,Bu _,fun _ _ _=>rfl⟩,fun b hb=>hb.elim,?_⟩
    simp only[Aj]
    exact⟨none,0,0,rfl,rfl,Bu _,.inl ⟨trivial,.inl ⟨rfl,rfl,AI⟩⟩⟩
   ·subst ha
    have hmul:(xs.length+ys.length)*sz≤c*sz:=Ki _ hle
    rw[OB] at hmul
    obtain⟨w',hst,hw⟩:=a0l (P:=P) (off:=off+xs.length*sz) new 0 w arr hb (by rw[hnew];omega) hcell
    simp only[]
    have hadd:(Addr.add ⟨b,off,none⟩ (xs.length*sz))=ad b (off+xs.length*sz):=Jx b off _
    rw[hadd]
    have hst':(storeCells (ad b (off+xs.length*sz)) new.toArray.toList).run P w= .ok () w':=by simpa using hst
    rw[AC hst']
    have hbA:A b:=(hj1.1 b).2 (.inl rfl)
    have hgrew:Grew w w' A:=⟨hw.os,hw.tape,hw.output,by rw[hw.size];exact Bu _,fun x hx hxA=>hw.oth x (fun h=>hxA (h▸hbA))⟩
    refine⟨_,w',S,rfl,hgrew,fun x hx=>⟨.inl hx,by rw[hw.size];exact(hSlt x hx).2⟩,?_⟩
    simp only[Aj]
    have hwb:=hw.blk
    simp only[Nat.add_zero] at hwb
    obtain⟨E,h5,h6⟩:=Tl hj hj1
    refine⟨some ⟨b,off,none⟩,_,c,rfl,by simp,hle,.inl ⟨trivial,.inr ⟨b,off,_,tyy,E,rfl,hwb,?_,?_,h5⟩⟩⟩
    ·have:=VQ (l:=arr.toList) (off:=off+xs.length*sz) (cs:=new) (by simp [hnew];omega)
     simp [this];omega
    ·have hxrows:Rows sz (fun x cs A=>AU (fun c=>Z1 c∨w.heap.size≤c) w' (f x) cs A) xs (arr.toList.drop off) S1:=by
      refine Lh xs _ S1 (fun x cs A' hA' hx=>Ea (fun b' h1 h2=>⟨hzz b' h1 h2,hw.oth b' (fun h=>h1 (h▸(hSlt b ((hj.1 b).2 (.inl hbA))).1))⟩) _ _ _ (fun b' hb'=> ?_) hx) hr
      exact hw.oth b' (fun h=>hj1.2 b rfl (h▸hA' b' hb'))
     have hlx:=a1c xs _ _ hr
     simp at hlx
     refine a1b xs ys _ S1 Ay E ?_ ?_ h6
     ·refine Nu xs _ _ S1 hxrows ?_
      simp only[List.toList_toArray,over]
      rw[Bz,Lc (by simp;omega)]
      rw[Ix (by simp;omega)]
      rw[Ld,Qy]
      congr 1;omega
     ·refine Nu ys new _ Ay (hmono w' (fun x hx hxA=>hgrew.old x hx hxA)) ?_
      simp only[List.toList_toArray,over]
      rw[Dv,Bz,List.drop_append,EG (by simp;omega)]
      have:off+xs.length*sz-(List.take (off+xs.length*sz) arr.toList).length=0:=by simp;omega
      rw[this]
      simp only[GU,Hr]
      rw[Ix (by omega)]
  ·cases ho
 ·simp only[hle,Br]
  obtain⟨k,hk,hch⟩:=a7z (P:=P) (n:=xs.length+ys.length) (c:=c) (e:=e) (w:=w)
  rw[AC hch,AC Wi]
  obtain⟨old,hold,holdlen,hoR⟩:∃old:List Value,(Builtin.firstCells sz xs.length (.slice a xs.length c)).run P {w with drawn:=w.drawn+1}= .ok old.toArray {w with drawn:=w.drawn+1}∧
   old.length=xs.length*sz∧∃A1,(∀b,A1 b→A b)∧Rows sz (fun x cs A=>AU Z1 w (f x) cs A) xs old A1:=by
   rcases hs with⟨_,hs⟩|⟨ho,_⟩
   ·rcases hs with⟨ha,hc0,hA⟩|⟨b,off,arr,tyy,S1,ha,hb,hsize,hr,hj1⟩
    ·subst ha
     have hx0:xs=[]:=Hq.1 (by omega)
     subst hx0
     exact⟨[],rfl,by simp,fun _=>False,fun _ h=>h.elim,AI⟩
    ·subst ha
     have hmul:xs.length*sz≤c*sz:=Ki _ hc
     refine⟨(arr.toList.drop off).take (xs.length*sz),a1d hb (by omega),by simp;omega,S1,fun b' hb'=>(hj1.1 b').2 (.inr hb'),?_⟩
     exact Nu xs _ _ S1 hr (by rw[Qy,Nat.min_self])
   ·cases ho
  obtain⟨A1,hA1,hxr⟩:=hoR
  rw[AC hold,AC (hfirst {w with drawn:=w.drawn+1} rfl),AC QY]
  let w1:World:= {w with drawn:=w.drawn+1}
  have hgr:∀o,Grew w (Gq w1 o) A:=fun o=>⟨rfl,rfl,rfl,by simp [Gq,w1],fun b hb _=>by simp only[Gq,w1];rw[Qt,if_neg (by omega)]⟩
  have hjj:Bm (fun b=>A1 b∨Ay b) A1 Ay:=⟨fun _=>Cg,fun b x y=>hj.2 b (hA1 b x) y⟩
  refine⟨_,_,fun b=>b=w.heap.size∨(A1 b∨Ay b),rfl,hgr _,fun b hb=> ?_,?_⟩
  ·have:(Gq w1 (.cells (old.toArray++new.toArray++Builtin.zeroCells z.cells (k-(xs.length+ys.length))) e (0,0))).heap.size=w.heap.size+1:=Wg w1 _
   rw[this]
   rcases hb with hb|hb|hb
   ·omega
   ·have:=(hSlt b ((hj.1 b).2 (.inl (hA1 b hb)))).2
    exact⟨.inl ((hj.1 b).2 (.inl (hA1 b hb))),by omega⟩
   ·have:=(hSlt b ((hj.1 b).2 (.inr hb))).2
    exact⟨.inl ((hj.1 b).2 (.inr hb)),by omega⟩
  ·simp only[Aj]
   refine⟨_,_,_,rfl,by simp,hk,.inl ⟨trivial,.inr ⟨w.heap.size,0,_,e,fun b=>A1 b∨Ay b,rfl,Wf w1 _,?_,?_,⟨fun b=>Cg,fun b h1 h2=> ?_⟩⟩⟩⟩
   ·have:(Builtin.zeroCells z.cells (k-(xs.length+ys.length))).size=(k-(xs.length+ys.length))*sz:=by simp [Builtin.zeroCells,hzs]
    simp only[Array.size_append,List.size_toArray,holdlen,hnew,this]
    rw[←OB,←OB]
    rw[show xs.length+ys.length+(k-(xs.length+ys.length))=k by omega];omega
   ·rw[GU]
    have hxrows:Rows sz (fun x cs A=>AU (fun c=>Z1 c∨w.heap.size≤c) (Gq w1 (.cells (old.toArray++new.toArray++Builtin.zeroCells z.cells (k-(xs.length+ys.length))) e (0,0))) (f x) cs A) xs old A1:=by
     refine Lh xs _ A1 (fun x cs A' hA' hx=>Ea (fun b' h1 h2=>⟨hzz b' h1 h2,?_⟩) _ _ _ (fun b' hb'=> ?_) hx) hxr
     ·simp only[Gq,w1];rw[Qt,if_neg (by omega)]
     ·have:=(hSlt b' ((hj.1 b').2 (.inl (hA1 b' (hA' b' hb'))))).2
      simp only[Gq,w1];rw[Qt,if_neg (by omega)]
    refine a1b xs ys _ A1 Ay _ ?_ ?_ hjj
    ·refine Nu xs old _ A1 hxrows ?_
     simp only[Array.toList_append,Bz]
     rw[Ix (by omega)]
    ·refine Nu ys new _ Ay (hmono _ (fun x hx _=>by simp only[Gq,w1];rw[Qt,if_neg (by omega)])) ?_
     simp only[Array.toList_append,Bz]
     rw[List.drop_append,EG (by omega)]
     have:xs.length*sz-old.length=0:=by omega
     rw[this]
     simp only[GU,Hr]
     rw[Ix (by omega)]
   ·simp only[one] at h1
    have:=h2.elim (fun h=>(hSlt b ((hj.1 b).2 (.inl (hA1 b h)))).2) (fun h=>(hSlt b ((hj.1 b).2 (.inr h))).2)
    omega
def Ca{α:Type}(f:α→List AV):Prop:=∀x,(f x).all Kl=true
def Bb(n bytes:Nat):Prop:=n*bytes≤2^46
def Wj(sz bytes:Nat)(nx:Nat)(dst:Option Nat){α:Type}(f:α→List AV)(xs:List α)(regs:List AV)(x:AV)(K:St→Prop):Prop:=
 match x with
 | .nil=>Ca f∧Bb xs.length bytes∧K ⟨setR regs dst (.sl true nx sz α f xs),nx+1⟩
 | .sl false _ sz' α' f' ys=>∃zs:List α,AV.sl false 0 sz' α' f' ys=AV.sl false 0 sz α f zs∧Ca f∧Bb (xs.length+zs.length) bytes∧
    K ⟨setR regs dst (.sl true nx sz α f (xs++zs)),nx+1⟩
 | .al id=>match EY id regs with
   |some (.sl true _ sz' α' f' ys,regs')=>∃zs:List α,AV.sl true 0 sz' α' f' ys=AV.sl true 0 sz α f zs∧Ca f∧Bb (xs.length+zs.length) bytes∧
     K ⟨setR regs' dst (.sl true nx sz α f (xs++zs)),nx+1⟩
   |_=>False
 |_=>False
def a1e(P:Program)(ts:Array TypeId):Option (TypeId×Nat×Nat):=
 match ts[0]?,ts[1]? with
 |some t,some tx=>match Nn P t,P.underlying tx with
  |some (e,sz),some (.slice _)=>match P.info? e with
   |some i=>match i.zero with
    |some z=>match Nat.beq z.cells.size sz,Nat.blt 0 sz,Nat.blt 0 i.bytes with
     |true,true,true=>some (t,sz,i.bytes)
     |_,_,_=>none
    |none=>none
   |none=>none
  |_,_=>none
 |_,_=>none
def a1f(P:Program)(E:TypeId→Option ES)(s:St)(dst:Option Nat)(ts:Array TypeId)(sv x:AV)(K:St→Prop):Prop:=
 match a1e P ts with
 |some (t,sz,bytes)=>match sv with
  | .nil=>match E t with
    |some es=>Wj sz bytes s.nx dst es.f ([]:List es.α) s.regs x K
    |none=>False
  | .al id=>match EY id s.regs with
    |some (.sl true _ sz' α f xs,regs1)=>match Nat.beq sz' sz with
     |true=>Wj sz bytes s.nx dst f xs regs1 x K
     |false=>False
    |_=>False
  |_=>False
 |none=>False
theorem a7A{t:TypeId}{bytes:Nat}(ho:a1e P ts=some (t,sz,bytes))(ty:TypeId){α:Type}{f:α→List AV}{xs:List α}
 {regs1:List AV}   (h:Wj sz bytes s.nx dst f xs regs1 x K)      (hi:Inst C s a w η Z T)
 {B1:FP} (hj:Bm T A1 B1) {i:Nat}  (hs:Aj Z w (.sl true i sz α f xs) sv A1) (hr:Am Z η w regs1 a.tmps.toList B1) (hids:AN s.nx regs1)
 (hx:Af Z η w x xv (fun _=>False)):
 ∃u w' s',(Builtin.append_ ts ty #[sv,xv]).run P w= .ok u w'∧K s'∧Rel C s' (a.put dst u) w':=by
 unfold a1e at ho
 split at ho
 ·rename_i t' tx ht0 ht1
  split at ho
  ·rename_i e sz' ex he hux
   obtain⟨hu,inf,hinf,hsz⟩:=QQ he
   split at ho
   ·rename_i i' hi2
    rw[hinf] at hi2;simp only[AS] at hi2;subst hi2
    split at ho
    ·rename_i z hz
     split at ho
     ·rename_i hzs hpos hby
      simp only[AS,BM] at ho
      obtain⟨rfl,rfl,rfl⟩:=ho
      have hzs:=Cj hzs
      have hpos:0<sz':=HR hpos
      have hby:0<inf.bytes:=HR hby
      have hTo:=hi.own
      have core:∀(ys:List α) (new:List Value) (Ay B2:FP) (regs2:List AV),
       (∀W:World,W.heap=w.heap→(Builtin.lenOf xv).run P W= .ok ys.length W)→
       (∀W:World,W.heap=w.heap→(Builtin.firstCells sz' ys.length xv).run P W= .ok new.toArray W)→new.length=ys.length*sz'→
       Rows sz' (fun x cs A=>AU Z w (f x) cs A) ys new Ay→(∀b,Ay b∨B2 b→B1 b)→(∀b,Ay b→B2 b→False)→
       Am Z η w regs2 a.tmps.toList B2→AN s.nx regs2→Ca f→Bb (xs.length+ys.length) inf.bytes→
       K ⟨setR regs2 dst (.sl true s.nx sz' α f (xs++ys)),s.nx+1⟩→∃u w' s',(Builtin.append_ ts ty #[sv,xv]).run P w= .ok u w'∧K s'∧Rel C s' (a.put dst u) w':=by
       intro ys new Ay B2 regs2 h1 h2 h3 h4 h5 h6 h7 h8 h9 h10 h11
       have hcell:∀c∈new,Dm c:=by
        have:=(a7x h9 ys new Ay h4).1
        rw[←h3,List.take_length] at this;exact this
       have hjA:Bm (fun b=>A1 b∨Ay b) A1 Ay:=⟨fun _=>Cg,fun b p q=>hj.2 b p (h5 b (.inl q))⟩
       have hAT:∀b,A1 b∨Ay b→T b:=fun b hb=>(hj.1 b).2 (hb.imp id (fun h=>h5 b (.inl h)))
       obtain⟨v,w',A',k1,k2,k3,k4⟩:=b6V (P:=P) (ts:=ts) (ty:=ty) (i:=i) (j:=s.nx) (xs:=xs) ht0 ht1 hu hux (fun k hk=>by cases hk) hinf hsz hpos hz hzs hby hs h1 h2 h3 h4 hcell hjA h10
        (fun b hb=>⟨(hTo b (hAT b hb)).1,(hTo b (hAT b hb)).2.1⟩)
       refine⟨v,w',_,k1,h11,?_⟩
       refine hi.putOwn (A1:=fun b=>A1 b∨Ay b) (η':=fun i=>if i=s.nx then v else η i) (A':=A') h7 h8 (fun _ h=>h) (fun _ h h'=>(h' h).elim) hAT (fun b hb=>(hj.1 b).2 (.inr (h5 b (.inr hb))))
        (fun b p q=>p.elim (fun p=>hj.2 b p (h5 b (.inr q))) (fun p=>h6 b p q)) (fun b hb=>(hTo b (hAT b hb)).1) (fun b hb=>(hTo b ((hj.1 b).2 (.inr (h5 b (.inr hb))))).1)
        ⟨k2.os,k2.tape,k2.output,k2.size,fun b hb hn=>k2.old b hb (fun x=>hn (.inl x))⟩ (Nf _) (fun i hi=>if_neg (by omega)) ?_ ?_ k3 dst
       ·simp only[Af];exact⟨fun _=>by simp,k4⟩
       ·simp only[Az];intro _;exact Ng _
      unfold Wj at h
      split at h
      ·obtain⟨g1,g2,g3⟩:=h
       simp only[Af,Aj] at hx
       refine core [] [] (fun _=>False) B1 regs1 (fun W _=>by rw[hx.1];rfl) (fun W _=>by rw[hx.1];rfl) (by simp) AI (fun b hb=>hb.resolve_left id) (fun _ h=>h.elim) hr hids g1 (by simpa using g2) (by simpa using g3)
      ·rename_i i2 szz α' f' ys
       obtain⟨zs,he,g1,g2,g3⟩:=h
       simp only[Af] at hx
       have hx:=Mg (j:=0) he hx.2
       simp only[Aj] at hx
       obtain⟨a2,n2,c2,ev,hn,hc,hx⟩:=hx
       rcases hx with⟨ho,_⟩|⟨_,_,hx⟩
       ·cases ho
       ·rcases hx with hx|⟨b,off,arr,tyy,fr,ha,hzb,hb,hrows⟩
        ·subst hx
         refine core [] [] (fun _=>False) B1 regs1 (fun W _=>by rw[ev,hn];rfl) (fun W _=> ?_) (by simp) AI (fun b hb=>hb.resolve_left id) (fun _ h=>h.elim) hr hids g1 (by simpa using g2) (by simpa using g3)
         rw[ev]
         cases a2 with
         |none=>rfl
         |some ad2=>simp [Builtin.firstCells,loadCells,loadCellsFrom]
        ·have hlr:=a1c zs _ _ hrows
         simp at hlr
         have hle:off+zs.length*sz'≤arr.size∨zs.length*sz'=0:=by omega
         refine core zs ((arr.toList.drop off).take (zs.length*sz')) (fun _=>False) B1 regs1 (fun W _=>by rw[ev,hn];rfl) (fun W hW=> ?_) (by simp;omega)
          (Nu zs _ _ _ hrows (by rw[Qy,Nat.min_self])) (fun b hb=>hb.resolve_left id) (fun _ h=>h.elim) hr hids g1 g2 g3
         rw[ev,ha]
         have hb':W.heap[b]? =some (.cells arr tyy fr):=by rw[hW];exact hb
         rcases hle with hle|hle
         ·exact a1d (cap:=c2) hb' hle
         ·simp [Builtin.firstCells,loadCells,loadCellsFrom,hle]
      ·rename_i id
       split at h
       ·rename_i i2 szz α' f' ys regs2 ht
        obtain⟨zs,he,g1,g2,g3⟩:=h
        obtain⟨A2,B2,hj2,hio,hro,hrr⟩:=Gn regs1 _ B1 _ _ hr ht
        obtain⟨q1,q2,q3⟩:=Hb regs1 _ _ hids ht
        simp only[Af] at hx hro
        have hro:=Mg (j:=0) he hro.2
        rw[←hx.1] at hro
        simp only[Aj] at hro
        obtain⟨a2,n2,c2,ev,hn,hc,hro⟩:=hro
        rcases hro with⟨_,hro⟩|⟨ho,_⟩
        ·rcases hro with⟨ha,hc0,_⟩|⟨b,off,arr,tyy,S1,ha,hb,hsize,hrows,hj3⟩
         ·have hz0:zs=[]:=Hq.1 (by omega)
          subst hz0
          refine core [] [] (fun _=>False) B2 regs2 (fun W _=>by rw[ev,hn];rfl) (fun W _=>by rw[ev,ha];rfl) (by simp) AI (fun b hb=>(hj2.1 b).2 (.inr (hb.resolve_left (fun x=>x)))) (fun _ h=>h.elim) hrr q3 g1 (by simpa using g2) (by simpa using g3)
         ·have hmul:zs.length*sz'≤c2*sz':=Ki _ (by omega)
          refine core zs ((arr.toList.drop off).take (zs.length*sz')) S1 B2 regs2 (fun W _=>by rw[ev,hn];rfl) (fun W hW=> ?_) (by simp;omega)
           (Nu zs _ _ _ hrows (by rw[Qy,Nat.min_self])) (fun b hb=>(hj2.1 b).2 (hb.imp (fun h=>(hj3.1 b).2 (.inr h)) (fun x=>x))) (fun b p q=>hj2.2 b ((hj3.1 b).2 (.inr p)) q) hrr q3 g1 g2 g3
          rw[ev,ha]
          exact a1d (cap:=c2) (by rw[hW];exact hb) (by omega)
        ·cases ho
       ·exact h.elim
      ·exact h.elim
     ·cases ho
    ·cases ho
   ·cases ho
  ·cases ho
 ·cases ho
theorem b6W{E:TypeId→Option ES}{ty:TypeId}{svA:AV}(h:a1f P E s dst ts svA x K)
      (hi:Inst C s a w η Z T)  (hs:Af Z η w svA sv (fun _=>False)) (hx:Af Z η w x xv (fun _=>False)):
 ∃u w' s',(Builtin.append_ ts ty #[sv,xv]).run P w= .ok u w'∧K s'∧Rel C s' (a.put dst u) w':=by
 unfold a1f at h
 split at h
 ·rename_i t sz bytes ho
  split at h
  ·split at h
   ·rename_i es hE
    simp only[Af,Aj] at hs
    refine a7A ho ty h hi (A1:=fun _=>False) (B1:=T) (i:=0) (Cu T) ?_ hi.rel hi.ids hx
    simp only[Aj]
    exact⟨none,0,0,hs.1,rfl,Bu _,.inl ⟨trivial,.inl ⟨rfl,rfl,AI⟩⟩⟩
   ·exact h.elim
  ·rename_i id
   split at h
   ·rename_i i sz' α f xs regs1 ht
    split at h
    ·rename_i hb
     have hb:=Cj hb
     subst hb
     obtain⟨A1,B1,hj,hio,hro,hrr⟩:=Gn s.regs _ T _ _ hi.rel ht
     obtain⟨q1,q2,q3⟩:=Hb s.regs _ _ hi.ids ht
     simp only[Af] at hs hro
     refine a7A ho ty h hi hj (i:=i) ?_ hrr q3 hx
     rw[hs.1];exact hro.2
    ·exact h.elim
   ·exact h.elim
  ·exact h.elim
 ·exact h.elim
def a1g(P:Program)(s:St)(t:TypeId)(p v:AV)(K:St→Prop):Prop:=
 match Mf v,P.info? t with
 |some ls,some i=>match Nat.beq ls.length i.size with
  |true=>match p with
   | .al id=>match EY id s.regs with
     |some (.box j c,r1)=>match Nat.ble ls.length c.length with
      |true=>match Fy id (.box j (ls++c.drop ls.length)) r1 with
       |some r2=>K ⟨r2,s.nx⟩
       |none=>False
      |false=>False
     |_=>False
   | .po id k sz off=>match EY id s.regs with
     |some (.box j c,r1)=>match k,sz,Nat.ble (off+ls.length) c.length with
      |0,0,true=>match Fy id (.box j (c.take off++ls++c.drop (off+ls.length))) r1 with
       |some r2=>K ⟨r2,s.nx⟩
       |none=>False
      |_,_,_=>False
     |some (.sl true j sz' α f xs,r1)=>match Nat.beq sz sz',Nat.ble (off+ls.length) sz with
      |true,true=>k<xs.length∧∀x,xs[k]? =some x→∃x':α,((f x').take off=(f x).take off∧(f x').drop (off+ls.length)=(f x).drop (off+ls.length))∧
        Ff false (((f x').drop off).take ls.length) r1 ls fun r2=>match Fy id (.sl true j sz' α f (xs.set k x')) r2 with
         |some r3=>K ⟨r3,s.nx⟩
         |none=>False
      |_,_=>False
     |_=>False
   |_=>False
  |false=>False
 |_,_=>False
theorem a1h{Z:FP}{η:Nat→Value}{w:World}:∀(n:Nat) (azs:List AV) (cs:List Value) (S:FP),Am Z η w azs cs S→
 ∃A B,Bm S A B∧Am Z η w (azs.take n) (cs.take n) A∧Am Z η w (azs.drop n) (cs.drop n) B
 |0,azs,cs,S,h=>⟨fun _=>False,S,Cu S,by simp [Am,emp],by simpa using h⟩
 |n+1,[],cs,S,h=>by
  simp only[Am] at h
  exact⟨fun _=>False,S,Cu S,by simp [h.1,Am,emp],by simp [h.1,Am,h.2]⟩
 |n+1,a::azs,cs,S,h=>by
  simp only[Am] at h
  obtain⟨v,cs',A,B,e,hj,h1,h2⟩:=h
  subst e
  obtain⟨A2,B2,hj2,h3,h4⟩:=a1h n azs cs' B h2
  obtain⟨E2,h7,h8⟩:=Nh hj hj2
  refine⟨E2,B2,h7,?_,by simpa using h4⟩
  ·simp only[Kh,Am]
   exact⟨v,_,A,A2,rfl,h8,h1,h3⟩
theorem Nv{Z:FP}{η:Nat→Value}{w:World}:∀(azs bs:List AV) (cs ds:List Value) (A B S:FP),Am Z η w azs cs A→Am Z η w bs ds B→Bm S A B→Am Z η w (azs++bs) (cs++ds) S
 |[],bs,cs,ds,A,B,S,h1,h2,hj=>by
  simp only[Am] at h1
  rw[h1.1,show S=B from FO (Hv hj h1.2)];simpa using h2
 |a::azs,bs,cs,ds,A,B,S,h1,h2,hj=>by
  simp only[Am] at h1
  obtain⟨v,cs',A1,A2,e,hj1,h3,h4⟩:=h1
  subst e
  obtain⟨E,h5,h6⟩:=Tl hj hj1
  simp only[EW,Am]
  exact⟨v,cs'++ds,A1,E,rfl,h5,h3,Nv azs bs cs' ds A2 B E h4 h2 h6⟩
theorem TF{Z:FP}{w:World}:∀(n:Nat) (azs:List AV) (cs:List Value) (S:FP),AU Z w azs cs S→
 ∃A B,Bm S A B∧AU Z w (azs.take n) (cs.take n) A∧AU Z w (azs.drop n) (cs.drop n) B
 |0,azs,cs,S,h=>⟨fun _=>False,S,Cu S,by simp [AU,emp],by simpa using h⟩
 |n+1,[],cs,S,h=>by
  simp only[AU] at h
  exact⟨fun _=>False,S,Cu S,by simp [h.1,AU,emp],by simp [h.1,AU,h.2]⟩
 |n+1,a::azs,cs,S,h=>by
  simp only[AU] at h
  obtain⟨v,cs',A,B,e,hj,h1,h2⟩:=h
  subst e
  obtain⟨A2,B2,hj2,h3,h4⟩:=TF n azs cs' B h2
  obtain⟨E2,h7,h8⟩:=Nh hj hj2
  refine⟨E2,B2,h7,?_,by simpa using h4⟩
  ·simp only[Kh,AU]
   exact⟨v,_,A,A2,rfl,h8,h1,h3⟩
theorem TG{Z:FP}{w:World}:∀(azs bs:List AV) (cs ds:List Value) (A B S:FP),AU Z w azs cs A→AU Z w bs ds B→Bm S A B→AU Z w (azs++bs) (cs++ds) S
 |[],bs,cs,ds,A,B,S,h1,h2,hj=>by
  simp only[AU] at h1
  rw[h1.1,show S=B from FO (Hv hj h1.2)];simpa using h2
 |a::azs,bs,cs,ds,A,B,S,h1,h2,hj=>by
  simp only[AU] at h1
  obtain⟨v,cs',A1,A2,e,hj1,h3,h4⟩:=h1
  subst e
  obtain⟨E,h5,h6⟩:=Tl hj hj1
  simp only[EW,AU]
  exact⟨v,cs'++ds,A1,E,rfl,h5,h3,TG azs bs cs' ds A2 B E h4 h2 h6⟩
theorem a7B{Z:FP}{w:World}:∀(azs:List AV) (vs:List Value) (S:FP),AU Z w azs vs S→vs.length=azs.length
 |[],vs,S,h=>by simp only[AU] at h;simp [h.1]
 |a::azs,vs,S,h=>by
  simp only[AU] at h
  obtain⟨v,cs',A,B,e,hj,h1,h2⟩:=h
  subst e;simp [a7B azs cs' B h2]
theorem a1i{α:Type}{sz:Nat}{R:α→List Value→FP→Prop}:∀(xs:List α) (cs:List Value) (S:FP) (k:Nat) (x:α),Rows sz R xs cs S→xs[k]? =some x→
 ∃A B,Bm S A B∧R x ((cs.drop (k*sz)).take sz) A∧k*sz+sz≤cs.length∧
  ∀x' seg' A',seg'.length=sz→R x' seg' A'→(∀b,A' b→¬B b)→Rows sz R (xs.set k x') (over cs (k*sz) seg') (fun b=>A' b∨B b)
 |[],cs,S,k,x,h,hk=>by simp at hk
 |y::xs,cs,S,0,x,h,hk=>by
  simp at hk;subst hk
  obtain⟨A,B,hj,hl,h1,h2⟩:=h
  refine⟨A,B,hj,by simpa using h1,by simp at hl ⊢;omega,fun x' seg' A' hs hr hd=> ?_⟩
  simp only[List.set_cons_zero,Rows]
  refine⟨A',B,⟨fun _=>Cg,fun b p q=>hd b p q⟩,?_,?_,?_⟩
  ·simp [over,hs]
  ·simp only[over,OC,Qz,Hr]
   rw[Ix (by omega),EH (by omega)];exact hr
  ·simp only[over,OC,Qz,Hr,Nat.zero_add]
   rw[Lc (by omega),EG (by omega)]
   simpa [hs] using h2
 |y::xs,cs,S,k+1,x,h,hk=>by
  obtain⟨A,B,hj,hl,h1,h2⟩:=h
  obtain⟨A2,B2,hj2,hr,hlen,hset⟩:=a1i xs (cs.drop sz) B k x h2 (by simpa using hk)
  have hsl:sz≤cs.length:=by simp at hl;omega
  have e:(k+1)*sz=sz+k*sz:=by rw[Hs];omega
  refine⟨A2,fun b=>A b∨B2 b,⟨fun b=> ?_,fun b p q=> ?_⟩,?_,?_,fun x' seg' A' hs hr' hd=> ?_⟩
  ·rw[hj.1 b,hj2.1 b];exact⟨fun h=>h.elim (fun h=> .inr (.inl h)) (fun h=>h.elim .inl (fun h=> .inr (.inr h))),fun h=>h.elim (fun h=> .inr (.inl h)) (fun h=>h.elim .inl (fun h=> .inr (.inr h)))⟩
  ·exact q.elim (fun q=>hj.2 b q ((hj2.1 b).2 (.inl p))) (fun q=>hj2.2 b p q)
  ·rw[e,←Dv];exact hr
  ·rw[e];simp at hlen;omega
  ·have:=hset x' seg' A' hs hr' (fun b p q=>hd b p (.inr q))
   simp only[List.set_cons_succ,Rows]
   have hov:over cs (sz+k*sz) seg'=cs.take sz++over (cs.drop sz) (k*sz) seg':=by
    simp only[over]
    rw[List.take_add,Dv]
    simp only[Bz]
    congr 4;omega
   rw[e,hov]
   refine⟨A,fun b=>A' b∨B2 b,⟨fun b=> ?_,fun b p q=> ?_⟩,?_,?_,?_⟩
   ·exact⟨fun h=>h.elim (fun h=> .inr (.inl h)) (fun h=>h.elim .inl (fun h=> .inr (.inr h))),fun h=>h.elim (fun h=> .inr (.inl h)) (fun h=>h.elim .inl (fun h=> .inr (.inr h)))⟩
   ·exact q.elim (fun q=>hd b q (.inl p)) (fun q=>hj.2 b p ((hj2.1 b).2 (.inr q)))
   ·rw[Ix (by simp;omega)];simp;omega
   ·rw[Ix (by simp;omega),EH (by simp;omega)];exact h1
   ·rw[Lc (by simp;omega),EG (by simp;omega)];simpa using this
theorem b6X(L V:List Value)(boff ks sz off n:Nat)(hL:boff+ks+sz≤L.length)(hV:V.length=n)(hle:off+n≤sz):
 (over L (boff+(ks+off)) V).drop boff=
   over (L.drop boff) ks ((((L.drop boff).drop ks).take sz).take off++V++(((L.drop boff).drop ks).take sz).drop (off+n)):=by
 have hD:ks+sz≤(L.drop boff).length:=by simp;omega
 have e1:(over L (boff+(ks+off)) V).drop boff=over (L.drop boff) (ks+off) V:=by
  simp only[over,Bz]
  rw[Lc (by simp;omega),Ld]
  congr 1
  ·congr 1;omega
  ·rw[Dv];congr 2;omega
 rw[e1]
 generalize L.drop boff=D at hD ⊢
 simp only[over,Bz]
 have hslen:(List.take off (List.take sz (List.drop ks D))++(V++List.drop (off+n) (List.take sz (List.drop ks D)))).length=sz:=by
  simp;omega
 rw[hslen,List.take_add,Qy,Nat.min_eq_left (by omega),Ld,Dv]
 simp only[Bz]
 congr 3
 rw[hV]
 have:∀(M:List Value) (p q:Nat),M.drop p=(M.drop p).take q++M.drop (p+q):=by
  intro M p q;rw[←Dv,Fw]
 rw[this D (ks+off+n) (sz-(off+n))]
 congr 1
 ·congr 2;omega
 ·congr 1;omega
theorem a1j{t:TypeId}{i:TypeInfo}{b:Nat}{arr:Array Value}{ty:TypeId}(hinf:P.info? t=some i)(hb:w.heap[b]? =some (.cells arr ty (0,0)))
 (hl:off+v.cells.size≤arr.size) (hsz:v.cells.size=i.size) (hc:∀c∈v.cells.toList,Dm c):
 ∃w',(Instr.storeAt t (.pointer (some (ad b off))) v).run P w= .ok () w'∧Wrote w w' b (over arr.toList off v.cells.toList).toArray ty:=by
 obtain⟨w',h1,h2⟩:=a0l (P:=P) (off:=off) v.cells.toList 0 w arr hb (by simp;omega) hc
 refine⟨w',?_,by simpa using h2⟩
 unfold Instr.storeAt Instr.sureAddr
 simp only[]
 rw[AC (Cy P _ w)]
 unfold storeVar
 rw[AC (Hy hinf w)]
 rw[if_neg (by omega)]
 exact h1
theorem b6Y{t:TypeId}{p v:AV}(h:a1g P s t p v K)
 (hi:Inst C s a w η Z T) {pv vv:Value} (hp:Af Z η w p pv (fun _=>False)) (hv:Af Z η w v vv (fun _=>False)) (hvi:Az s.nx v):
 ∃w' s',(Instr.storeAt t pv vv).run P w= .ok () w'∧K s'∧Rel C s' a w':=by
 unfold a1g at h
 split at h
 ·rename_i ls i hl hinf
  split at h
  ·rename_i hlen
   have hlen:=Cj hlen
   obtain⟨hlr,hcell⟩:=VR hv hl
   have hlids:=a0Y hvi hl
   have hcl:vv.cells.toList.length=ls.length:=GF _ _ _ hlr
   have hcsz:vv.cells.size=i.size:=by rw[←hlen,←hcl];simp
   have boxcase:∀(id j off:Nat) (c:List AV) (r1 r2:List AV),EY id s.regs=some (.box j c,r1)→pv= .pointer (some ⟨(Gk (η id)).block,(Gk (η id)).off+off,none⟩)→
    off+ls.length≤c.length→Fy id (.box j (c.take off++ls++c.drop (off+ls.length))) r1=some r2→K ⟨r2,s.nx⟩→
    ∃w' s',(Instr.storeAt t pv vv).run P w= .ok () w'∧K s'∧Rel C s' a w':=by
    intro id j off c r1 r2 ht hpv hle hpl hk
    obtain⟨A1,B1,hj,hio,hro,hrr⟩:=Gn s.regs _ T _ _ hi.rel ht
    obtain⟨q1,q2,q3⟩:=Hb s.regs _ _ hi.ids ht
    simp only[Nk] at hio
    subst hio
    simp only[Af] at hro
    obtain⟨_,b,arr,ty,S1,e,hb,hr,hj1⟩:=hro
    have hcs:=GF _ _ _ hr
    rw[hpv,e]
    simp only[Gk,Nat.zero_add]
    have hsz':vv.cells.size=ls.length:=by rw[hcsz,hlen]
    obtain⟨w',hrun,hw⟩:=a1j (P:=P) (off:=off) hinf hb (by simp at hcs;omega) hcsz hcell
    have hbA:A1 b:=(hj1.1 b).2 (.inl rfl)
    have hg:Grew w w' A1:=⟨hw.os,hw.tape,hw.output,by rw[hw.size];exact Bu _,fun x hx hxA=>hw.oth x (fun h=>hxA (h▸hbA))⟩
    refine⟨w',_,hrun,hk,?_⟩
    have hzw:∀x,¬Z x→x<w.heap.size→¬(Z x∨w.heap.size≤x)∧w'.heap[x]? =w.heap[x]? :=fun x hx hxl=>
     ⟨fun h=>h.elim hx (fun h=>by omega),hg.old x hxl (fun h=>hx (hi.own x ((hj.1 x).2 (.inl h))).1)⟩
    have hlt:∀x,T x→x<w.heap.size:=fun x hx=>(hi.own x hx).2.1
    simp only[Az] at q2
    obtain⟨P1,P2,hjp,hp1,hp2⟩:=a1h off c arr.toList S1 hr
    obtain⟨P3,P4,hjp2,hp3,hp4⟩:=a1h ls.length (c.drop off) (arr.toList.drop off) P2 hp2
    have hS1:∀x,S1 x→T x:=fun x hx=>(hj.1 x).2 (.inl ((hj1.1 x).2 (.inr hx)))
    have hnb:∀x,S1 x→w'.heap[x]? =w.heap[x]? :=fun x hx=>hw.oth x (fun h=>hj1.2 b rfl (h▸hx))
    have m1:=Dj (n:=s.nx) hzw (fun _ _=>rfl) _ _ _ (QN off c q2.2) (fun x hx=>hnb x ((hjp.1 x).2 (.inl hx))) hp1
    have m4:=Dj (n:=s.nx) hzw (fun _ _=>rfl) _ _ _ (Ni ls.length _ (Ni off c q2.2)) (fun x hx=>hnb x ((hjp.1 x).2 (.inr ((hjp2.1 x).2 (.inr hx))))) hp4
    have ml:=Dj (n:=s.nx) hzw (fun _ _=>rfl) _ _ _ hlids (fun x hx=>hx.elim) hlr
    have mm:=Nv _ _ _ _ _ _ P1 m1 ml (Me P1)
    have hd14:∀x,P1 x→P4 x→False:=fun x h1 h2=>hjp.2 x h1 ((hjp2.1 x).2 (.inr h2))
    have mall:=Nv _ _ _ _ _ _ (fun x=>P1 x∨P4 x) mm m4 ⟨fun _=>Cg,hd14⟩
    rw[Dv,Dv] at mall
    have hover:over arr.toList off vv.cells.toList=arr.toList.take off++vv.cells.toList++arr.toList.drop (off+ls.length):=by
     simp only[over];rw[hcl]
    rw[←hover] at mall
    have hbox:Af (fun x=>Z x∨w.heap.size≤x) η w' (.box j (c.take off++ls++c.drop (off+ls.length))) (η j) (fun x=>x=b∨(P1 x∨P4 x)):=by
     simp only[Af]
     refine⟨trivial,b,_,ty,_,e,hw.blk,by simpa using mall,⟨fun x=>Cg,fun x h1 h2=> ?_⟩⟩
     simp only[one] at h1
     exact hj1.2 b rfl (h1▸(h2.elim (fun h=>(hjp.1 x).2 (.inl h)) (fun h=>(hjp.1 x).2 (.inr ((hjp2.1 x).2 (.inr h))))))
    have hrr':=Dj (n:=s.nx) hzw (fun _ _=>rfl) _ _ _ q3 (fun x hx=>hg.old x (hlt x ((hj.1 x).2 (.inr hx))) (fun h=>hj.2 x h hx)) hrr
    have hsub:∀x,(x=b∨(P1 x∨P4 x))→A1 x:=fun x hx=>hx.elim (fun h=>h▸hbA) (fun h=>(hj1.1 x).2 (.inr (h.elim (fun h=>(hjp.1 x).2 (.inl h)) (fun h=>(hjp.1 x).2 (.inr ((hjp2.1 x).2 (.inr h)))))))
    have hfin:=JC hbox r1 _ B1 (fun x=>(x=b∨(P1 x∨P4 x))∨B1 x) r2 hrr' ⟨fun _=>Cg,fun x h1 h2=>hj.2 x (hsub x h1) h2⟩ hpl
    refine⟨η,_,_,hi.next (A1:=A1) (fun _ h=>h) (fun _ h h'=>(h' h).elim) (fun x hx=>(hj.1 x).2 (.inl hx)) hg rfl hfin (JD ?_ _ _ q3 hpl) (fun x hx=> ?_)⟩
    ·simp only[Az]
     refine⟨q2.1,?_⟩
     have happ:∀(l1 l2:List AV),AN s.nx l1→AN s.nx l2→AN s.nx (l1++l2):=by
      intro l1
      induction l1 with
      |nil=>intro l2 _ h2;simpa using h2
      |cons x l1 ih=>intro l2 h1 h2;exact⟨h1.1,ih l2 h1.2 h2⟩
     exact happ _ _ (happ _ _ (QN _ _ q2.2) hlids) (Ni _ _ q2.2)
    ·have hT:T x:=(hj.1 x).2 (hx.imp (hsub x) id)
     exact⟨.inl (hi.own x hT).1,.inl hT,Ev (hlt x hT) hg.size⟩
   split at h
   ·rename_i id
    split at h
    ·rename_i j c r1 ht
     split at h
     ·rename_i hle
      have hle:=HR hle
      split at h
      ·rename_i r2 hpl
       refine boxcase id j 0 c r1 r2 ht ?_ (by omega) (by simpa using hpl) h
       obtain⟨A1,B1,hj,hio,hro,hrr⟩:=Gn s.regs _ T _ _ hi.rel ht
       simp only[Af] at hp hro
       obtain⟨_,b,arr,ty,S1,e,_⟩:=hro
       rw[hp.1,e];simp [Gk]
      ·exact h.elim
     ·exact h.elim
    ·exact h.elim
   ·rename_i id k sz off
    split at h
    ·rename_i j c r1 ht
     split at h
     ·rename_i hle
      have hle:=HR hle
      split at h
      ·rename_i r2 hpl
       refine boxcase id j off c r1 r2 ht ?_ hle hpl h
       simp only[Af] at hp
       rw[hp.1];simp
      ·exact h.elim
     ·exact h.elim
    ·rename_i j sz' α f xs r1 ht
     split at h
     ·rename_i hsz hle
      have hsz:=Cj hsz
      subst hsz
      have hle:=HR hle
      obtain⟨hk,h⟩:=h
      have hkx:xs[k]? =some xs[k]:=by simp
      obtain⟨x',⟨ht1,ht2⟩,h⟩:=h _ hkx
      obtain⟨A1,B1,hj,hio,hro,hrr⟩:=Gn s.regs _ T _ _ hi.rel ht
      obtain⟨q1,q2,q3⟩:=Hb s.regs _ _ hi.ids ht
      simp only[Nk] at hio
      subst hio
      obtain⟨Z1,A2,B2,r2,ho⟩:=HT _ r1 ls _ h Z a.tmps.toList vv.cells.toList B1 (fun _=>False) B1 hrr q3 hlr hlids (Cu B1)
      have hk2:=ho.k
      split at hk2
      ·rename_i r3 hpl
       simp only[Af,Aj] at hro hp
       obtain⟨hη,a0,n0,c0,e,hn,hc,hro⟩:=hro
       rcases hro with⟨_,hro⟩|⟨ho',_⟩
       ·rcases hro with⟨ha,hc0,_⟩|⟨b,boff,arr,ty,S1,ha,hb,hsize,hrows,hj1⟩
        ·omega
        ·obtain⟨_,_,_,_,hlk,_⟩:=a1i xs _ S1 k xs[k] hrows hkx
         subst ha
         rw[hp.1,e]
         simp only[Gk]
         have hsz':vv.cells.size=ls.length:=by rw[hcsz,hlen]
         simp at hlk
         obtain⟨w',hrun,hw⟩:=a1j (P:=P) (off:=boff+(k*sz+off)) hinf hb (by omega) hcsz hcell
         have hbA:A1 b:=(hj1.1 b).2 (.inl rfl)
         have hg:Grew w w' A1:=⟨hw.os,hw.tape,hw.output,by rw[hw.size];exact Bu _,fun x hx hxA=>hw.oth x (fun h=>hxA (h▸hbA))⟩
         refine⟨w',_,hrun,hk2,?_⟩
         have hTo:=hi.own
         have hA1T:∀x,A1 x→T x:=fun x hx=>(hj.1 x).2 (.inl hx)
         have hB1T:∀x,B1 x→T x:=fun x hx=>(hj.1 x).2 (.inr hx)
         have hlt:∀x,T x→x<w.heap.size:=fun x hx=>(hTo x hx).2.1
         have hA1Z1:∀x,A1 x→Z1 x:=fun x hx=>Classical.byContradiction fun hn=>hj.2 x hx (ho.gone x (hTo x (hA1T x hx)).1 hn)
         have hB2Z1:∀x,B2 x→Z1 x:=fun x hx=>ho.ownB rfl x hx (hTo x (hB1T x (ho.part x (.inr hx)))).1
         have hA2Z1:∀x,A2 x→Z1 x:=fun x hx=>ho.ownA x hx (hTo x (hB1T x (ho.part x (.inl hx)))).1
         have hzw:∀x,¬Z1 x→x<w.heap.size→¬(Z1 x∨w.heap.size≤x)∧w'.heap[x]? =w.heap[x]? :=fun x hx hxl=>
          ⟨fun h=>h.elim hx (fun h=>by omega),hg.old x hxl (fun h=>hx (hA1Z1 x h))⟩
         have hzw0:∀x,¬Z x→x<w.heap.size→¬(Z1 x∨w.heap.size≤x)∧w'.heap[x]? =w.heap[x]? :=fun x hx hxl=>hzw x (fun h=>hx (ho.zz x h)) hxl
         have hS1T:∀x,S1 x→A1 x:=fun x hx=>(hj1.1 x).2 (.inr hx)
         have hnb:∀x,S1 x→w'.heap[x]? =w.heap[x]? :=fun x hx=>hw.oth x (fun h=>hj1.2 b rfl (h▸hx))
         have hrows':Rows sz (fun x cs A=>AU (fun x=>Z1 x∨w.heap.size≤x) w' (f x) cs A) xs (arr.toList.drop boff) S1:=
          Lh xs _ S1 (fun x cs A hA hx=>Ea hzw0 _ _ _ (fun y hy=>hnb y (hA y hy)) hx) hrows
         obtain⟨Ak,Bk,hjk,hrk,_,hset⟩:=a1i xs _ S1 k xs[k] hrows' hkx
         generalize hseg:((arr.toList.drop boff).drop (k*sz)).take sz=seg at hrk
         have hsegl:seg.length=sz:=by rw[←hseg];simp;omega
         obtain⟨P1,P2,hjp,m1,hp2⟩:=TF off (f xs[k]) seg Ak hrk
         obtain⟨P3,P4,hjp2,m3,m4⟩:=TF ls.length ((f xs[k]).drop off) (seg.drop off) P2 hp2
         have hAkS:∀x,Ak x→S1 x:=fun x hx=>(hjk.1 x).2 (.inl hx)
         have m2:=Ea hzw _ _ _ (fun x hx=>hg.old x (hlt x (hB1T x (ho.part x (.inl hx)))) (fun h=>hj.2 x h (ho.part x (.inl hx)))) ho.got
         have d12:∀x,P1 x→A2 x→False:=fun x h1 h2=>hj.2 x (hS1T x (hAkS x ((hjp.1 x).2 (.inl h1)))) (ho.part x (.inl h2))
         have d42:∀x,P4 x→A2 x→False:=fun x h1 h2=>hj.2 x (hS1T x (hAkS x ((hjp.1 x).2 (.inr ((hjp2.1 x).2 (.inr h1)))))) (ho.part x (.inl h2))
         have d14:∀x,P1 x→P4 x→False:=fun x h1 h2=>hjp.2 x h1 ((hjp2.1 x).2 (.inr h2))
         have mm:=TG _ _ _ _ _ _ (fun x=>P1 x∨A2 x) m1 m2 ⟨fun _=>Cg,d12⟩
         have mall:=TG _ _ _ _ _ _ (fun x=>(P1 x∨A2 x)∨P4 x) mm m4 ⟨fun _=>Cg,fun x h1 h2=>h1.elim (fun h1=>d14 x h1 h2) (fun h1=>d42 x h2 h1)⟩
         rw[Dv,Dv,←ht1,←ht2] at mall
         have hfx':(f x').take off++((f x').drop off).take ls.length++(f x').drop (off+ls.length)=f x':=by
          rw[←Dv,Bz,Fw,Fw]
         rw[hfx'] at mall
         have hdk:∀x,((P1 x∨A2 x)∨P4 x)→¬Bk x:=fun x h1 h2=>by
          rcases h1 with(h1|h1)|h1
          ·exact hjk.2 x ((hjp.1 x).2 (.inl h1)) h2
          ·exact hj.2 x (hS1T x ((hjk.1 x).2 (.inr h2))) (ho.part x (.inl h1))
          ·exact hjk.2 x ((hjp.1 x).2 (.inr ((hjp2.1 x).2 (.inr h1)))) h2
         have hcv:vv.cells.toList.length=ls.length:=hcl
         have hnew:=hset x' _ _ (by simp;omega) mall hdk
         have hcells:(over arr.toList (boff+(k*sz+off)) vv.cells.toList).drop boff=
          over (arr.toList.drop boff) (k*sz) (seg.take off++vv.cells.toList++seg.drop (off+ls.length)):=by
          rw[←hseg]
          have hL:boff+k*sz+sz≤arr.toList.length:=by simp;omega
          generalize arr.toList=L at hL ⊢
          generalize vv.cells.toList=V at hcv ⊢
          exact b6X L V boff (k*sz) sz off ls.length hL hcv hle
         rw[←hcells] at hnew
         have hown:Af (fun x=>Z1 x∨w.heap.size≤x) η w' (.sl true j sz α f (xs.set k x')) (η j) (fun x=>x=b∨(((P1 x∨A2 x)∨P4 x)∨Bk x)):=by
          simp only[Af,Aj]
          refine⟨fun _=>trivial,some ⟨b,boff,none⟩,n0,c0,e,by simpa using hn,hc,.inl ⟨trivial,.inr ⟨b,boff,_,ty,_,rfl,hw.blk,?_,by simpa using hnew,⟨fun x=>Cg,fun x h1 h2=> ?_⟩⟩⟩⟩
          ·have:=VQ (l:=arr.toList) (off:=boff+(k*sz+off)) (cs:=vv.cells.toList) (by simp;omega)
           simp [this];omega
          ·simp only[one] at h1
           subst h1
           rcases h2 with((h2|h2)|h2)|h2
           ·exact hj1.2 x rfl (hAkS x ((hjp.1 x).2 (.inl h2)))
           ·exact hj.2 x hbA (ho.part x (.inl h2))
           ·exact hj1.2 x rfl (hAkS x ((hjp.1 x).2 (.inr ((hjp2.1 x).2 (.inr h2)))))
           ·exact hj1.2 x rfl ((hjk.1 x).2 (.inr h2))
         have hrr':=Dj (n:=s.nx) hzw (fun _ _=>rfl) _ _ _ ho.ids (fun x hx=>hg.old x (hlt x (hB1T x (ho.part x (.inr hx)))) (fun h=>hj.2 x h (ho.part x (.inr hx)))) ho.rel
         have hsub:∀x,(x=b∨(((P1 x∨A2 x)∨P4 x)∨Bk x))→(A1 x∨A2 x):=fun x hx=>by
          rcases hx with hx|((hx|hx)|hx)|hx
          ·exact .inl (hx▸hbA)
          ·exact .inl (hS1T x (hAkS x ((hjp.1 x).2 (.inl hx))))
          ·exact .inr hx
          ·exact .inl (hS1T x (hAkS x ((hjp.1 x).2 (.inr ((hjp2.1 x).2 (.inr hx))))))
          ·exact .inl (hS1T x ((hjk.1 x).2 (.inr hx)))
         have hfin:=JC hown r2 _ B2 (fun x=>(x=b∨(((P1 x∨A2 x)∨P4 x)∨Bk x))∨B2 x) r3 hrr' ⟨fun _=>Cg,fun x h1 h2=>(hsub x h1).elim (fun h=>hj.2 x h (ho.part x (.inr h2))) (fun h=>ho.dis x h h2)⟩ hpl
         refine⟨η,_,_,hi.next (A1:=A1) ho.zz (fun x h1 h2=>hB1T x (ho.gone x h1 h2)) hA1T hg rfl hfin (JD ?_ _ _ ho.ids hpl) (fun x hx=> ?_)⟩
         ·simp only[Az];intro _;exact q1
         ·have hx2:(A1 x∨A2 x)∨B2 x:=hx.imp (hsub x) id
          have hT:T x:=hx2.elim (fun h=>h.elim (hA1T x) (fun h=>hB1T x (ho.part x (.inl h)))) (fun h=>hB1T x (ho.part x (.inr h)))
          exact⟨.inl (hx2.elim (fun h=>h.elim (hA1Z1 x) (hA2Z1 x)) (hB2Z1 x)),.inl hT,Ev (hlt x hT) hg.size⟩
       ·cases ho'
      ·exact hk2.elim
     ·exact h.elim
    ·exact h.elim
   ·exact h.elim
  ·exact h.elim
 ·exact h.elim
theorem a7C{α β:Type}{P:Program}{w:World}{f:α→Sem β}{g:α→β}:∀(l:List α),(∀x∈l,(f x).run P w= .ok (g x) w)→(l.mapM f).run P w= .ok (l.map g) w
 |[],_=>by simp [Cy]
 |x::l,h=>by
  rw[List.mapM_cons,AC (h x (by simp)),AC (a7C l (fun y hy=>h y (by simp [hy])))];rfl
theorem b6Z{α β:Type}{f:α→Sem β}{g:α→β}(l:Array α)(h:∀x∈l.toList,(f x).run P w= .ok (g x) w):(l.mapM f).run P w= .ok (l.map g) w:=by
 rw[Array.mapM_eq_mapM_toList,map_eq_pure_bind,AC (a7C l.toList h)]
 simp only[Cy]
 congr 1;apply Oy;simp
def QZ(place:Nat→Option (Nat×Nat))(regs:List AV):List (Nat×Operand)→List AV→Option (List AV)
 |[],ls=>some ls
 |(i,x)::ps,ls=>match place i,Mf (Bj regs x) with
  |some (off,sz),some l=>match Nat.beq l.length sz,Nat.ble (off+sz) ls.length with
   |true,true=>QZ place regs ps (ls.take off++l++ls.drop (off+sz))
   |_,_=>none
  |_,_=>none
def b7a(P:Program)(fs:Array Field):Bool:=fs.toList.all fun f=>(P.info? f.type).isSome
def a1k(P:Program)(regs:List AV)(t:TypeId)(parts:List (Nat×Operand))(K:AV→Prop):Prop:=
 match P.info? t,P.underlying t with
 |some i,some (.struct fs)=>match i.zero,b7a P fs with
  |some z,true=>match QZ (QP P t) regs parts (z.cells.toList.map Jy) with
   |some ls=>K (.agg ls)
   |none=>False
  |_,_=>False
 |some i,some (.array _ e)=>match i.zero,P.info? e with
  |some z,some ie=>match QZ (fun k=>some (k*ie.size,ie.size)) regs parts (z.cells.toList.map Jy) with
   |some ls=>K (.agg ls)
   |none=>False
  |_,_=>False
 |_,_=>False
theorem b7b{t:TypeId}{f:Nat}{fs:Array Field}(hu:P.underlying t=some (.struct fs))(h:QP P t f=some (off,sz)):
 ∃fd i,fs[f]? =some fd∧fd.offset=off∧P.info? fd.type=some i∧i.size=sz:=by
 unfold QP at h
 rw[hu] at h
 simp only[] at h
 split at h
 ·rename_i fd hfd
  split at h
  ·rename_i i hi
   split at h
   ·cases h
   ·rename_i n hn
    simp only[AS,BM] at h
    exact⟨fd,i,hfd,h.1,hi,by omega⟩
  ·cases h
 ·cases h
theorem b7c{t:TypeId}{fs:Array Field}(hu:P.underlying t=some (.struct fs)){g:Field→Nat×Nat}(hg:∀fd∈fs.toList,∀i,P.info? fd.type=some i→g fd=(fd.offset,i.size))(i:Nat)(r:Nat×Nat)(h:QP P t i=some r):(fs.map g)[i]? =some r:=by
 obtain⟨off,sz⟩:=r
 obtain⟨fd,inf,hfd,hoff,hinf,hsz⟩:=b7b hu h
 simp only[Array.getElem?_map,hfd,Kj]
 have hmem:fd∈fs.toList:=by
  have:=Iv (l:=fs.toList) (i:=i) (a:=fd) (by simpa [Fi] using hfd)
  exact this
 rw[hg fd hmem inf hinf,hoff,hsz]
theorem a1l{place pl:Nat→Option (Nat×Nat)}(hp:∀i r,place i=some r→pl i=some r){regs:List AV}
 {Z:FP} {η:Nat→Value} {w:World} {n:Nat} {a:Act} {S:FP} (hR:Am Z η w regs a.tmps.toList S) (hI:AN n regs):
 ∀(ps:List (Nat×Operand)) (ls ls':List AV) (cells:Array Value),QZ place regs ps ls=some ls'→Am Z η w ls cells.toList (fun _=>False)→AN n ls→
 ∃cells',Instr.fill pl cells (ps.map fun p=>(p.1,a.eval p.2))=some cells'∧Am Z η w ls' cells'.toList (fun _=>False)∧AN n ls'
 |[],ls,ls',cells,h,hr,hi=>by
  simp only[QZ,AS] at h;subst h
  exact⟨cells,rfl,hr,hi⟩
 |(i,x)::ps,ls,ls',cells,h,hr,hi=>by
  unfold QZ at h
  split at h
  ·rename_i off sz l hf hl
   split at h
   ·rename_i hlen hle
    have hlen:=Cj hlen
    have hle:=HR hle
    obtain⟨q1,q2⟩:=VR (FQ hR x) hl
    have hvl:(a.eval x).cells.toList.length=sz:=by rw[GF _ _ _ q1];exact hlen
    have hcl:cells.toList.length=ls.length:=GF _ _ _ hr
    have hplace:pl i=some (off,sz):=hp i _ hf
    have hfold:=a0W [] (a.eval x).cells.toList 0 cells off (by simp at hcl hvl ⊢;omega)
    have hfe:((a.eval x).cells.zipIdx.foldl (fun cs (p:Value×Nat)=>cs.setIfInBounds (off+p.2) p.1) cells)=
     (((a.eval x).cells.toList.zipIdx 0).foldl (fun(a:Array Value) (p:Value×Nat)=>a.setIfInBounds (off+p.2) p.1) cells):=by
     rw[←Array.foldl_toList];simp
    rw[←hfe] at hfold
    have hnew:Am Z η w (ls.take off++l++ls.drop (off+sz)) (over cells.toList off (a.eval x).cells.toList) (fun _=>False):=by
     simp only[over]
     rw[hvl]
     exact Nv _ _ _ _ _ _ _ (Nv _ _ _ _ _ _ _ (Ts _ _ _ hr) q1 (Cu _)) (Tr _ _ _ hr) (Cu _)
    have happ:∀(l1 l2:List AV),AN n l1→AN n l2→AN n (l1++l2):=by
     intro l1
     induction l1 with
     |nil=>intro l2 _ h2;simpa using h2
     |cons x l1 ih=>intro l2 h1 h2;exact⟨h1.1,ih l2 h1.2 h2⟩
    obtain⟨cells',h1,h2,h3⟩:=a1l hp hR hI ps _ ls' ((a.eval x).cells.zipIdx.foldl (fun cs (p:Value×Nat)=>cs.setIfInBounds (off+p.2) p.1) cells) h
     (by rw[hfold];simpa using hnew) (happ _ _ (happ _ _ (QN _ _ hi) (a0Y (Iz hI x) hl)) (Ni _ _ hi))
    refine⟨cells',?_,h2,h3⟩
    simp only[En,Instr.fill,hplace]
    rw[if_neg (by simp at hvl hcl ⊢;omega)]
    exact h1
   ·cases h
  ·cases h
theorem b7d{regs:List AV}{t:TypeId}{parts:Array (Nat×Operand)}{K:AV→Prop}(h:a1k P regs t parts.toList K)
 (hR:Am Z η w regs a.tmps.toList S) (hI:AN n regs):POk P Z η w n (Instr.build t (parts.map fun p=>(p.1,a.eval p.2))) K:=by
 unfold a1k at h
 split at h
 ·rename_i i fs hi hu
  split at h
  ·rename_i z hz hfo
   split at h
   ·rename_i ls hls
    have hinfo:∀fd∈fs.toList,∃i,P.info? fd.type=some i:=by
     intro fd hfd
     have:=CC.1 hfo fd hfd
     exact Option.isSome_iff_exists.1 this
    let g:Field→Nat×Nat:=fun fd=>(fd.offset,((P.info? fd.type).map (·.size)).getD 0)
    obtain⟨cells',h1,h2,h3⟩:=a1l (b7c (g:=g) hu (fun fd hfd i hi=>by simp [g,hi])) hR hI parts.toList _ ls z.cells hls (Tp Z η w _) (Tq n _)
    refine⟨.agg cells',.agg ls,fun w _=> ?_,by simp only[Af];exact⟨_,by simp,h2⟩,by simp only[Az];exact h3,h⟩
    unfold Instr.build
    rw[AC (QH hi hz w),AC (DV hu w)]
    simp only[]
    have hm:(fs.mapM fun f=>do pure (f.offset,←sizeOf f.type):Sem (Array (Nat×Nat))).run P w= .ok (fs.map g) w:=by
     refine b6Z fs fun fd hfd=> ?_
     obtain⟨inf,hinf⟩:=hinfo fd hfd
     rw[AC (Hy hinf w)]
     simp [Cy,g,hinf]
    rw[AC hm]
    have:(parts.map fun p=>(p.1,a.eval p.2)).toList=parts.toList.map fun p=>(p.1,a.eval p.2):=by simp
    rw[this,h1];rfl
   ·exact h.elim
  ·exact h.elim
 ·rename_i i m e hi hu
  split at h
  ·rename_i z ie hz he
   split at h
   ·rename_i ls hls
    obtain⟨cells',h1,h2,h3⟩:=a1l (pl:=fun k=>some (k*ie.size,ie.size)) (fun _ _ h=>h) hR hI parts.toList _ ls z.cells hls (Tp Z η w _) (Tq n _)
    refine⟨.agg cells',.agg ls,fun w _=> ?_,by simp only[Af];exact⟨_,by simp,h2⟩,by simp only[Az];exact h3,h⟩
    unfold Instr.build
    rw[AC (QH hi hz w),AC (DV hu w)]
    simp only[]
    rw[AC (Hy he w)]
    have:(parts.map fun p=>(p.1,a.eval p.2)).toList=parts.toList.map fun p=>(p.1,a.eval p.2):=by simp
    rw[this,h1];rfl
   ·exact h.elim
  ·exact h.elim
 ·exact h.elim
def Wk:List AV→Nat
 |[]=>0
 |a::azs=>match a with
  | .clo (.func h) _=>h+1
  | .clo (.yield h) _=>h+1
  |_=>Wk azs
def a7D(Γ:FuncId→Nat→Option Sig)(g:FuncId)(dst:Option Nat)(k:Nat):Nat:=
 match dst with
 |some d=>match Γ g (1000000+d) with
  |some _=>1000000+d
  |none=>k
 |none=>k
def Ko(P:Program)(Γ:FuncId→Nat→Option Sig)(E:TypeId→Option ES)(ov:Bool)(o:Oper)(s:St)(K:St→Prop):Prop:=
 match o.op with
 | .alloc e=>match P.info? e with
   |some i=>match i.zero with
    |some z=>Wh s o.dst (QL z) K
    |none=>False
   |none=>False
 | .box _ x=>Wh s o.dst (Bj s.regs x) K
 | .build t parts=>a1k P s.regs t parts.toList fun r=>K ⟨setR s.regs o.dst r,s.nx⟩
 | .buildSlice t len parts=>a0Z P E s o.dst t len parts.toList K
 | .makeSlice t l c=>a1a P E s o.dst t (Bj s.regs l) (Bj s.regs c) K
 | .store t p v=>match o.dst with
   |none=>a1g P s t (Bj s.regs p) (Bj s.regs v) K
   |some _=>False
 | .call ⟨.value f,args,ts⟩=>match Bj s.regs f with
   | .clo (.func g) caps=>match Γ g (a7D Γ g o.dst (Wk (args.toList.map (Bj s.regs)++caps))) with
     |some S=>TD S s o.dst (args.toList.map (Bj s.regs)++caps) K
     |none=>False
   | .clo (.yield g) caps=>match args.toList with
     |[]=>match Γ g (a7D Γ g o.dst (Wk caps)) with
      |some S=>TD S s o.dst caps K
      |none=>False
     |_=>False
   |_=>False
 | .call ⟨.builtin .append,args,ts⟩=>match args.toList with
   |[x,y]=>a1f P E s o.dst ts (Bj s.regs x) (Bj s.regs y) K
   |_=>False
 | .slice t x lo hi none=>match Bj s.regs x with
   | .al id=>a0V P s o.dst t id (lo.map (Bj s.regs)) (hi.map (Bj s.regs)) K
   |_=>EI P ov s.regs (.slice t x lo hi none) fun r=>K ⟨setR s.regs o.dst r,s.nx⟩
 |op=>EI P ov s.regs op fun r=>K ⟨setR s.regs o.dst r,s.nx⟩
def TH(C:Ctx)(K:St→Prop)(a:Act)(dst:Option Nat)(a':Act)(w':World):Prop:=∃s',K s'∧Rel C s' a' w'∧∃v,a'=a.put dst v
theorem a1m{Γ:FuncId→Nat→Option Sig}(hΓ:∀f k S,Γ f k=some S→Eb C.G P f S){E:TypeId→Option ES}{ov:Bool}{o:Oper}(h:Ko P Γ E ov o s K)
   (hr:Rel C s a w) (Q:Exit→Act→World→Prop):o.wp P a w (TH C K a o.dst) Q:=by
  obtain⟨η,Z,T,hi⟩:=hr
  have hop:=FQ hi.rel
  have hid:=Iz hi.ids
  have lift:∀ {sm:Sem Value},(∃u w' s',sm.run P w= .ok u w'∧K s'∧Rel C s' (a.put o.dst u) w')→(execOp a.eval o=do pure (.value (←sm)))→o.wp P a w (TH C K a o.dst) Q:=by
   intro sm hs he
   obtain⟨u,w',s',h1,h2,h3⟩:=hs
   unfold Oper.wp
   rw[he,Hz h1]
   exact⟨s',h2,h3,u,rfl⟩
  have liftP:(∃v r,(∀w',Sees w w'→(execOp a.eval o).run P w'= .ok (.value v) w')∧Af Z η w r v (fun _=>False)∧Az s.nx r∧K ⟨setR s.regs o.dst r,s.nx⟩)→o.wp P a w (TH C K a o.dst) Q:=by
   rintro⟨v,r,h1,h2,h3,h4⟩
   unfold Oper.wp
   rw[h1 w (Sees.refl w)]
   exact⟨_,h4,hi.put o.dst h2 h3,v,rfl⟩
  unfold Ko at h
  split at h
  all_goals rename_i heq
  ·rename_i e
   split at h
   ·rename_i i hinf
    split at h
    ·rename_i z hz
     have:=a7r (P:=P) h hi (a6M Z η w z) (a6O _ z) e
     obtain⟨u,w',s',h1,h2,h3⟩:=this
     refine lift (sm:=Instr.alloc e true (.tuple #[])) ⟨u,w',s',?_,h2,h3⟩ (by simp [execOp,heq])
     unfold Instr.alloc
     rw[AC (QH hinf hz w)]
     exact h1
    ·exact h.elim
   ·exact h.elim
  ·rename_i e x
   exact lift (sm:=Instr.box e (a.eval x)) (a7r h hi (hop x) (hid x) e) (by simp [execOp,heq])
  ·rename_i t parts
   have:=b7d (a:=a) h hi.rel hi.ids
   obtain⟨v,r,h1,h2,h3,h4⟩:=this
   refine liftP ⟨v,r,fun w' hw'=> ?_,h2,h3,h4⟩
   have he:execOp a.eval o=(do pure (.value (←Instr.build t (parts.map fun p=>(p.1,a.eval p.2))))):=by simp [execOp,heq]
   rw[he];exact Hz (h1 w' hw')
  ·rename_i t len parts
   exact lift (b6Q (a:=a) h hi) (by simp [execOp,heq])
  ·rename_i t l c
   exact lift (b6S h hi (hop l) (hop c)) (by simp [execOp,heq])
  ·rename_i t p v
   split at h
   ·rename_i hdst
    obtain⟨w',s',h1,h2,h3⟩:=b6Y h hi (hop p) (hop v) (hid v)
    unfold Oper.wp
    have he:execOp a.eval o=(do Instr.storeAt t (a.eval p) (a.eval v);pure .skip):=by simp [execOp,heq]
    rw[he,AC h1]
    refine⟨s',h2,?_,undef,rfl⟩
    rw[hdst];exact h3
   ·exact h.elim
  ·rename_i f args ts
   split at h
   ·rename_i g caps hf
    split at h
    ·rename_i S hS
     have hc:=hΓ g _ S hS
     have hfv:=hop f
     have hfi:=hid f
     rw[hf] at hfv hfi
     simp only[Af] at hfv
     simp only[Az] at hfi
     obtain⟨cs,hfe,hcs⟩:=hfv
     have hargs:=Nv _ _ _ _ _ _ _ (Ty (a:=a) hi.rel args.toList) hcs (Cu _)
     have happ:∀(l1 l2:List AV),AN s.nx l1→AN s.nx l2→AN s.nx (l1++l2):=by
      intro l1
      induction l1 with
      |nil=>intro l2 _ h2;simpa using h2
      |cons x l1 ih=>intro l2 h1 h2;exact⟨h1.1,ih l2 h1.2 h2⟩
     have hcall:=a7q hc h hi hargs (happ _ _ (Tz hi.ids args.toList) hfi)
     obtain⟨⟨⟨fn,hfn,hnm,hbody⟩,_⟩,_⟩:=hc
     unfold Oper.wp
     have he:(execOp a.eval o).run P w= .ok (.enter g (args.toList.map a.eval++cs).toArray) w:=by
      simp only[execOp,heq,resolve,hfe,HS,Deferred.ofValue]
      rw[AC (Cy P _ w)]
      simp only[invoke,callFunc,program]
      rw[AC (x:=P) (w':=w) rfl]
      simp only[hfn,hnm,Bl,Br,hbody]
      simp only[Cy]
      congr 2
      apply Oy;simp
     rw[he,Oper.upon_enter]
     refine hcall.mono ?_
     rintro e w' ⟨v,s',rfl,h2,h3⟩
     exact⟨s',h2,h3,v,rfl⟩
    ·exact h.elim
   ·rename_i g caps hf
    split at h
    rotate_left
    ·exact h.elim
    rename_i hargs0
    have hargs0:=JB hargs0
    split at h
    ·rename_i S hS
     have hc:=hΓ g _ S hS
     have hfv:=hop f
     have hfi:=hid f
     rw[hf] at hfv hfi
     simp only[Af] at hfv
     simp only[Az] at hfi
     obtain⟨cs,hfe,hcs⟩:=hfv
     have hcall:=a7q hc h hi hcs hfi
     obtain⟨⟨⟨fn,hfn,hnm,hbody⟩,_⟩,_⟩:=hc
     unfold Oper.wp
     have he:(execOp a.eval o).run P w= .ok (.enter g cs.toArray) w:=by
      simp only[execOp,heq,hargs0,resolve,hfe,HS,Deferred.ofValue]
      rw[AC (Cy P _ w)]
      simp only[invoke,callFunc,program]
      rw[AC (x:=P) (w':=w) rfl]
      simp only[hfn,hnm,Bl,Br,hbody]
      simp only[Cy]
      congr 2
      apply Oy;simp
     rw[he,Oper.upon_enter]
     refine hcall.mono ?_
     rintro e w' ⟨v,s',rfl,h2,h3⟩
     exact⟨s',h2,h3,v,rfl⟩
    ·exact h.elim
   ·exact h.elim
  ·rename_i args ts
   split at h
   ·rename_i x y hf
    have hf:=JB hf
    exact lift (b6W (ty:=o.type) h hi (hop x) (hop y)) (by simp [execOp,heq,hf,resolve,invoke,builtin])
   ·exact h.elim
  ·rename_i t x lo hi2
   split at h
   ·rename_i id hx
    have hxr:=hop x
    rw[hx] at hxr
    have opt:∀y:Option Operand,(∀a1,y.map (Bj s.regs)=some a1→∃v,y.map a.eval=some v∧Af Z η w a1 v (fun _=>False))∧(y.map (Bj s.regs)=none→y.map a.eval=none):=by
     intro y
     cases y with
     |none=>exact⟨fun a1 h=>by simp at h,fun _=>rfl⟩
     |some y=>exact⟨fun a1 h=>by simp at h;subst h;exact⟨_,rfl,hop y⟩,fun h=>by simp at h⟩
    exact lift (sm:=Instr.sliceAt t (a.eval x) (lo.map a.eval) (hi2.map a.eval) none) (b6P h hi hxr (opt lo).1 (opt lo).2 (opt hi2).1 (opt hi2).2) (by simp [execOp,heq])
   ·rw[←heq] at h
    exact liftP (a0K h hi.rel hi.ids)
  ·exact liftP (a0K h hi.rel hi.ids)
def Ll:AV→Bool
 | .int _ _=>true
 | .bool _=>true
 | .str _=>true
 |_=>false
def GH:AV→Value
 | .int k n=> .int k n
 | .bool b=> .bool b
 | .str l=> .string ⟨l.toArray⟩
 |_=>undef
def Ra:List AV→Bool
 |[]=>true
 |a::l=>match Ll a with
  |true=>Ra l
  |false=>false
def TI:AV→Bool
 | .int _ _=>true
 | .bool _=>true
 | .str _=>true
 | .tup fs=>Ra fs
 |_=>false
def scV:AV→Value
 | .int k n=> .int k n
 | .bool b=> .bool b
 | .str l=> .string ⟨l.toArray⟩
 | .tup fs=> .tuple (fs.map GH).toArray
 |_=>undef
theorem a7E(h:Aj Z w r v S)(hs:Ll r=true):v=GH r:=by
 cases r<;>simp only[Ll,Bl] at hs<;>simp only[Aj] at h<;>exact h.1
theorem Wl(hs:Ll r=true)(Z:FP)(η:Nat→Value)(w:World)(n:Nat):Af Z η w r (GH r) (fun _=>False)∧Az n r:=by
 cases r<;>simp only[Ll,Bl] at hs<;>exact⟨⟨rfl,AI⟩,trivial⟩
theorem a7F{Z:FP}{w:World}:∀ {fs:List AV} {cs:List Value} {S:FP},AU Z w fs cs S→Ra fs=true→cs=fs.map GH
 |[],cs,S,h,_=>by simp only[AU] at h;exact h.1
 |a::l,cs,S,h,hs=>by
  unfold Ra at hs
  split at hs
  ·rename_i ha
   simp only[AU] at h
   obtain⟨v,cs',A,B,rfl,_,h1,h2⟩:=h
   rw[a7E h1 ha,a7F h2 hs];rfl
  ·cases hs
theorem a7G(Z:FP)(η:Nat→Value)(w:World)(n:Nat):∀ {fs:List AV},Ra fs=true→Am Z η w fs (fs.map GH) (fun _=>False)∧AN n fs
 |[],_=>⟨⟨rfl,AI⟩,trivial⟩
 |a::l,hs=>by
  unfold Ra at hs
  split at hs
  ·rename_i ha
   have h1:=Wl ha Z η w n
   have h2:=a7G Z η w n hs
   exact⟨⟨_,_,_,_,rfl,Cu _,h1.1,h2.1⟩,h1.2,h2.2⟩
  ·cases hs
theorem b7e(h:Aj Z w r v S)(hs:TI r=true):v=scV r:=by
 cases r<;>simp only[TI,Bl] at hs<;>simp only[Aj] at h
 case tup fs=>
  obtain⟨cs,e,h⟩:=h
  rw[e,a7F h hs];rfl
 all_goals exact h.1
theorem a7H(hs:TI r=true)(Z:FP)(η:Nat→Value)(w:World)(n:Nat):Af Z η w r (scV r) (fun _=>False)∧Az n r:=by
 cases r<;>simp only[TI,Bl] at hs
 case tup fs=>
  have:=a7G Z η w n hs
  exact⟨⟨_,rfl,this.1⟩,this.2⟩
 all_goals exact⟨⟨rfl,AI⟩,trivial⟩
def a1n:AV→AV→Prop
 | .int k n,b=>match b with
   | .int k' m=>match OG k k' with
     |true=>n=m
     |false=>False
   |_=>False
 | .bool x,b=>match b with
   | .bool y=>x=y
   |_=>False
 | .str x,b=>match b with
   | .str y=>x=y
   |_=>False
 |_,_=>False
theorem b7f{a b:AV}(h:a1n a b):a=b:=by
 unfold a1n at h
 split at h
 ·split at h
  ·split at h
   ·rename_i hk;rw[Tt hk,h]
   ·exact h.elim
  ·exact h.elim
 ·split at h
  ·rw[h]
  ·exact h.elim
 ·split at h
  ·rw[h]
  ·exact h.elim
 ·exact h.elim
theorem Inst.put'(h:Inst C s a w η Z S)(d:Nat)
 (hr:Af Z η w r v (fun _=>False)) (hi:Az s.nx r):∃S',Inst C ⟨s.regs.set d r,s.nx⟩ (a.put (some d) v) w η Z S':=by
 obtain⟨S',hs,hr'⟩:=Tm h.rel d hr
 exact⟨S',⟨by rw[QK];exact h.defers,by rw[QJ];exact hr',Iy _ _ _ h.ids hi,fun b hb=>h.own b (hs b hb),h.ok⟩⟩
def a7I(S:Sig)(s:St)(id k off d d1:Nat)(dst:Option Nat)(sc:AV)(regs2:List AV)(sz:Nat)(K:St→Prop):Prop:=
 match EY id regs2 with
 |some (.sl true j sz' α f xs,r1)=>match Nat.beq sz sz',Ll sc with
  |true,true=>k<xs.length∧∀z,xs[k]? =some z→match(f z)[off]? with
   |some (.sl true i0 sa β ga l)=>∃x,S.pre x∧match S.args x with
    |[.sl true i1 sb γ gb m,e1]=>AV.sl true 0 sa β ga l=AV.sl true 0 sb γ gb m∧a1n sc e1∧∀y,S.post x y→match Ll (S.res x y),S.outs x y with
     |true,[.sl true i2 sd δ gd l',.top]=>∃z':α,f z'=(f z).set off (.sl true i2 sd δ gd l')∧
       match Fy id (.sl true j sz' α f (xs.set k z')) (setR r1 dst (S.res x y)) with
       |some r2=>K ⟨r2,s.nx⟩
       |none=>False
     |_,_=>False
    |_=>False
   |_=>False
  |_,_=>False
 |_=>False
def a1o(P:Program)(Γ:FuncId→Nat→Option Sig)(o o1 o2:Oper)(s:St)(K:St→Prop):Prop:=
 match o.op,o.dst,o1.op,o1.dst with
 | .load t (.tmp p),some d,.move x1,some d1=>match o2.op with
   | .call ⟨.value (.func g),args,ts⟩=>match args.toList with
     |[.tmp e,.tmp e1]=>match Nat.beq e d,Nat.beq e1 d1,Nat.beq d d1|| !(Nat.blt d s.regs.length&&Nat.blt d1 s.regs.length) with
      |true,true,false=>match P.underlying t with
       |some (.slice _)=>match Γ g 0 with
        |some S=>match S.caps with
         |[]=>match s.regs[p]? with
          |some (.po id k sz off)=>a7I S s id k off d d1 o2.dst (Bj (s.regs.set d .any) x1) ((s.regs.set d .any).set d1 (Bj (s.regs.set d .any) x1)) sz K
          |_=>False
         |_::_=>False
        |none=>False
       |_=>False
      |_,_,_=>False
     |_=>False
   |_=>False
 |_,_,_,_=>False
def a7J(P:Program)(Γ:FuncId→Nat→Option Sig)(o o1 o2:Oper):Bool:=
 match o.op,o.guard,o1.guard,o2.guard with
 | .load t _,none,none,none=>match P.underlying t with
   |some (.slice _)=>match o2.op with
    | .call ⟨.value (.func g),args,ts⟩=>match Γ g 0 with
      |some S=>match S.fixed with
       |[0]=>true
       |_=>false
      |none=>false
    |_=>false
   |_=>false
 |_,_,_,_=>false
theorem a7K{α:Type _}{l:List α}{e:α}(h:l[n]? =some e):l.drop n=e::l.drop (n+1):=by
 obtain⟨h1,h2⟩:=DT.1 h
 rw[←h2];exact Gh h1
theorem set_eq{α:Type _}{l:List α}{e e':α}(h:l[n]? =some e):l.set n e'=l.take n++e'::l.drop (n+1):=by
 obtain⟨h1,h2⟩:=DT.1 h
 exact List.set_eq_take_append_cons_drop .. |>.trans (by rw[if_pos h1])
theorem a1p{α:Type}{sz:Nat}{R:α→List Value→FP→Prop}:∀(xs:List α) (cs:List Value) (S:FP) (k:Nat) (x:α),Rows sz R xs cs S→xs[k]? =some x→
 ∃A B,Bm S A B∧R x ((cs.drop (k*sz)).take sz) A∧k*sz+sz≤cs.length∧
  ∀R':α→List Value→FP→Prop,(∀y cs A,(∀b,A b→B b)→R y cs A→R' y cs A)→
  ∀x' seg' A',seg'.length=sz→R' x' seg' A'→(∀b,A' b→¬B b)→Rows sz R' (xs.set k x') (over cs (k*sz) seg') (fun b=>A' b∨B b)
 |[],cs,S,k,x,h,hk=>by simp at hk
 |y::xs,cs,S,0,x,h,hk=>by
  simp at hk;subst hk
  obtain⟨A,B,hj,hl,h1,h2⟩:=h
  refine⟨A,B,hj,by simpa using h1,by simp at hl ⊢;omega,fun R' hR x' seg' A' hs hr hd=> ?_⟩
  simp only[List.set_cons_zero,Rows]
  refine⟨A',B,⟨fun _=>Cg,fun b p q=>hd b p q⟩,?_,?_,?_⟩
  ·simp [over,hs]
  ·simp only[over,OC,Qz,Hr]
   rw[Ix (by omega),EH (by omega)];exact hr
  ·simp only[over,OC,Qz,Hr,Nat.zero_add]
   rw[Lc (by omega),EG (by omega)]
   have h3:=Lh xs _ B (fun x cs A hA hx=>hR x cs A hA hx) h2
   simpa [hs] using h3
 |y::xs,cs,S,k+1,x,h,hk=>by
  obtain⟨A,B,hj,hl,h1,h2⟩:=h
  obtain⟨A2,B2,hj2,hr,hlen,hset⟩:=a1p xs (cs.drop sz) B k x h2 (by simpa using hk)
  have hsl:sz≤cs.length:=by simp at hl;omega
  have e:(k+1)*sz=sz+k*sz:=by rw[Hs];omega
  refine⟨A2,fun b=>A b∨B2 b,⟨fun b=> ?_,fun b p q=> ?_⟩,?_,?_,fun R' hR x' seg' A' hs hr' hd=> ?_⟩
  ·rw[hj.1 b,hj2.1 b];exact⟨fun h=>h.elim (fun h=> .inr (.inl h)) (fun h=>h.elim .inl (fun h=> .inr (.inr h))),fun h=>h.elim (fun h=> .inr (.inl h)) (fun h=>h.elim .inl (fun h=> .inr (.inr h)))⟩
  ·exact q.elim (fun q=>hj.2 b q ((hj2.1 b).2 (.inl p))) (fun q=>hj2.2 b p q)
  ·rw[e,←Dv];exact hr
  ·rw[e];simp at hlen;omega
  ·have:=hset R' (fun y cs A hA hx=>hR y cs A (fun b hb=> .inr (hA b hb)) hx) x' seg' A' hs hr' (fun b p q=>hd b p (.inr q))
   simp only[List.set_cons_succ,Rows]
   have hov:over cs (sz+k*sz) seg'=cs.take sz++over (cs.drop sz) (k*sz) seg':=by
    simp only[over]
    rw[List.take_add,Dv]
    simp only[Bz]
    congr 4;omega
   rw[e,hov]
   refine⟨A,fun b=>A' b∨B2 b,⟨fun b=> ?_,fun b p q=> ?_⟩,?_,?_,?_⟩
   ·exact⟨fun h=>h.elim (fun h=> .inr (.inl h)) (fun h=>h.elim .inl (fun h=> .inr (.inr h))),fun h=>h.elim (fun h=> .inr (.inl h)) (fun h=>h.elim .inl (fun h=> .inr (.inr h)))⟩
   ·exact q.elim (fun q=>hd b q (.inl p)) (fun q=>hj.2 b p ((hj2.1 b).2 (.inr q)))
   ·rw[Ix (by simp;omega)];simp;omega
   ·rw[Ix (by simp;omega),EH (by simp;omega)];exact hR _ _ _ (fun b hb=> .inl hb) h1
   ·rw[Lc (by simp;omega),EG (by simp;omega)];simpa using this
theorem b7g(cs:List Value)(n sz:Nat)(h:n+sz≤cs.length):over cs n ((cs.drop n).take sz)=cs:=by
 unfold over
 have:((cs.drop n).take sz).length=sz:=by simp;omega
 rw[this,←Dv,Bz,Fw,Fw]
theorem a1q{id j:Nat}{α:Type}{f:α→List AV}{xs:List α}{A:FP}(h:Af Z η w (.sl true j sz α f xs) (η id) A)(hji:j=id)
 {k:Nat} {z:α} {c:AV} (hz:xs[k]? =some z) (hc:(f z)[off]? =some c):
 ∃b boff arr ty v Ac Ar,Gk (η id)=⟨b,boff,none⟩∧w.heap[b]? =some (.cells arr ty (0,0))∧arr.toList[boff+(k*sz+off)]? =some v∧Aj Z w c v Ac∧Bm A Ac Ar∧
  ∀(Z':FP) (η':Nat→Value) (w':World) (o':AV) (z':α) (Ac':FP),η' id=η id→(∀x,Ar x→w'.heap[x]? =w.heap[x]?)→(∀b,¬Z b→b<w.heap.size→¬Z' b∧w'.heap[b]? =w.heap[b]?)→
   Aj Z' w' o' v Ac'→(∀x,Ac' x→¬Ar x)→f z'=(f z).set off o'→∃A',Bm A' Ac' Ar∧Af Z' η' w' (.sl true j sz α f (xs.set k z')) (η' id) A':=by
 subst hji
 simp only[Af,Aj] at h
 obtain⟨_,ad0,n0,c0,hη,hn0,hc0,hrow0⟩:=h
 rcases hrow0 with⟨_,hrow0⟩|⟨hx,_⟩
 rotate_left
 ·cases hx
 have hk:k<xs.length:=(DT.1 hz).1
 rcases hrow0 with⟨_,hcz,_⟩|⟨b,boff,arr,ty,S1,hab,hb,hfit,hrows,hjb⟩
 ·omega
 subst hab
 obtain⟨A2,B2,hj2,hR,hle,hset⟩:=a1p xs _ S1 k z hrows hz
 obtain⟨A3,A4,hj3,hl3,hl4⟩:=TF off _ _ _ hR
 rw[a7K hc] at hl4
 simp only[AU] at hl4
 obtain⟨v,cs',A5,A6,hseg,hj5,hv5,hl6⟩:=hl4
 have hcell:arr.toList[boff+(k*sz+off)]? =some v:=by
  have h1:((((arr.toList.drop boff).drop (k*sz)).take sz).drop off)[0]? =some v:=by rw[hseg];rfl
  rw[It,List.getElem?_take] at h1
  split at h1
  ·rw[It,It] at h1;simpa [QA] using h1
  ·cases h1
 let Ar:FP:=fun x=>x=b∨A3 x∨A6 x∨B2 x
 have hAr:Bm A A5 Ar:=by
  refine⟨fun x=> ?_,fun x p q=> ?_⟩
  ·rw[hjb.1 x,hj2.1 x,hj3.1 x,hj5.1 x]
   simp only[Ar,one]
   constructor
   ·rintro(h|(h|(h|h))|h)
    ·exact .inr (.inl h)
    ·exact .inr (.inr (.inl h))
    ·exact .inl h
    ·exact .inr (.inr (.inr (.inl h)))
    ·exact .inr (.inr (.inr (.inr h)))
   ·rintro(h|h|h|h|h)
    ·exact .inr (.inl (.inr (.inl h)))
    ·exact .inl h
    ·exact .inr (.inl (.inl h))
    ·exact .inr (.inl (.inr (.inr h)))
    ·exact .inr (.inr h)
  ·have p4:A4 x:=(hj5.1 x).2 (.inl p)
   have p2:A2 x:=(hj3.1 x).2 (.inr p4)
   rcases q with q|q|q|q
   ·exact hjb.2 x q ((hj2.1 x).2 (.inl p2))
   ·exact hj3.2 x q p4
   ·exact hj5.2 x p q
   ·exact hj2.2 x p2 q
 refine⟨b,boff,arr,ty,v,A5,Ar,by rw[hη];rfl,hb,hcell,hv5,hAr,?_⟩
 intro Z' η' w' o' z' Ac' hη' hw hZ ho hdis hf
 have hb':w'.heap[b]? =some (.cells arr ty (0,0)):=by rw[hw b (.inl rfl)];exact hb
 have hA3':=Ea hZ _ _ A3 (fun x hx=>hw x (.inr (.inl hx))) hl3
 have hA6':=Ea hZ _ _ A6 (fun x hx=>hw x (.inr (.inr (.inl hx)))) hl6
 have hseg2:((arr.toList.drop boff).drop (k*sz)).take sz=(((arr.toList.drop boff).drop (k*sz)).take sz).take off++v::cs':=by
  rw[←hseg,Fw]
 have hnew:AU Z' w' (f z') (((arr.toList.drop boff).drop (k*sz)).take sz) (fun x=>A3 x∨(Ac' x∨A6 x)):=by
  rw[hf,set_eq hc,hseg2]
  have hd1:Bm (fun x=>Ac' x∨A6 x) Ac' A6:=⟨fun _=>Cg,fun x p q=>hdis x p (.inr (.inr (.inl q)))⟩
  refine TG _ _ _ _ A3 (fun x=>Ac' x∨A6 x) _ hA3' ?_ ⟨fun _=>Cg,fun x p q=>q.elim (fun q=>hdis x q (.inr (.inl p))) (fun q=>hj3.2 x p ((hj5.1 x).2 (.inr q)))⟩
  simp only[AU]
  exact⟨v,cs',Ac',A6,rfl,hd1,ho,hA6'⟩
 have hlen:(((arr.toList.drop boff).drop (k*sz)).take sz).length=sz:=by simp at hle ⊢;omega
 have hrows':=hset (fun x cs A=>AU Z' w' (f x) cs A) (fun y cs A hA hx=>Ea hZ _ _ A (fun x hx=>hw x (.inr (.inr (.inr (hA x hx))))) hx) z' _ _ hlen hnew
  (fun x p q=>by
    rcases p with p|p|p
    ·exact hj2.2 x ((hj3.1 x).2 (.inl p)) q
    ·exact hdis x p (.inr (.inr (.inr q)))
    ·exact hj2.2 x ((hj3.1 x).2 (.inr ((hj5.1 x).2 (.inr p)))) q)
 rw[b7g _ _ _ hle] at hrows'
 refine⟨fun x=>Ac' x∨Ar x,⟨fun _=>Cg,hdis⟩,?_⟩
 simp only[Af,Aj]
 refine⟨fun _=>trivial,some ⟨b,boff,none⟩,n0,c0,by rw[hη',hη],by simpa using hn0,hc0,.inl ⟨trivial,.inr ⟨b,boff,arr,ty,_,rfl,hb',hfit,hrows',?_⟩⟩⟩
 refine⟨fun x=> ?_,fun x p q=> ?_⟩
 ·simp only[Ar,one]
  constructor
  ·rintro(h|h|h|h|h)
   ·exact .inr (.inl (.inr (.inl h)))
   ·exact .inl h
   ·exact .inr (.inl (.inl h))
   ·exact .inr (.inl (.inr (.inr h)))
   ·exact .inr (.inr h)
  ·rintro(h|(h|h|h)|h)
   ·exact .inr (.inl h)
   ·exact .inr (.inr (.inl h))
   ·exact .inl h
   ·exact .inr (.inr (.inr (.inl h)))
   ·exact .inr (.inr (.inr (.inr h)))
 ·have p:x=b:=p
  subst p
  have nb:∀y,S1 y→y≠x:=fun y hy e=>hjb.2 y (by rw[e];rfl) hy
  rcases q with(q|q|q)|q
  ·exact nb x ((hj2.1 x).2 (.inl ((hj3.1 x).2 (.inl q)))) rfl
  ·exact hdis x q (.inl rfl)
  ·exact nb x ((hj2.1 x).2 (.inl ((hj3.1 x).2 (.inr ((hj5.1 x).2 (.inr q)))))) rfl
  ·exact nb x ((hj2.1 x).2 (.inr q)) rfl
theorem b7h{Γ:FuncId→Nat→Option Sig}(hΓ:∀f k S,Γ f k=some S→Eb C.G P f S){o o1 o2:Oper}(h:a1o P Γ o o1 o2 s K)
   (hr:Rel C s a w) (Q:Exit→Act→World→Prop):
   ∃v v1,(execOp a.eval o).run P w= .ok (.value v) w∧(execOp (a.put o.dst v).eval o1).run P w= .ok (.value v1) w∧
    o2.wp P ((a.put o.dst v).put o1.dst v1) w (TH C K ((a.put o.dst v).put o1.dst v1) o2.dst) Q:=by
  unfold a1o at h
  split at h
  rotate_left
  ·exact h.elim
  rename_i t p d x1 d1 hop hdst hop1 hdst1
  split at h
  rotate_left
  ·exact h.elim
  rename_i g args ts hop2
  split at h
  rotate_left
  ·exact h.elim
  rename_i e e1 hargs
  have hargs:=JB hargs
  split at h
  rotate_left
  ·exact h.elim
  rename_i he he1 hdd
  have he:=Cj he;have he1:=Cj he1;simp only[Bool.or_eq_false_iff,Bool.not_eq_false',AY] at hdd
  obtain⟨hdd,hbl1,hbl2⟩:=hdd
  have hdd:=QB hdd
  have hbl1:=Nat.lt_of_succ_le (HR hbl1);have hbl2:=Nat.lt_of_succ_le (HR hbl2)
  subst he;subst he1
  split at h
  rotate_left
  ·exact h.elim
  rename_i et hu
  split at h
  rotate_left
  ·exact h.elim
  rename_i S hS
  have hc:=hΓ g _ S hS
  split at h
  rotate_left
  ·exact h.elim
  rename_i hcap0
  split at h
  rotate_left
  ·exact h.elim
  rename_i id k sz off hreg
  unfold a7I at h
  split at h
  rotate_left
  ·exact h.elim
  rename_i j sz' α f xs r1 htake
  split at h
  rotate_left
  ·exact h.elim
  rename_i hsz hsc
  have hsz:=Cj hsz
  subst hsz
  obtain⟨hk,h⟩:=h
  have hz:xs[k]? =some xs[k]:=by simp
  have h:=h _ hz
  generalize hzz:xs[k]=z at h hz
  obtain⟨η,Z,T,hi⟩:=hr
  obtain⟨pv,Ap,Bp,hpv,hpr,_⟩:=Gl s.regs _ T p _ hi.rel hreg
  simp only[Af] at hpr
  have hep:a.eval (.tmp p)=pv:=by
   have:a.tmps[p]? =some pv:=by rw[←Fi,hpv]
   simp [Act.eval,Jr,this]
  generalize hsca:Bj (s.regs.set e .any) x1=sc at h hsc htake
  have both:∀v,Dm v→∃S2,Inst C ⟨(s.regs.set e .any).set e1 sc,s.nx⟩ ((a.put (some e) v).put (some e1) (GH sc)) w η Z S2∧(a.put (some e) v).eval x1=GH sc:=by
   intro v hv
   obtain⟨S1,h1⟩:=hi.put' e (r:= .any) (v:=v) (by simp only[Af,Aj];exact⟨hv,AI⟩) trivial
   have h2:=FQ h1.rel x1
   rw[hsca] at h2
   have h3:(a.put (some e) v).eval x1=GH sc:=by
    cases sc<;>simp only[Ll,Bl] at hsc<;>simp only[Af,Aj] at h2<;>exact h2.1
   obtain⟨S2,h4⟩:=h1.put' e1 (Wl hsc Z η w s.nx).1 (Wl hsc Z η w s.nx).2
   exact⟨S2,h4,h3⟩
  split at h
  rotate_left
  ·exact h.elim
  rename_i i0 sa β ga l hfz
  obtain⟨x,hpre,h⟩:=h
  split at h
  rotate_left
  ·exact h.elim
  rename_i i1 sb γ gb m ea hSargs
  obtain⟨heq1,heq2,h⟩:=h
  have heq2:=b7f heq2
  obtain⟨T0,h0,_⟩:=both (.bool false) trivial
  obtain⟨A0,B0,hj0,hown0,ho0,_⟩:=Gn _ _ T0 _ _ h0.rel htake
  obtain⟨b,boff,arr,ty,v,_,_,hbase,hb,hcell,hvrel,_,_⟩:=a1q ho0 hown0 hz hfz
  have hvc:Dm v:=OE hvrel
  refine⟨v,GH sc,?_,?_,?_⟩
  ·have hl:(Instr.loadAt t (.pointer (some ⟨b,boff+(k*sz+off),none⟩))).run P w= .ok v w:=by
    show(loadVar t ⟨b,boff+(k*sz+off),none⟩).run P w= .ok v w
    simp only[loadVar]
    rw[AC (Kk hu w)]
    simp only[Jw,Bl,Br]
    refine To ?_
    have:=QI (off:=boff+(k*sz+off)) hb
    unfold ad at this
    rw[this]
    simpa [Fi] using hcell
   have:a.eval (.tmp p)= .pointer (some ⟨b,boff+(k*sz+off),none⟩):=by
    rw[hep,hpr.1,hbase]
   have he:execOp a.eval o=(do pure (.value (←Instr.loadAt t (a.eval (.tmp p))))):=by simp [execOp,hop]
   rw[he,this]
   exact Hz hl
  ·rw[hdst]
   have:=(both v hvc).choose_spec.2
   simp [execOp,hop1,this]
  rw[hdst,hdst1]
  obtain⟨T2,h2,_⟩:=both v hvc
  have hlen2:=GF _ _ _ h2.rel
  have htk:=Gn _ _ T2 _ _ h2.rel htake
  have htki:=Hb _ _ _ h2.ids htake
  generalize ha2:(a.put (some e) v).put (some e1) (GH sc)=a2 at h2 htk hlen2 ⊢
  obtain⟨A,B,hj,hown,ho,hr1⟩:=htk
  obtain⟨b',boff',arr',ty',v',Ac,Ar,hbase',hb',hcell',hvrel',hjc,hput⟩:=a1q ho hown hz hfz
  rw[hbase] at hbase'
  simp only[Addr.mk.injEq] at hbase'
  obtain⟨rfl,rfl,_⟩:=hbase'
  rw[hb] at hb'
  simp only[AS,Obj.cells.injEq] at hb'
  obtain⟨rfl,rfl,_⟩:=hb'
  rw[hcell] at hcell'
  simp only[AS] at hcell'
  subst hcell'
  have hsz0:s.regs.length=a.tmps.size:=by have:=GF _ _ _ hi.rel;simpa using this.symm
  have hev:a2.eval (.tmp e)=v∧a2.eval (.tmp e1)=GH sc:=by
   rw[←ha2]
   constructor
   ·have hlt:e<a.tmps.size:=hsz0▸hbl1
    simp only[Act.put,Act.eval,Jr]
    rw[VN (Ne.symm hdd)];simp [hlt]
   ·have hlt:e1<a.tmps.size:=hsz0▸hbl2
    simp [Act.put,Act.eval,Jr,hlt]
  have hAcA:∀b,Ac b→A b:=fun b hb=>(hjc.1 b).2 (.inl hb)
  have hArA:∀b,Ar b→A b:=fun b hb=>(hjc.1 b).2 (.inr hb)
  have hAT:∀b,A b→T2 b:=fun b hb=>(hj.1 b).2 (.inl hb)
  have hBT:∀b,B b→T2 b:=fun b hb=>(hj.1 b).2 (.inr hb)
  have hsc0:Aj Z w sc (GH sc) (fun _=>False):=by
   cases sc<;>simp only[Ll,Bl] at hsc<;>exact⟨rfl,AI⟩
  have hargs0:AU Z w (S.args x) [v,GH sc] Ac:=by
   rw[hSargs,←heq2]
   simp only[AU]
   exact⟨v,[GH sc],Ac,_,rfl,Me Ac,Mg heq1 hvrel',GH sc,[],_,_,rfl,Cu _,hsc0,rfl,AI⟩
  have hcall:=hc.2 x hpre Z w [v,GH sc] Ac h2.ok.glob hargs0 (fun b hb=>⟨(h2.own b (hAT b (hAcA b hb))).1,(h2.own b (hAT b (hAcA b hb))).2.1⟩) (by rw[hcap0];trivial)
  obtain⟨⟨⟨fn,hfn,hnm,hbody⟩,_⟩,_⟩:=hc
  unfold Oper.wp
  have he:(execOp a2.eval o2).run P w= .ok (.enter g [v,GH sc].toArray) w:=by
   simp only[execOp,hop2,hargs,resolve]
   have:a2.eval (.func g)= .func (.func g) #[] #[]:=rfl
   simp only[this,Deferred.ofValue]
   rw[AC (Cy P _ w)]
   simp only[invoke,callFunc,program]
   rw[AC (x:=P) (w':=w) rfl]
   simp only[hfn,hnm,Bl,Br,hbody]
   simp [Cy,hev.1,hev.2]
  rw[he,Oper.upon_enter]
  refine hcall.mono ?_
  rintro _ w' ⟨y,rv,Z',A',hpost,rfl,hres,haft⟩
  have h:=h y hpost
  split at h
  rotate_left
  ·exact h.elim
  rename_i i2 sd δ gd l' hrs houts
  obtain⟨z',hfz',h⟩:=h
  split at h
  rotate_left
  ·exact h.elim
  rename_i r2 hplug
  rw[houts] at hres
  simp only[AU] at hres
  obtain⟨rv',_,Ares,A1,e1',hj1,hres1,v'',_,Ao,A3,e2',hj2,hres2,_,_,A4,A5,e3',hj3,htop,e4',hemp⟩:=hres
  simp only[HQ] at e1' e2' e3'
  obtain⟨rfl,rfl⟩:=e1'
  simp only[HQ] at e2'
  obtain⟨rfl,rfl⟩:=e2'
  simp only[Aj] at htop
  have hrvv:=a7E hres1 hrs
  have hAres:emp Ares:=by
   generalize S.res x y=rr at hres1 hrs
   cases rr<;>simp only[Ll,Bl] at hrs<;>simp only[Aj] at hres1<;>exact hres1.2
  have hAoA:∀b,Ao b→A' b:=fun b hb=>(hj1.1 b).2 (.inr ((hj2.1 b).2 (.inl hb)))
  have hlt:∀b,T2 b→b<w.heap.size:=fun b hb=>(h2.own b hb).2.1
  have hnAc:∀b,Ar b→¬Ac b:=fun b p q=>hjc.2 b q p
  have hnAcB:∀b,B b→¬Ac b:=fun b p q=>hj.2 b (hAcA b q) p
  have hZf:∀b,¬Z b→b<w.heap.size→¬Z' b∧w'.heap[b]? =w.heap[b]? :=by
   intro b hz hb
   have:=haft.old b hb (fun q=>hz (h2.own b (hAT b (hAcA b q))).1)
   exact⟨fun q=>hz (this.2.1 q),this.1⟩
  have hdisAo:∀b,Ao b→T2 b→Ac b:=fun b p q=>(haft.own b (hAoA b p)).2.2 (hlt b q)
  obtain⟨A'',hjA'',hown'⟩:=hput Z' η w' (.sl true i2 sd δ gd l') z' Ao rfl (fun b hb=>(haft.old b (hlt b (hAT b (hArA b hb))) (hnAc b hb)).1) hZf hres2
   (fun b p q=>hnAc b q (hdisAo b p (hAT b (hArA b q)))) hfz'
  have hr1':=Dj (n:=s.nx) hZf (fun _ _=>rfl) r1 _ B htki.2.2 (fun b hb=>(haft.old b (hlt b (hBT b hb)) (hnAcB b hb)).1) hr1
  have hrs':=Wl hrs Z' η w' s.nx
  rw[←hrvv] at hrs'
  obtain⟨B',hB',hr1''⟩:∃B',(∀b,B' b→B b)∧Am Z' η w' (setR r1 o2.dst (S.res x y)) (a2.put o2.dst rv).tmps.toList B':=by
   cases o2.dst with
   |none=>exact⟨B,fun _ h=>h,hr1'⟩
   |some dd=>rw[QJ];exact Tm hr1' dd hrs'.1
  have hidr:AN s.nx (setR r1 o2.dst (S.res x y)):=by
   cases o2.dst with
   |none=>exact htki.2.2
   |some dd=>exact Iy _ _ _ htki.2.2 hrs'.2
  have hdis:∀b,A'' b→B' b→False:=by
   intro b p q
   rcases(hjA''.1 b).1 p with p|p
   ·exact hnAcB b (hB' b q) (hdisAo b p (hBT b (hB' b q)))
   ·exact hj.2 b (hArA b p) (hB' b q)
  have hfin:=JC hown' _ _ B' (fun b=>A'' b∨B' b) r2 hr1'' ⟨fun _=>Cg,hdis⟩ hplug
  have hids:=JD (o:= .sl true j sz α f (xs.set k z')) (n:=s.nx) (by
   have:=htki.2.1
   simp only[Az] at this ⊢;exact this) _ _ hidr hplug
  refine⟨⟨r2,s.nx⟩,h,⟨η,Z',_,⟨by rw[QK];exact h2.defers,hfin,hids,fun b hb=> ?_,?_⟩⟩,rv,rfl⟩
  ·have old:T2 b→¬Ac b→Z' b∧b<w'.heap.size∧(b<C.w0.heap.size→C.S0 b):=by
    intro p q
    obtain⟨o1,o2,o3⟩:=h2.own b p
    exact⟨(haft.old b o2 q).2.2 o1,Ev o2 haft.size,o3⟩
   rcases hb with hb|hb
   ·rcases(hjA''.1 b).1 hb with hb|hb
    ·obtain⟨o1,o2,o3⟩:=haft.own b (hAoA b hb)
     exact⟨o1,o2,fun h0=>(h2.own b (hAT b (hAcA b (o3 (Ev h0 h2.ok.size))))).2.2 h0⟩
    ·exact old (hAT b (hArA b hb)) (hnAc b hb)
   ·exact old (hBT b (hB' b hb)) (hnAcB b (hB' b hb))
  ·refine⟨haft.os.trans h2.ok.os,haft.tape.trans h2.ok.tape,haft.output.trans h2.ok.output,Jt h2.ok.size haft.size,fun b h0 hs=> ?_⟩
   have hnT:¬T2 b:=fun x=>hs ((h2.own b x).2.2 h0)
   obtain⟨g1,g2⟩:=haft.old b (Ev h0 h2.ok.size) (fun q=>hnT (hAT b (hAcA b q)))
   obtain⟨g3,g4⟩:=h2.ok.old b h0 hs
   exact⟨g1.trans g3,g2.trans g4⟩
end Go.Eng
end
