/- joined -/
import Derived.Test.YtblmpjljedglaaaGreatDoorQE
set_option linter.unusedSimpArgs false
set_option linter.unusedVariables false
section
namespace Go.My
open Go.Eng
def CN(k:Int):Int×Int:=
 if k=4∨k=18∨k=21∨k=22 then(0,12)
 else if k=5∨k=9∨k=20 then(1,12)
 else if k=6∨k=11∨k=13∨k=14 then(1,1)
 else if k=7∨k=10 then(2,12)
 else if k=8 then(3,3)
 else if k=12∨k=15 then(0,1)
 else if k=16 then(2,3)
 else if k=17 then(2,2)
 else(0,0)
def FK(k n i y:Int):Bool:=
 if k=9 then(if i+1<n then Dw y else AX y)
 else if k=20 then(if i+1<n then Dw y else CY y)
 else if k=10 then(if 0<i then Ez y else AX y)
 else if k=16∨k=17 then(if 0<i then CY y else AX y)
 else if k=18 then CM y
 else if k=21 then CF y
 else if k=22 then Gn y
 else AX y
def Kk(ns:List Nd)(x:Nd)(i c:Int):Bool:=
 FK x.kind x.kids.length i (Al ns c)&&(if x.kind=10∧0<i then decide (Al ns ((Aa ns c).kids.headD 0)=1) else true)
def DI(ns:List Nd)(x:Nd)(i c:Int):Bool:=
 (!(decide (Al ns c=5)&&(decide ((Aa ns c).kids.length=0)|| !Bf ns ((Aa ns c).kids.headD 0))))&&Kk ns x i c
def BE(f:Int→Int→Bool):List Int→Int→Bool
 |[],_=>true
 |c::l,i=>f i c&&BE f l (i+1)
theorem Vg{f g:Int→Int→Bool}:∀ {l:List Int} {i:Int},(∀j c,i≤j→j<i+l.length→c∈l→f j c=g j c)→BE f l i=BE g l i
 |[],i,h=>rfl
 |c::l,i,h=>by
  simp only[BE]
  rw[h i c (Int.le_refl i) (by simp;omega) (by simp),Vg (fun j c hj hl hc=>h j c (by omega) (by simp;omega) (by simp [hc]))]
theorem a0l{f g:Int→Int→Bool}:∀ {l:List Int} {i:Int},BE (fun i c=>f i c&&g i c) l i=(BE f l i&&BE g l i)
 |[],i=>rfl
 |c::l,i=>by
  simp only[BE];rw[a0l]
  cases f i c<;>cases g i c<;>cases BE f l (i+1)<;>cases BE g l (i+1)<;>rfl
theorem Qf{f:Int→Bool}:∀ {l:List Int} {i:Int},BE (fun _ c=>f c) l i=l.all f
 |[],i=>rfl
 |c::l,i=>by simp only[BE,List.all_cons];rw[Qf]
theorem a0m{f:Int→Int→Bool}{g:Int→Int}:∀ {l:List Int} {i:Int},BE f (l.map g) i=BE (fun i c=>f i (g c)) l i
 |[],i=>rfl
 |c::l,i=>by simp only[BE,List.map_cons];rw[a0m]
theorem a0n{f:Int→Int→Bool}:∀ {l m:List Int} {i:Int},BE f (l++m) i=(BE f l i&&BE f m (i+l.length))
 |[],m,i=>by simp [BE]
 |c::l,m,i=>by
  simp only[List.cons_append,BE];rw[a0n,Bool.and_assoc]
  congr 2;congr 1;simp;omega
theorem Vh{f:Int→Int→Bool}:∀ {l:List Int} {i:Nat},((l.zipIdx i).all fun p=>f p.2 p.1)=BE f l i
 |[],i=>rfl
 |c::l,i=>by
  simp only[List.zipIdx_cons,List.all_cons,BE];rw[Vh];congr 2
theorem Vi{f:Int→Int→Bool}{l:List Int}:BE f l 0=true↔∀(j:Nat) c,l[j]? =some c→f j c=true:=by
 have:∀(l:List Int) (i:Nat),BE f l i=true↔∀(j:Nat) c,l[j]? =some c→f (i+j:Nat) c=true:=by
  intro l
  induction l with
  |nil=>intro i;simp [BE]
  |cons c l ih=>
   intro i
   simp only[BE,Bool.and_eq_true]
   have:=ih (i+1)
   rw[show((i:Int)+1)=((i+1:Nat):Int) from by omega,this]
   constructor
   ·rintro⟨h1,h2⟩ j d hd
    cases j with
    |zero=>simp at hd;subst hd;simpa using h1
    |succ j=>have:=h2 j d (by simpa using hd);rwa [show i+1+j=i+(j+1) by omega] at this
   ·intro h
    refine⟨by simpa using h 0 c rfl,fun j d hd=> ?_⟩
    have:=h (j+1) d (by simpa using hd)
    rwa [show i+(j+1)=i+1+j by omega] at this
 have:=this l 0
 simpa using this
theorem a0o{l:List Int}{k:Int}(h:l.getLast? =some k):l=l.dropLast++[k]:=by
 have hne:l≠[]:=by intro e;rw[e] at h;cases h
 rw[List.getLast?_eq_some_getLast hne] at h
 have:=List.dropLast_concat_getLast hne
 rw[Option.some.inj h] at this;exact this.symm
theorem a0p{p:Int→Bool}{l:List Int}:(decide (1≤l.length)&&BE (fun i y=>if i+1<(l.length:Int) then Dw y else p y) l 0)=EA p l:=by
 unfold EA
 cases h:l.getLast? with
 |none=>have:l=[]:=by simpa using h
        subst this;rfl
 |some k=>
  have e:=a0o h
  generalize hd:l.dropLast=m at e ⊢
  subst e
  rw[a0n]
  have h1:BE (fun i y=>if i+1<((m++[k]).length:Int) then Dw y else p y) m 0=m.all Dw:=by
   rw[←Qf (i:=0)]
   exact Vg fun j c h0 hj hc=>if_pos (by simp;omega)
  rw[h1]
  simp only[BE]
  have h2:¬((0:Int)+m.length+1<((m++[k]).length:Int)):=by simp
  rw[if_neg h2]
  have:decide (1≤(m++[k]).length)=true:=by simp
  rw[this];simp [Bool.and_comm]
theorem a0q{p q:Int→Bool}{c:Int}{l:List Int}:BE (fun i y=>if 0<i then q y else p y) (c::l) 0=(p c&&l.all q):=by
 simp only[BE]
 have h1:¬((0:Int)<0):=by omega
 rw[if_neg h1]
 congr 1
 rw[←Qf (i:=0+1)]
 exact Vg fun j c h0 hj hc=>if_pos (by omega)
theorem a0r{k:Int}{l:List Int}(h1:1≤k)(h2:k≤22):(inn l.length (CN k).1 (CN k).2&&BE (fun i y=>FK k l.length i y) l 0)=(decide (l.length≤12)&&CR k l):=by
 have hk:k=1∨k=2∨k=3∨k=4∨k=5∨k=6∨k=7∨k=8∨k=9∨k=10∨k=11∨k=12∨k=13∨k=14∨k=15∨k=16∨k=17∨k=18∨k=19∨k=20∨k=21∨k=22:=by omega
 have len0:∀ {b c:Bool},l.length=0→(l=[]):=fun h=>List.length_eq_zero_iff.1 h
 rcases hk with rfl|rfl|rfl|rfl|rfl|rfl|rfl|rfl|rfl|rfl|rfl|rfl|rfl|rfl|rfl|rfl|rfl|rfl|rfl|rfl|rfl|rfl
 all_goals simp only[CN,FK,CR,inn,Int.reduceEq,or_self,or_false,false_or,or_true,true_or,if_true,if_false,reduceIte]
 all_goals try(
  by_cases h:l.length=0
  ·have:=List.length_eq_zero_iff.1 h;subst this;rfl
  ·have e1:decide ((l.length:Int)≤0)=false:=decide_eq_false (by omega)
   have e2:decide (l.length=0)=false:=decide_eq_false h
   simp only[e1,e2,Bool.and_false,Bool.false_and];done)
 all_goals try rw[Qf]
 all_goals try(
  generalize l.all _=b
  rw[Bool.eq_iff_iff];cases b<;>simp only[Bool.and_eq_true,decide_eq_true_eq,Bool.false_eq_true,and_false,and_true]<;>omega)
 ·rw[show decide (1≤(l.length:Int))=decide (1≤l.length) from decide_eq_decide.2 (by omega),show decide ((l.length:Int)≤12)=decide (l.length≤12) from decide_eq_decide.2 (by omega),←a0p (p:=AX)]
  generalize BE _ l 0=b
  cases decide (1≤l.length)<;>cases decide (l.length≤12)<;>cases b<;>rfl
 ·cases l with
  |nil=>rfl
  |cons c l=>
   rw[a0q]
   simp only[List.headD_cons,List.drop_succ_cons,List.drop_zero]
   generalize AX c=b;generalize l.all _=d
   rw[Bool.eq_iff_iff];cases b<;>cases d<;>simp only[Bool.and_eq_true,decide_eq_true_eq,Bool.false_eq_true,and_false,and_true]<;>omega
 ·cases l with
  |nil=>rfl
  |cons c l=>
   rw[a0q]
   simp only[List.headD_cons,List.drop_succ_cons,List.drop_zero]
   generalize AX c=b;generalize l.all _=d
   rw[Bool.eq_iff_iff];cases b<;>cases d<;>simp only[Bool.and_eq_true,decide_eq_true_eq,Bool.false_eq_true,and_false,and_true]<;>omega
 ·match l with
  |[]=>rfl
  |[c]=>rfl
  |[c,d]=>simp [BE]
  |c::d::e::l=>
   have e1:decide (((c::d::e::l).length:Int)≤2)=false:=decide_eq_false (by simp;omega)
   have e2:decide ((c::d::e::l).length=2)=false:=decide_eq_false (by simp)
   rw[e1,e2];simp
 ·rw[show decide (1≤(l.length:Int))=decide (1≤l.length) from decide_eq_decide.2 (by omega),show decide ((l.length:Int)≤12)=decide (l.length≤12) from decide_eq_decide.2 (by omega),←a0p (p:=CY)]
  generalize BE _ l 0=b
  cases decide (1≤l.length)<;>cases decide (l.length≤12)<;>cases b<;>rfl
theorem a0s{k:Int}{l:List Int}(h:inn k 1 22=false):CR k l=false:=by
 have h:¬(1≤k∧k≤22):=by intro hh;simp [inn] at h;omega
 unfold CR
 have e:∀j:Int,1≤j→j≤22→k≠j:=fun j h1 h2 e=>h (by omega)
 simp [e]
theorem b0g{ns:List Nd}{x:Nd}{i c:Int}:DI ns x i c=(FK x.kind x.kids.length i (Al ns c)&&CK ns x i.toNat c):=by
 unfold DI Kk CK Al
 generalize hy:Aa ns c=y
 by_cases h5:y.kind=5
 ·simp only[h5,if_true,decide_true,Bool.true_and]
  cases hk:y.kids with
  |nil=>simp
  |cons h t=>
   simp only[List.length_cons,List.headD_cons]
   have e0:decide (t.length+1=0)=false:=by simp
   rw[e0]
   by_cases hx:x.kind=10∧0<i
   ·have hi:0<i.toNat:=by omega
    simp only[hx,and_self,if_true,decide_true,Bool.true_and,hi]
    generalize FK 10 _ _ _=a;generalize Bf ns h=b
    by_cases hd:(Aa ns h).kind=1<;>cases a<;>cases b<;>simp [hd]
   ·rw[if_neg hx]
    have:(decide (x.kind=10)&&(decide (0<i.toNat)&& !decide ((Aa ns h).kind=1)))=false:=by
     by_cases h1:x.kind=10
     ·have:¬0<i.toNat:=by omega
      simp [this]
     ·simp [h1]
    rw[this]
    generalize FK _ _ _ _=a;generalize Bf ns h=b
    cases a<;>cases b<;>rfl
 ·simp only[h5,if_false,decide_false,Bool.false_and,Bool.not_false,Bool.true_and,Bool.and_true]
  by_cases hx:x.kind=10∧0<i
  ·rw[if_pos hx]
   have:FK x.kind x.kids.length i y.kind=false:=by
    simp [FK,hx,Ez,h5]
   rw[this];rfl
  ·rw[if_neg hx];simp
theorem b0h{ns:List Nd}{k:Int}{x:Nd}:Ho ns k x=
 (inn x.kind 1 22&&(inn x.kids.length (CN x.kind).1 (CN x.kind).2&&(Dv x.kind x.text&&((GL x.kind|| !x.blank)&&((DG x.kids k&&decide x.kids.Nodup)&&BE (DI ns x) x.kids 0))))):=by
 have e1:BE (DI ns x) x.kids 0=(BE (fun i y=>FK x.kind (x.kids.map (Al ns)).length i y) (x.kids.map (Al ns)) 0&&EO ns x):=by
  have:(DI ns x)=fun i c=>(FK x.kind x.kids.length i (Al ns c)&&CK ns x i.toNat c):=by
   funext i c;exact b0g
  rw[this,a0l,a0m,List.length_map]
  congr 1
  unfold EO
  have:(fun p:Int×Nat=>CK ns x p.2 p.1)=fun p:Int×Nat=>(fun(i c:Int)=>CK ns x i.toNat c) p.2 p.1:=by
   funext p;simp
  rw[this]
  exact(Vh (f:=fun i c=>CK ns x i.toNat c) (i:=0)).symm
 unfold Ho
 by_cases h:inn x.kind 1 22=true
 ·have hb:= @a0r x.kind (x.kids.map (Al ns)) (by simp [inn] at h;omega) (by simp [inn] at h;omega)
  rw[List.length_map] at hb
  rw[e1,List.length_map,h]
  generalize decide (x.kids.length≤12)=a at hb ⊢;generalize CR x.kind _=b at hb ⊢;generalize inn _ _ _=c at hb ⊢
  generalize BE _ _ 0=d at hb ⊢;generalize Dv _ _=e;generalize GL _=f;generalize EO _ _=g;generalize DG _ _=h1;generalize decide x.kids.Nodup=h2
  cases a<;>cases b<;>cases c<;>cases d<;>simp at hb<;>cases e<;>cases f<;>cases g<;>cases h1<;>cases h2<;>simp
 ·simp only[Bool.not_eq_true] at h
  rw[a0s h,h];simp
end Go.My
end
section
namespace Go.My
open Go.Eng Go.Proofs
variable {G:GInv}
theorem Fr{a b:Int}:(a==b)=decide (a=b):=by rw[Bool.eq_iff_iff];simp
theorem b0i{α:Type}{p:α→Bool}{x:List α}{n:Nat}{e:α}(he:x[n]? =some e)(hp:p e=true)(h:∀e∈x.take n,p e=true):∀e∈x.take (n+1),p e=true:=by
 rw[Df he];intro d hd
 rcases List.mem_append.1 hd with hd|hd
 ·exact h d hd
 ·simp at hd;subst hd;exact hp
theorem b0j{α:Type}{p:α→Bool}{x:List α}{n:Nat}(h:∀e∈x.take n,p e=true)(hn:x.length≤n):x.all p=true:=by
 rw[List.take_of_length_le hn] at h;exact List.all_eq_true.2 h
theorem Kl{α:Type}{p:α→Bool}{x:List α}{n:Nat}{e:α}(he:x[n]? =some e)(hp:p e=false):x.all p=false:=by
 rw[Bool.eq_false_iff];intro h
 rw[List.all_eq_true.1 h e (List.mem_of_getElem? he)] at hp;cases hp
def EC:Sig:= {X:=Int,args:=fun x=>[.int .i64 x],pre:=fun x=>True,Y:=Unit,post:=fun x y=>True,res:=fun x y=> .bool (AX x),outs:=fun x y=>[.top],keep:=false}
theorem Qg:Ah G Tryz.prog 76 EC:=
 vcFun_okP [(36,0,BN)] [] false (fun x=>[]) Tryz.func76 rfl (by decide) ⟨GM,trivial⟩ (fun(x:Int)=>(∀(y:Unit),True→True∧True∧True)∧cA BN [.int .i64 x,.int .i64 (1:Int),.int .i64 (11:Int)] fun x_1 y=>rA EC x [.bool (inn x_1.1 x_1.2.1 x_1.2.2),.top]) (fun x=>by kernel_rfl) fun(x:Int) (hx:True)=>(by
 dsimp only[cA,rA,BN,EC,Aq,Aw,mvL,lnL,mvE,lnE,mvG,mvH,lnG,lnH]
 (repeat' first|(with_reducible first|rfl|exact True.intro|apply AG|apply And.intro|((first|apply Au|apply AE|apply Av|apply AF)<;>intro _))|(apply As<;>intro _)|apply AD|refine Af () ?_ ?_|((first|apply AK|apply AJ|apply AI|apply AH|apply AC|apply AB|apply AA|apply Az|apply Ax)<;>try dsimp only)|apply Af|(refine Prod.forall.2 ?_;intro _;try dsimp only)|(intro _;try dsimp only))<;>(try dsimp only at*)<;>(try simp only[Aj,List.length_cons,List.length_nil])<;>(try omega)
 all_goals simp [AX,Fr, *])
def Gu:Sig:= {X:=Int,args:=fun x=>[.int .i64 x],pre:=fun x=>True,Y:=Unit,post:=fun x y=>True,res:=fun x y=> .bool (Gm x),outs:=fun x y=>[.top],keep:=false}
theorem Vj:Ah G Tryz.prog 59 Gu:=
 vcFun_okP [(36,0,BN)] [] false (fun x=>[]) Tryz.func59 rfl (by decide) ⟨GM,trivial⟩ (fun(x:Int)=>(∀(y:Unit),True→True∧True∧True)∧cA BN [.int .i64 x,.int .i64 (12:Int),.int .i64 (17:Int)] fun x_1 y=>rA Gu x [.bool (inn x_1.1 x_1.2.1 x_1.2.2),.top]) (fun x=>by kernel_rfl) fun(x:Int) (hx:True)=>(by
 dsimp only[cA,rA,BN,Gu,Aq,Aw,mvL,lnL,mvE,lnE,mvG,mvH,lnG,lnH]
 (repeat' first|(with_reducible first|rfl|exact True.intro|apply AG|apply And.intro|((first|apply Au|apply AE|apply Av|apply AF)<;>intro _))|(apply As<;>intro _)|apply AD|refine Af () ?_ ?_|((first|apply AK|apply AJ|apply AI|apply AH|apply AC|apply AB|apply AA|apply Az|apply Ax)<;>try dsimp only)|apply Af|(refine Prod.forall.2 ?_;intro _;try dsimp only)|(intro _;try dsimp only))<;>(try dsimp only at*)<;>(try simp only[Aj,List.length_cons,List.length_nil])<;>(try omega)
 all_goals simp [Gm,Fr, *])
def Gv:Sig:= {X:=Int,args:=fun x=>[.int .i64 x],pre:=fun x=>True,Y:=Unit,post:=fun x y=>True,res:=fun x y=> .bool (CY x),outs:=fun x y=>[.top],keep:=false}
theorem Vk:Ah G Tryz.prog 160 Gv:=
 vcFun_okP [] [] false (fun x=>[]) Tryz.func160 rfl (by decide) trivial (fun(x:Int)=>(∀(y:Unit),True→True∧True∧True)∧rA Gv x [.bool (x==(18:Int)),.top]) (fun x=>by kernel_rfl) fun(x:Int) (hx:True)=>(by
 dsimp only[rA,Gv,Aq,Aw]
 (repeat' first|(with_reducible first|rfl|exact True.intro|apply AG|apply And.intro|((first|apply Au|apply AE|apply Av|apply AF)<;>intro _))|(apply As<;>intro _)|apply AD|refine Af () ?_ ?_|((first|apply AK|apply AJ|apply AI|apply AH|apply AC|apply AB|apply AA|apply Az|apply Ax)<;>try dsimp only)|apply Af|(refine Prod.forall.2 ?_;intro _;try dsimp only)|(intro _;try dsimp only))<;>(try dsimp only at*)<;>(try simp only[Aj,List.length_cons,List.length_nil])<;>(try omega)
 all_goals simp [CY,Fr, *])
def ED:Sig:= {X:=Int,args:=fun x=>[.int .i64 x],pre:=fun x=>True,Y:=Unit,post:=fun x y=>True,res:=fun x y=> .bool (CF x),outs:=fun x y=>[.top],keep:=false}
theorem Qh:Ah G Tryz.prog 60 ED:=
 vcFun_okP [] [] false (fun x=>[]) Tryz.func60 rfl (by decide) trivial (fun(x:Int)=>(∀(y:Unit),True→True∧True∧True)∧Ab (x==(12:Int)) (rA ED x [.bool true,.top]) (Ab (x==(20:Int)) (rA ED x [.bool true,.top]) (rA ED x [.bool (x==(19:Int)),.top]))) (fun x=>by kernel_rfl) fun(x:Int) (hx:True)=>(by
 dsimp only[rA,ED,Aq,Aw]
 (repeat' first|(with_reducible first|rfl|exact True.intro|apply AG|apply And.intro|((first|apply Au|apply AE|apply Av|apply AF)<;>intro _))|(apply As<;>intro _)|apply AD|refine Af () ?_ ?_|((first|apply AK|apply AJ|apply AI|apply AH|apply AC|apply AB|apply AA|apply Az|apply Ax)<;>try dsimp only)|apply Af|(refine Prod.forall.2 ?_;intro _;try dsimp only)|(intro _;try dsimp only))<;>(try dsimp only at*)<;>(try simp only[Aj,List.length_cons,List.length_nil])<;>(try omega)
 all_goals simp [CF,Fr, *])
def Mb:Sig:= {X:=Int,args:=fun x=>[.int .i64 x],pre:=fun x=>True,Y:=Unit,post:=fun x y=>True,res:=fun x y=> .bool (Ez x),outs:=fun x y=>[.top],keep:=false}
theorem b0k:Ah G Tryz.prog 159 Mb:=
 vcFun_okP [] [] false (fun x=>[]) Tryz.func159 rfl (by decide) trivial (fun(x:Int)=>(∀(y:Unit),True→True∧True∧True)∧rA Mb x [.bool (x==(5:Int)),.top]) (fun x=>by kernel_rfl) fun(x:Int) (hx:True)=>(by
 dsimp only[rA,Mb,Aq,Aw]
 (repeat' first|(with_reducible first|rfl|exact True.intro|apply AG|apply And.intro|((first|apply Au|apply AE|apply Av|apply AF)<;>intro _))|(apply As<;>intro _)|apply AD|refine Af () ?_ ?_|((first|apply AK|apply AJ|apply AI|apply AH|apply AC|apply AB|apply AA|apply Az|apply Ax)<;>try dsimp only)|apply Af|(refine Prod.forall.2 ?_;intro _;try dsimp only)|(intro _;try dsimp only))<;>(try dsimp only at*)<;>(try simp only[Aj,List.length_cons,List.length_nil])<;>(try omega)
 all_goals simp [Ez,Fr, *])
def Km:Sig:= {X:=Int,args:=fun x=>[.int .i64 x],pre:=fun x=>True,Y:=Unit,post:=fun x y=>True,res:=fun x y=> .bool (CM x),outs:=fun x y=>[.top],keep:=false}
theorem b0l:Ah G Tryz.prog 161 Km:=
 vcFun_okP [(59,0,Gu)] [] false (fun x=>[]) Tryz.func161 rfl (by decide) ⟨Vj,trivial⟩ (fun(x:Int)=>(∀(y:Unit),True→True∧True∧True)∧cA Gu [.int .i64 x] fun x_1 y=>Ab (Gm x_1) (rA Km x [.bool true,.top]) (rA Km x [.bool (x==(19:Int)),.top])) (fun x=>by kernel_rfl) fun(x:Int) (hx:True)=>(by
 dsimp only[cA,rA,Gu,Km,Aq,Aw,mvL,lnL,mvE,lnE,mvG,mvH,lnG,lnH]
 (repeat' first|(with_reducible first|rfl|exact True.intro|apply AG|apply And.intro|((first|apply Au|apply AE|apply Av|apply AF)<;>intro _))|(apply As<;>intro _)|apply AD|refine Af () ?_ ?_|((first|apply AK|apply AJ|apply AI|apply AH|apply AC|apply AB|apply AA|apply Az|apply Ax)<;>try dsimp only)|apply Af|(refine Prod.forall.2 ?_;intro _;try dsimp only)|(intro _;try dsimp only))<;>(try dsimp only at*)<;>(try simp only[Aj,List.length_cons,List.length_nil])<;>(try omega)
 all_goals simp [CM,Fr, *])
def Kn:Sig:= {X:=Int,args:=fun x=>[.int .i64 x],pre:=fun x=>True,Y:=Unit,post:=fun x y=>True,res:=fun x y=> .bool (Gn x),outs:=fun x y=>[.top],keep:=false}
theorem b0m:Ah G Tryz.prog 162 Kn:=
 vcFun_okP [(60,0,ED)] [] false (fun x=>[]) Tryz.func162 rfl (by decide) ⟨Qh,trivial⟩ (fun(x:Int)=>(∀(y:Unit),True→True∧True∧True)∧cA ED [.int .i64 x] fun x_1 y=>Ab (CF x_1) (rA Kn x [.bool true,.top]) (rA Kn x [.bool (x==(21:Int)),.top])) (fun x=>by kernel_rfl) fun(x:Int) (hx:True)=>(by
 dsimp only[cA,rA,ED,Kn,Aq,Aw,mvL,lnL,mvE,lnE,mvG,mvH,lnG,lnH]
 (repeat' first|(with_reducible first|rfl|exact True.intro|apply AG|apply And.intro|((first|apply Au|apply AE|apply Av|apply AF)<;>intro _))|(apply As<;>intro _)|apply AD|refine Af () ?_ ?_|((first|apply AK|apply AJ|apply AI|apply AH|apply AC|apply AB|apply AA|apply Az|apply Ax)<;>try dsimp only)|apply Af|(refine Prod.forall.2 ?_;intro _;try dsimp only)|(intro _;try dsimp only))<;>(try dsimp only at*)<;>(try simp only[Aj,List.length_cons,List.length_nil])<;>(try omega)
 all_goals simp [Gn,Fr, *])
def Mc:Sig:= {X:=Int,args:=fun x=>[.int .i64 x],pre:=fun x=>True,Y:=Unit,post:=fun x y=>True,res:=fun x y=> .bool (Dw x),outs:=fun x y=>[.top],keep:=false}
theorem b0n:Ah G Tryz.prog 191 Mc:=
 vcFun_okP [] [] false (fun x=>[]) Tryz.func191 rfl (by decide) trivial (fun(x:Int)=>(∀(y:Unit),True→True∧True∧True)∧rA Mc x [.bool (x==(1:Int)),.top]) (fun x=>by kernel_rfl) fun(x:Int) (hx:True)=>(by
 dsimp only[rA,Mc,Aq,Aw]
 (repeat' first|(with_reducible first|rfl|exact True.intro|apply AG|apply And.intro|((first|apply Au|apply AE|apply Av|apply AF)<;>intro _))|(apply As<;>intro _)|apply AD|refine Af () ?_ ?_|((first|apply AK|apply AJ|apply AI|apply AH|apply AC|apply AB|apply AA|apply Az|apply Ax)<;>try dsimp only)|apply Af|(refine Prod.forall.2 ?_;intro _;try dsimp only)|(intro _;try dsimp only))<;>(try dsimp only at*)<;>(try simp only[Aj,List.length_cons,List.length_nil])<;>(try omega)
 all_goals simp [Dw,Fr, *])
def DY(p:Int→Bool)(x:List Int)(i:Int):Prop:=0≤i∧i≤x.length∧∀e∈x.take i.toNat,p e=true
theorem Ko{p:Int→Bool}{x:List Int}:DY p x 0:=⟨by omega,by omega,by simp⟩
theorem Kp{p:Int→Bool}{x:List Int}{i:Int}{e:Int}(h:DY p x i)(he:x[i.toNat]? =some e)(hp:p e=true):DY p x (i+1):=by
 obtain⟨h1,h2,h3⟩:=h
 have:=(Cx he).1
 exact⟨by omega,by omega,by rw[BG h1];exact b0i he hp h3⟩
theorem Kq{p:Int→Bool}{x:List Int}{i:Int}(h:DY p x i)(hl:¬i<x.length):true=x.all p:=(b0j h.2.2 (by omega)).symm
def CO(p:Int→Bool)(c:AV)(x:List Int):LS:= {
 ι:=Int,inv:=DY p x,regs:=fun i=>[(0,Ad x),(1,c),(7,Ad x),(8,.int .i64 x.length),(9,.int .i64 i)],als:=[],meas:=fun i=>x.length-i.toNat}
def Jb:Sig:= {X:=List Int,args:=fun x=>[Ad x,.clo (.func 76) []],pre:=fun x=>x.length<2^62,Y:=Unit,post:=fun x y=>True,res:=fun x y=> .bool (x.all AX),outs:=fun x y=>[.top,.top],keep:=false}
theorem b0o:Ah G Tryz.prog 157 Jb:=
 vcFun_okP [(76,0,EC)] [] false (fun x=>[(2,CO AX (.clo (.func 76) []) x)]) Tryz.func157 rfl (by decide) ⟨Qg,trivial⟩ (fun(x:List Int)=>(∀(y:Unit),True→True∧True∧True∧True)∧eA (CO AX (AV.clo (.func 76) []) x) [Ad x,AV.clo (.func 76) [],Ad x,.int .i64 (↑(List.length x):Int),.int .i64 (0:Int)]∧∀(i:Int),DY AX x i→Ab (decide (i<(↑(List.length x):Int))) (((0:Int)≤i∧i<(↑(List.length x):Int))∧∀(e:Int),x[Int.toNat i]? =some e→cA EC [.int .i64 e] fun x_1 y=>Ab (!AX x_1) (rA Jb x [.bool false,.top,.top]) (inR IntKind.i64 (i+(1:Int))∧eN (CO AX (AV.clo (.func 76) []) x) i [Ad x,AV.clo (.func 76) [],Ad x,.int .i64 (↑(List.length x):Int),.int .i64 (i+(1:Int))])) (rA Jb x [.bool true,.top,.top])) (fun x=>by kernel_rfl) fun(x:List Int) (hx:x.length<2^62)=>(by
 dsimp only[cA,eA,eN,Ad,CO,rA,Jb,EC,Aq,Aw,mvL,lnL,mvE,lnE,mvG,mvH,lnG,lnH,Ba]
 have hx:x.length<2^62:=hx
 (repeat' first|(with_reducible first|rfl|exact True.intro|apply AG|apply And.intro|((first|apply Au|apply AE|apply Av|apply AF)<;>intro _))|(apply As<;>intro _)|apply AD|refine Af () ?_ ?_|((first|apply AK|apply AJ|apply AI|apply AH|apply AC|apply AB|apply AA|apply Az|apply Ax)<;>try dsimp only)|apply Af|(refine Prod.forall.2 ?_;intro _;try dsimp only)|(intro _;try dsimp only))
 all_goals first|exact Ko|(rename_i i hi hl e he y _ hp;exact(Kl he hp).symm)|(rename_i i hi hl e he y _ hp;exact Kp hi he hp)|(rename_i i hi hl;exact Kq hi hl)|(obtain⟨_,_,_⟩:= ‹DY _ _ _›;(try simp only[Aj] at*);omega)|skip)
def Kr:Sig:= {X:=List Int,args:=fun x=>[Ad x,.clo (.func 160) []],pre:=fun x=>x.length<2^62,Y:=Unit,post:=fun x y=>True,res:=fun x y=> .bool (x.all CY),outs:=fun x y=>[.top,.top],keep:=false}
theorem b0p:Ah G Tryz.prog 157 Kr:=
 vcFun_okP [(160,0,Gv)] [] false (fun x=>[(2,CO CY (.clo (.func 160) []) x)]) Tryz.func157 rfl (by decide) ⟨Vk,trivial⟩ (fun(x:List Int)=>(∀(y:Unit),True→True∧True∧True∧True)∧eA (CO CY (AV.clo (.func 160) []) x) [Ad x,AV.clo (.func 160) [],Ad x,.int .i64 (↑(List.length x):Int),.int .i64 (0:Int)]∧∀(i:Int),DY CY x i→Ab (decide (i<(↑(List.length x):Int))) (((0:Int)≤i∧i<(↑(List.length x):Int))∧∀(e:Int),x[Int.toNat i]? =some e→cA Gv [.int .i64 e] fun x_1 y=>Ab (!CY x_1) (rA Kr x [.bool false,.top,.top]) (inR IntKind.i64 (i+(1:Int))∧eN (CO CY (AV.clo (.func 160) []) x) i [Ad x,AV.clo (.func 160) [],Ad x,.int .i64 (↑(List.length x):Int),.int .i64 (i+(1:Int))])) (rA Kr x [.bool true,.top,.top])) (fun x=>by kernel_rfl) fun(x:List Int) (hx:x.length<2^62)=>(by
 dsimp only[cA,eA,eN,Ad,CO,rA,Kr,Gv,Aq,Aw,mvL,lnL,mvE,lnE,mvG,mvH,lnG,lnH,Ba]
 have hx:x.length<2^62:=hx
 (repeat' first|(with_reducible first|rfl|exact True.intro|apply AG|apply And.intro|((first|apply Au|apply AE|apply Av|apply AF)<;>intro _))|(apply As<;>intro _)|apply AD|refine Af () ?_ ?_|((first|apply AK|apply AJ|apply AI|apply AH|apply AC|apply AB|apply AA|apply Az|apply Ax)<;>try dsimp only)|apply Af|(refine Prod.forall.2 ?_;intro _;try dsimp only)|(intro _;try dsimp only))
 all_goals first|exact Ko|(rename_i i hi hl e he y _ hp;exact(Kl he hp).symm)|(rename_i i hi hl e he y _ hp;exact Kp hi he hp)|(rename_i i hi hl;exact Kq hi hl)|(obtain⟨_,_,_⟩:= ‹DY _ _ _›;(try simp only[Aj] at*);omega)|skip)
def Ks:Sig:= {X:=List Int,args:=fun x=>[Ad x,.clo (.func 60) []],pre:=fun x=>x.length<2^62,Y:=Unit,post:=fun x y=>True,res:=fun x y=> .bool (x.all CF),outs:=fun x y=>[.top,.top],keep:=false}
theorem b0q:Ah G Tryz.prog 157 Ks:=
 vcFun_okP [(60,0,ED)] [] false (fun x=>[(2,CO CF (.clo (.func 60) []) x)]) Tryz.func157 rfl (by decide) ⟨Qh,trivial⟩ (fun(x:List Int)=>(∀(y:Unit),True→True∧True∧True∧True)∧eA (CO CF (AV.clo (.func 60) []) x) [Ad x,AV.clo (.func 60) [],Ad x,.int .i64 (↑(List.length x):Int),.int .i64 (0:Int)]∧∀(i:Int),DY CF x i→Ab (decide (i<(↑(List.length x):Int))) (((0:Int)≤i∧i<(↑(List.length x):Int))∧∀(e:Int),x[Int.toNat i]? =some e→cA ED [.int .i64 e] fun x_1 y=>Ab (!CF x_1) (rA Ks x [.bool false,.top,.top]) (inR IntKind.i64 (i+(1:Int))∧eN (CO CF (AV.clo (.func 60) []) x) i [Ad x,AV.clo (.func 60) [],Ad x,.int .i64 (↑(List.length x):Int),.int .i64 (i+(1:Int))])) (rA Ks x [.bool true,.top,.top])) (fun x=>by kernel_rfl) fun(x:List Int) (hx:x.length<2^62)=>(by
 dsimp only[cA,eA,eN,Ad,CO,rA,Ks,ED,Aq,Aw,mvL,lnL,mvE,lnE,mvG,mvH,lnG,lnH,Ba]
 have hx:x.length<2^62:=hx
 (repeat' first|(with_reducible first|rfl|exact True.intro|apply AG|apply And.intro|((first|apply Au|apply AE|apply Av|apply AF)<;>intro _))|(apply As<;>intro _)|apply AD|refine Af () ?_ ?_|((first|apply AK|apply AJ|apply AI|apply AH|apply AC|apply AB|apply AA|apply Az|apply Ax)<;>try dsimp only)|apply Af|(refine Prod.forall.2 ?_;intro _;try dsimp only)|(intro _;try dsimp only))
 all_goals first|exact Ko|(rename_i i hi hl e he y _ hp;exact(Kl he hp).symm)|(rename_i i hi hl e he y _ hp;exact Kp hi he hp)|(rename_i i hi hl;exact Kq hi hl)|(obtain⟨_,_,_⟩:= ‹DY _ _ _›;(try simp only[Aj] at*);omega)|skip)
def Kt:Sig:= {X:=List Int,args:=fun x=>[Ad x,.clo (.func 159) []],pre:=fun x=>x.length<2^62,Y:=Unit,post:=fun x y=>True,res:=fun x y=> .bool (x.all Ez),outs:=fun x y=>[.top,.top],keep:=false}
theorem b0r:Ah G Tryz.prog 157 Kt:=
 vcFun_okP [(159,0,Mb)] [] false (fun x=>[(2,CO Ez (.clo (.func 159) []) x)]) Tryz.func157 rfl (by decide) ⟨b0k,trivial⟩ (fun(x:List Int)=>(∀(y:Unit),True→True∧True∧True∧True)∧eA (CO Ez (AV.clo (.func 159) []) x) [Ad x,AV.clo (.func 159) [],Ad x,.int .i64 (↑(List.length x):Int),.int .i64 (0:Int)]∧∀(i:Int),DY Ez x i→Ab (decide (i<(↑(List.length x):Int))) (((0:Int)≤i∧i<(↑(List.length x):Int))∧∀(e:Int),x[Int.toNat i]? =some e→cA Mb [.int .i64 e] fun x_1 y=>Ab (!Ez x_1) (rA Kt x [.bool false,.top,.top]) (inR IntKind.i64 (i+(1:Int))∧eN (CO Ez (AV.clo (.func 159) []) x) i [Ad x,AV.clo (.func 159) [],Ad x,.int .i64 (↑(List.length x):Int),.int .i64 (i+(1:Int))])) (rA Kt x [.bool true,.top,.top])) (fun x=>by kernel_rfl) fun(x:List Int) (hx:x.length<2^62)=>(by
 dsimp only[cA,eA,eN,Ad,CO,rA,Kt,Mb,Aq,Aw,mvL,lnL,mvE,lnE,mvG,mvH,lnG,lnH,Ba]
 have hx:x.length<2^62:=hx
 (repeat' first|(with_reducible first|rfl|exact True.intro|apply AG|apply And.intro|((first|apply Au|apply AE|apply Av|apply AF)<;>intro _))|(apply As<;>intro _)|apply AD|refine Af () ?_ ?_|((first|apply AK|apply AJ|apply AI|apply AH|apply AC|apply AB|apply AA|apply Az|apply Ax)<;>try dsimp only)|apply Af|(refine Prod.forall.2 ?_;intro _;try dsimp only)|(intro _;try dsimp only))
 all_goals first|exact Ko|(rename_i i hi hl e he y _ hp;exact(Kl he hp).symm)|(rename_i i hi hl e he y _ hp;exact Kp hi he hp)|(rename_i i hi hl;exact Kq hi hl)|(obtain⟨_,_,_⟩:= ‹DY _ _ _›;(try simp only[Aj] at*);omega)|skip)
def Ku:Sig:= {X:=List Int,args:=fun x=>[Ad x,.clo (.func 161) []],pre:=fun x=>x.length<2^62,Y:=Unit,post:=fun x y=>True,res:=fun x y=> .bool (x.all CM),outs:=fun x y=>[.top,.top],keep:=false}
theorem b0s:Ah G Tryz.prog 157 Ku:=
 vcFun_okP [(161,0,Km)] [] false (fun x=>[(2,CO CM (.clo (.func 161) []) x)]) Tryz.func157 rfl (by decide) ⟨b0l,trivial⟩ (fun(x:List Int)=>(∀(y:Unit),True→True∧True∧True∧True)∧eA (CO CM (AV.clo (.func 161) []) x) [Ad x,AV.clo (.func 161) [],Ad x,.int .i64 (↑(List.length x):Int),.int .i64 (0:Int)]∧∀(i:Int),DY CM x i→Ab (decide (i<(↑(List.length x):Int))) (((0:Int)≤i∧i<(↑(List.length x):Int))∧∀(e:Int),x[Int.toNat i]? =some e→cA Km [.int .i64 e] fun x_1 y=>Ab (!CM x_1) (rA Ku x [.bool false,.top,.top]) (inR IntKind.i64 (i+(1:Int))∧eN (CO CM (AV.clo (.func 161) []) x) i [Ad x,AV.clo (.func 161) [],Ad x,.int .i64 (↑(List.length x):Int),.int .i64 (i+(1:Int))])) (rA Ku x [.bool true,.top,.top])) (fun x=>by kernel_rfl) fun(x:List Int) (hx:x.length<2^62)=>(by
 dsimp only[cA,eA,eN,Ad,CO,rA,Ku,Km,Aq,Aw,mvL,lnL,mvE,lnE,mvG,mvH,lnG,lnH,Ba]
 have hx:x.length<2^62:=hx
 (repeat' first|(with_reducible first|rfl|exact True.intro|apply AG|apply And.intro|((first|apply Au|apply AE|apply Av|apply AF)<;>intro _))|(apply As<;>intro _)|apply AD|refine Af () ?_ ?_|((first|apply AK|apply AJ|apply AI|apply AH|apply AC|apply AB|apply AA|apply Az|apply Ax)<;>try dsimp only)|apply Af|(refine Prod.forall.2 ?_;intro _;try dsimp only)|(intro _;try dsimp only))
 all_goals first|exact Ko|(rename_i i hi hl e he y _ hp;exact(Kl he hp).symm)|(rename_i i hi hl e he y _ hp;exact Kp hi he hp)|(rename_i i hi hl;exact Kq hi hl)|(obtain⟨_,_,_⟩:= ‹DY _ _ _›;(try simp only[Aj] at*);omega)|skip)
def Kv:Sig:= {X:=List Int,args:=fun x=>[Ad x,.clo (.func 162) []],pre:=fun x=>x.length<2^62,Y:=Unit,post:=fun x y=>True,res:=fun x y=> .bool (x.all Gn),outs:=fun x y=>[.top,.top],keep:=false}
theorem b0t:Ah G Tryz.prog 157 Kv:=
 vcFun_okP [(162,0,Kn)] [] false (fun x=>[(2,CO Gn (.clo (.func 162) []) x)]) Tryz.func157 rfl (by decide) ⟨b0m,trivial⟩ (fun(x:List Int)=>(∀(y:Unit),True→True∧True∧True∧True)∧eA (CO Gn (AV.clo (.func 162) []) x) [Ad x,AV.clo (.func 162) [],Ad x,.int .i64 (↑(List.length x):Int),.int .i64 (0:Int)]∧∀(i:Int),DY Gn x i→Ab (decide (i<(↑(List.length x):Int))) (((0:Int)≤i∧i<(↑(List.length x):Int))∧∀(e:Int),x[Int.toNat i]? =some e→cA Kn [.int .i64 e] fun x_1 y=>Ab (!Gn x_1) (rA Kv x [.bool false,.top,.top]) (inR IntKind.i64 (i+(1:Int))∧eN (CO Gn (AV.clo (.func 162) []) x) i [Ad x,AV.clo (.func 162) [],Ad x,.int .i64 (↑(List.length x):Int),.int .i64 (i+(1:Int))])) (rA Kv x [.bool true,.top,.top])) (fun x=>by kernel_rfl) fun(x:List Int) (hx:x.length<2^62)=>(by
 dsimp only[cA,eA,eN,Ad,CO,rA,Kv,Kn,Aq,Aw,mvL,lnL,mvE,lnE,mvG,mvH,lnG,lnH,Ba]
 have hx:x.length<2^62:=hx
 (repeat' first|(with_reducible first|rfl|exact True.intro|apply AG|apply And.intro|((first|apply Au|apply AE|apply Av|apply AF)<;>intro _))|(apply As<;>intro _)|apply AD|refine Af () ?_ ?_|((first|apply AK|apply AJ|apply AI|apply AH|apply AC|apply AB|apply AA|apply Az|apply Ax)<;>try dsimp only)|apply Af|(refine Prod.forall.2 ?_;intro _;try dsimp only)|(intro _;try dsimp only))
 all_goals first|exact Ko|(rename_i i hi hl e he y _ hp;exact(Kl he hp).symm)|(rename_i i hi hl e he y _ hp;exact Kp hi he hp)|(rename_i i hi hl;exact Kq hi hl)|(obtain⟨_,_,_⟩:= ‹DY _ _ _›;(try simp only[Aj] at*);omega)|skip)
def Hr:Sig:= {X:=List Int,args:=fun x=>[Ad x,.clo (.func 191) []],pre:=fun x=>x.length<2^62,Y:=Unit,post:=fun x y=>True,res:=fun x y=> .bool (x.all Dw),outs:=fun x y=>[.top,.top],keep:=false}
theorem a0t:Ah G Tryz.prog 157 Hr:=
 vcFun_okP [(191,0,Mc)] [] false (fun x=>[(2,CO Dw (.clo (.func 191) []) x)]) Tryz.func157 rfl (by decide) ⟨b0n,trivial⟩ (fun(x:List Int)=>(∀(y:Unit),True→True∧True∧True∧True)∧eA (CO Dw (AV.clo (.func 191) []) x) [Ad x,AV.clo (.func 191) [],Ad x,.int .i64 (↑(List.length x):Int),.int .i64 (0:Int)]∧∀(i:Int),DY Dw x i→Ab (decide (i<(↑(List.length x):Int))) (((0:Int)≤i∧i<(↑(List.length x):Int))∧∀(e:Int),x[Int.toNat i]? =some e→cA Mc [.int .i64 e] fun x_1 y=>Ab (!Dw x_1) (rA Hr x [.bool false,.top,.top]) (inR IntKind.i64 (i+(1:Int))∧eN (CO Dw (AV.clo (.func 191) []) x) i [Ad x,AV.clo (.func 191) [],Ad x,.int .i64 (↑(List.length x):Int),.int .i64 (i+(1:Int))])) (rA Hr x [.bool true,.top,.top])) (fun x=>by kernel_rfl) fun(x:List Int) (hx:x.length<2^62)=>(by
 dsimp only[cA,eA,eN,Ad,CO,rA,Hr,Mc,Aq,Aw,mvL,lnL,mvE,lnE,mvG,mvH,lnG,lnH,Ba]
 have hx:x.length<2^62:=hx
 (repeat' first|(with_reducible first|rfl|exact True.intro|apply AG|apply And.intro|((first|apply Au|apply AE|apply Av|apply AF)<;>intro _))|(apply As<;>intro _)|apply AD|refine Af () ?_ ?_|((first|apply AK|apply AJ|apply AI|apply AH|apply AC|apply AB|apply AA|apply Az|apply Ax)<;>try dsimp only)|apply Af|(refine Prod.forall.2 ?_;intro _;try dsimp only)|(intro _;try dsimp only))
 all_goals first|exact Ko|(rename_i i hi hl e he y _ hp;exact(Kl he hp).symm)|(rename_i i hi hl e he y _ hp;exact Kp hi he hp)|(rename_i i hi hl;exact Kq hi hl)|(obtain⟨_,_,_⟩:= ‹DY _ _ _›;(try simp only[Aj] at*);omega)|skip)
theorem a0u{p:Int→Bool}{x:List Int}(h:¬(0:Int)<x.length):false=EA p x:=by
 obtain rfl:x=[]:=List.length_eq_zero_iff.1 (by omega)
 rfl
theorem a0v{p:Int→Bool}{x:List Int}{e:Int}(he:x[(x.length-1:Int).toNat]? =some e):EA p x=(p e&&(x.take (x.length-1:Int).toNat).all Dw):=by
 have e1:(x.length-1:Int).toNat=x.length-1:=by omega
 rw[e1] at he ⊢
 unfold EA
 rw[List.getLast?_eq_getElem?,he,List.dropLast_eq_take]
def Jc:Sig:= {X:=List Int,args:=fun x=>[Ad x,.clo (.func 76) []],pre:=fun x=>x.length<2^62,Y:=Unit,post:=fun x y=>True,res:=fun x y=> .bool (EA AX x),outs:=fun x y=>[.top,.top],keep:=false}
theorem b0u:Ah G Tryz.prog 158 Jc:=
 vcFun_okP [(76,0,EC),(157,191+1,Hr)] [] false (fun x=>[]) Tryz.func158 rfl (by decide) ⟨Qg,a0t,trivial⟩ (fun(x:List Int)=>(∀(y:Unit),True→True∧True∧True∧True)∧Ab (decide ((↑(List.length x):Int)>(0:Int))) (inR IntKind.i64 ((↑(List.length x):Int)-(1:Int))∧((0:Int)≤(↑(List.length x):Int)-(1:Int)∧(↑(List.length x):Int)-(1:Int)<(↑(List.length x):Int))∧∀(e:Int),x[Int.toNat ((↑(List.length x):Int)-(1:Int))]? =some e→cA EC [.int .i64 e] fun x_1 y=>Ab (AX x_1) (inR IntKind.i64 ((↑(List.length x):Int)-(1:Int))∧((0:Int)≤(0:Int)∧(0:Int)≤(↑(List.length x):Int)-(1:Int)∧(↑(List.length x):Int)-(1:Int)≤(↑(List.length x):Int))∧cA Hr [Ad (List.take (Int.toNat ((↑(List.length x):Int)-(1:Int))) x),AV.clo (Fn.func (161:Nat)) []] fun x_2 y=>rA Jc x [.bool (List.all x_2 Dw),.top,.top]) (rA Jc x [.bool false,.top,.top])) (rA Jc x [.bool false,.top,.top])) (fun x=>by kernel_rfl) fun(x:List Int) (hx:x.length<2^62)=>(by
 dsimp only[cA,Ad,rA,Hr,EC,Jc,Aq,Aw,mvL,lnL,mvE,lnE,mvG,mvH,lnG,lnH]
 have hx:x.length<2^62:=hx
 (repeat' first|(with_reducible first|rfl|exact True.intro|apply AG|apply And.intro|((first|apply Au|apply AE|apply Av|apply AF)<;>intro _))|(apply As<;>intro _)|apply AD|refine Af () ?_ ?_|((first|apply AK|apply AJ|apply AI|apply AH|apply AC|apply AB|apply AA|apply Az|apply Ax)<;>try dsimp only)|apply Af|(refine Prod.forall.2 ?_;intro _;try dsimp only)|(intro _;try dsimp only))<;>(try dsimp only at*)<;>(try simp only[Aj,List.length_cons,List.length_nil])<;>(try omega)
 all_goals first|exact a0u (by omega)|(rw[a0v ‹_›];simp [*];done)|(rw[List.length_take];omega)|skip)
def Jd:Sig:= {X:=List Int,args:=fun x=>[Ad x,.clo (.func 160) []],pre:=fun x=>x.length<2^62,Y:=Unit,post:=fun x y=>True,res:=fun x y=> .bool (EA CY x),outs:=fun x y=>[.top,.top],keep:=false}
theorem b0v:Ah G Tryz.prog 158 Jd:=
 vcFun_okP [(160,0,Gv),(157,191+1,Hr)] [] false (fun x=>[]) Tryz.func158 rfl (by decide) ⟨Vk,a0t,trivial⟩ (fun(x:List Int)=>(∀(y:Unit),True→True∧True∧True∧True)∧Ab (decide ((↑(List.length x):Int)>(0:Int))) (inR IntKind.i64 ((↑(List.length x):Int)-(1:Int))∧((0:Int)≤(↑(List.length x):Int)-(1:Int)∧(↑(List.length x):Int)-(1:Int)<(↑(List.length x):Int))∧∀(e:Int),x[Int.toNat ((↑(List.length x):Int)-(1:Int))]? =some e→cA Gv [.int .i64 e] fun x_1 y=>Ab (CY x_1) (inR IntKind.i64 ((↑(List.length x):Int)-(1:Int))∧((0:Int)≤(0:Int)∧(0:Int)≤(↑(List.length x):Int)-(1:Int)∧(↑(List.length x):Int)-(1:Int)≤(↑(List.length x):Int))∧cA Hr [Ad (List.take (Int.toNat ((↑(List.length x):Int)-(1:Int))) x),AV.clo (Fn.func (161:Nat)) []] fun x_2 y=>rA Jd x [.bool (List.all x_2 Dw),.top,.top]) (rA Jd x [.bool false,.top,.top])) (rA Jd x [.bool false,.top,.top])) (fun x=>by kernel_rfl) fun(x:List Int) (hx:x.length<2^62)=>(by
 dsimp only[cA,Ad,rA,Hr,Gv,Jd,Aq,Aw,mvL,lnL,mvE,lnE,mvG,mvH,lnG,lnH]
 have hx:x.length<2^62:=hx
 (repeat' first|(with_reducible first|rfl|exact True.intro|apply AG|apply And.intro|((first|apply Au|apply AE|apply Av|apply AF)<;>intro _))|(apply As<;>intro _)|apply AD|refine Af () ?_ ?_|((first|apply AK|apply AJ|apply AI|apply AH|apply AC|apply AB|apply AA|apply Az|apply Ax)<;>try dsimp only)|apply Af|(refine Prod.forall.2 ?_;intro _;try dsimp only)|(intro _;try dsimp only))<;>(try dsimp only at*)<;>(try simp only[Aj,List.length_cons,List.length_nil])<;>(try omega)
 all_goals first|exact a0u (by omega)|(rw[a0v ‹_›];simp [*];done)|(rw[List.length_take];omega)|skip)
def BX:Sig:= {X:=Int×List Int,args:=fun x=>[.int .i64 x.1,Ad x.2],pre:=fun x=>x.2.length<2^62,Y:=Unit,post:=fun x y=>True,res:=fun x y=> .bool (CR x.1 x.2),outs:=fun x y=>[.top,.top],keep:=false}
def NR(x:Int×List Int)(x_1:Jb.X):Prop:=Ab ((↑(List.length x.2):Int)==(1:Int)) (rA BX x [.bool (List.all x_1 AX),.top,.top]) (rA BX x [.bool false,.top,.top])
theorem b0w:Ah G Tryz.prog 124 BX:=
 vcFun_okP [(76,0,EC),(160,0,Gv),(36,0,BN),(157,76+1,Jb),(157,160+1,Kr),(157,60+1,Ks),(157,159+1,Kt),(157,161+1,Ku),(157,162+1,Kv),(158,76+1,Jc),(158,160+1,Jd)] [] false (fun x=>[]) Tryz.func124 rfl (by decide) ⟨Qg,Vk,GM,b0o,b0p,b0q,b0r,b0s,b0t,b0u,b0v,trivial⟩ (fun(x:Int×List Int)=>(∀(y:Unit),True→True∧True∧True∧True)∧cA Jb [Ad x.2,AV.clo (Fn.func (126:Nat)) []] fun x_1 y=>Ab (x.1==(1:Int)) (rA BX x [.bool ((↑(List.length x.2):Int)==(0:Int)),.top,.top]) (Ab (x.1==(2:Int)) (rA BX x [.bool ((↑(List.length x.2):Int)==(0:Int)),.top,.top]) (Ab (x.1==(3:Int)) (rA BX x [.bool ((↑(List.length x.2):Int)==(0:Int)),.top,.top]) (Ab (x.1==(19:Int)) (rA BX x [.bool ((↑(List.length x.2):Int)==(0:Int)),.top,.top]) (Ab (x.1==(4:Int)) (rA BX x [.bool (List.all x_1 AX),.top,.top]) (Ab (x.1==(5:Int)) (Ab (decide ((↑(List.length x.2):Int)≥(1:Int))) (rA BX x [.bool (List.all x_1 AX),.top,.top]) (rA BX x [.bool false,.top,.top])) (Ab (x.1==(7:Int)) (Ab (decide ((↑(List.length x.2):Int)≥(2:Int))) (rA BX x [.bool (List.all x_1 AX),.top,.top]) (rA BX x [.bool false,.top,.top])) (Ab (x.1==(8:Int)) (Ab ((↑(List.length x.2):Int)==(3:Int)) (rA BX x [.bool (List.all x_1 AX),.top,.top]) (rA BX x [.bool false,.top,.top])) (Ab (x.1==(6:Int)) (NR x x_1) (Ab (x.1==(11:Int)) (NR x x_1) (Ab (x.1==(13:Int)) (NR x x_1) (Ab (x.1==(14:Int)) (NR x x_1) (Ab (x.1==(12:Int)) (Ab (decide ((↑(List.length x.2):Int)≤(1:Int))) (rA BX x [.bool (List.all x_1 AX),.top,.top]) (rA BX x [.bool false,.top,.top])) (Ab (x.1==(15:Int)) (Ab (decide ((↑(List.length x.2):Int)≤(1:Int))) (rA BX x [.bool (List.all x_1 AX),.top,.top]) (rA BX x [.bool false,.top,.top])) (Ab (x.1==(9:Int)) (cA Jc [Ad x.2,AV.clo (Fn.func (126:Nat)) []] fun x_2 y=>rA BX x [.bool (EA AX x_2),.top,.top]) (Ab (x.1==(10:Int)) (Ab (decide ((↑(List.length x.2):Int)≥(2:Int))) (((0:Int)≤(0:Int)∧(0:Int)<(↑(List.length x.2):Int))∧∀(e:Int),x.2[(0:Nat)]? =some e→cA EC [.int .i64 e] fun x_2 y=>Ab (AX x_2) (((0:Int)≤(1:Int)∧((1:Int)≤(↑(List.length x.2):Int)∧(↑(List.length x.2):Int)≤(↑(List.length x.2):Int)))∧cA Kt [Ad (List.drop (1:Nat) x.2),AV.clo (Fn.func (128:Nat)) []] fun x_3 y=>rA BX x [.bool (List.all x_3 Ez),.top,.top]) (rA BX x [.bool false,.top,.top])) (rA BX x [.bool false,.top,.top])) (Ab (x.1==(16:Int)) (cA BN [.int .i64 (↑(List.length x.2):Int),.int .i64 (2:Int),.int .i64 (3:Int)] fun x_2 y=>Ab (inn x_2.1 x_2.2.1 x_2.2.2) (((0:Int)≤(0:Int)∧(0:Int)<(↑(List.length x.2):Int))∧∀(e:Int),x.2[(0:Nat)]? =some e→cA EC [.int .i64 e] fun x_3 y=>Ab (AX x_3) (((0:Int)≤(1:Int)∧((1:Int)≤(↑(List.length x.2):Int)∧(↑(List.length x.2):Int)≤(↑(List.length x.2):Int)))∧cA Kr [Ad (List.drop (1:Nat) x.2),AV.clo (Fn.func (129:Nat)) []] fun x_4 y=>rA BX x [.bool (List.all x_4 CY),.top,.top]) (rA BX x [.bool false,.top,.top])) (rA BX x [.bool false,.top,.top])) (Ab (x.1==(17:Int)) (Ab ((↑(List.length x.2):Int)==(2:Int)) (((0:Int)≤(0:Int)∧(0:Int)<(↑(List.length x.2):Int))∧∀(e:Int),x.2[(0:Nat)]? =some e→cA EC [.int .i64 e] fun x_2 y=>Ab (AX x_2) (((0:Int)≤(1:Int)∧(1:Int)<(↑(List.length x.2):Int))∧∀(e:Int),x.2[(1:Nat)]? =some e→cA Gv [.int .i64 e] fun x_3 y=>rA BX x [.bool (CY x_3),.top,.top]) (rA BX x [.bool false,.top,.top])) (rA BX x [.bool false,.top,.top])) (Ab (x.1==(18:Int)) (cA Ku [Ad x.2,AV.clo (Fn.func (130:Nat)) []] fun x_2 y=>rA BX x [.bool (List.all x_2 CM),.top,.top]) (Ab (x.1==(20:Int)) (cA Jd [Ad x.2,AV.clo (Fn.func (129:Nat)) []] fun x_2 y=>rA BX x [.bool (EA CY x_2),.top,.top]) (Ab (x.1==(21:Int)) (cA Ks [Ad x.2,AV.clo (Fn.func (99:Nat)) []] fun x_2 y=>rA BX x [.bool (List.all x_2 CF),.top,.top]) (Ab (x.1==(22:Int)) (cA Kv [Ad x.2,AV.clo (Fn.func (131:Nat)) []] fun x_2 y=>rA BX x [.bool (List.all x_2 Gn),.top,.top]) (rA BX x [.bool false,.top,.top]))))))))))))))))))))))) (fun x=>by kernel_rfl) fun(x:Int×List Int) (hx:x.2.length<2^62)=>(by
 dsimp only[NR,cA,Ad,rA,Kr,Kt,Ks,Ku,Kv,Jb,BN,Gv,EC,BX,Jd,Jc,Aq,Aw,mvL,lnL,mvE,lnE,mvG,mvH,lnG,lnH]
 have hx:x.2.length<2^62:=hx
 obtain⟨k,l⟩:=x
 (repeat' first|(with_reducible first|rfl|exact True.intro|apply AG|apply And.intro|((first|apply Au|apply AE|apply Av|apply AF)<;>intro _))|(apply As<;>intro _)|apply AD|refine Af () ?_ ?_|((first|apply AK|apply AJ|apply AI|apply AH|apply AC|apply AB|apply AA|apply Az|apply Ax)<;>try dsimp only)|apply Af|(refine Prod.forall.2 ?_;intro _;try dsimp only)|(intro _;try dsimp only))<;>(try dsimp only at*)<;>(try simp only[Aj,List.length_cons,List.length_nil])<;>(try omega)
 all_goals try(simp only[List.length_drop];omega)
 all_goals try(simp [CR,Fr, *]<;>omega)
 all_goals(match l with
  |[]=>simp_all [CR,inn]<;>omega
  |[a]=>simp_all [CR,inn]<;>omega
  |[a,b]=>simp_all [CR,inn]<;>omega
  |[a,b,c]=>simp_all [CR,inn]<;>omega
  |a::b::c::d::m=>simp_all [CR,inn]<;>omega))
def DZ:Sig:= {X:=List Nd×Int,args:=fun x=>[nds x.1,.int .i64 x.2],pre:=fun x=>x.1.length<2^62,Y:=Unit,post:=fun x y=>True,res:=fun x y=> .bool (Bf x.1 x.2),outs:=fun x y=>[.top,.top],keep:=false}
theorem NS:Ah G Tryz.prog 57 DZ:=
 vcFun_okP [] [] false (fun x=>[]) Tryz.func57 rfl (by decide) trivial (fun(x:List Nd×Int)=>(∀(y:Unit),True→True∧True∧True∧True)∧Ab (decide (x.2≥(0:Int))) (rA DZ x [.bool (decide (x.2<(↑(List.length x.1):Int))),.top,.top]) (rA DZ x [.bool false,.top,.top])) (fun x=>by kernel_rfl) fun(x:List Nd×Int) (hx:x.1.length<2^62)=>(by
 dsimp only[Bi,nds,rA,DZ,Aq,Aw]
 have hx:x.1.length<2^62:=hx
 (repeat' first|(with_reducible first|rfl|exact True.intro|apply AG|apply And.intro|((first|apply Au|apply AE|apply Av|apply AF)<;>intro _))|(apply As<;>intro _)|apply AD|refine Af () ?_ ?_|((first|apply AK|apply AJ|apply AI|apply AH|apply AC|apply AB|apply AA|apply Az|apply Ax)<;>try dsimp only)|apply Af|(refine Prod.forall.2 ?_;intro _;try dsimp only)|(intro _;try dsimp only))<;>(try dsimp only at*)<;>(try simp only[Aj,List.length_cons,List.length_nil])<;>(try omega)
 all_goals simp [Bf, *])
def Qi(x:Nd):Prop:=x.text.length<2^62∧x.kids.length<2^62
def CZ(l:List Nd):Prop:=l.length<2^62∧∀x∈l,Qi x
theorem b0x{l:List Nd}{n:Nat}{x:Nd}(hx:l[n]? =some x)(h:CZ l):Qi x:=h.2 x (AZ hx)
def Gw(v:Int):List Int→Int→Int
 |[],_=> -1
 |c::l,i=>if v=c then i else Gw v l (i+1)
theorem a0w{v:Int}:∀ {l:List Int} {i:Int},0≤i→(0≤Gw v l i↔v∈l)
 |[],i,h=>by simp [Gw]
 |c::l,i,h=>by
  unfold Gw
  by_cases e:v=c
  ·simp [e,h]
  ·rw[if_neg e,a0w (by omega)];simp [e]
def Kw:Sig:= {X:=List Int×Int,args:=fun x=>[Ad x.1,.int .i64 x.2],pre:=fun x=>x.1.length<2^62,Y:=Unit,post:=fun x y=>True,res:=fun x y=> .int .i64 (Gw x.2 x.1 0),outs:=fun x y=>[.top,.top],keep:=false}
def Qj(x:List Int×Int):LS:= {ι:=Int,inv:=fun i=>(0≤i∧i≤x.1.length)∧Gw x.2 (x.1.drop i.toNat) i=Gw x.2 x.1 0,regs:=fun i=>[(0,Ad x.1),(1,.int .i64 x.2),(7,.int .i64 x.1.length),(8,.int .i64 i)],als:=[],meas:=fun i=>x.1.length-i.toNat}
theorem b0y:Ah G Tryz.prog 156 Kw:=
 vcFun_okP [] [] false (fun x=>[(2,Qj x)]) Tryz.func156 rfl (by decide) trivial (fun(x:List Int×Int)=>(∀(y:Unit),True→True∧True∧True∧True)∧eA (Qj x) [Ad x.1,.int .i64 x.2,.int .i64 (↑(List.length x.1):Int),.int .i64 (0:Int)]∧∀(i:Int),((0:Int)≤i∧i≤(↑(List.length x.1):Int))∧Gw x.2 (List.drop (Int.toNat i) x.1) i=Gw x.2 x.1 (0:Int)→Ab (decide (i<(↑(List.length x.1):Int))) (((0:Int)≤i∧i<(↑(List.length x.1):Int))∧∀(e:Int),x.1[Int.toNat i]? =some e→Ab (x.2==e) (rA Kw x [.int .i64 i,.top,.top]) (inR IntKind.i64 (i+(1:Int))∧eN (Qj x) i [Ad x.1,.int .i64 x.2,.int .i64 (↑(List.length x.1):Int),.int .i64 (i+(1:Int))])) (rA Kw x [.int .i64 (-1:Int),.top,.top])) (fun x=>by kernel_rfl) fun(x:List Int×Int) (hx:x.1.length<2^62)=>(by
 dsimp only[eA,eN,Qj,Ad,rA,Kw,Aq,Aw,Ba]
 have hx:x.1.length<2^62:=hx
 (repeat' first|(with_reducible first|rfl|exact True.intro|apply AG|apply And.intro|((first|apply Au|apply AE|apply Av|apply AF)<;>intro _))|(apply As<;>intro _)|apply AD|refine Af () ?_ ?_|((first|apply AK|apply AJ|apply AI|apply AH|apply AC|apply AB|apply AA|apply Az|apply Ax)<;>try dsimp only)|apply Af|(refine Prod.forall.2 ?_;intro _;try dsimp only)|(intro _;try dsimp only))<;>(try dsimp only at*)<;>(try simp only[Aj,List.length_cons,List.length_nil])<;>(try omega)
 all_goals first
  |(rename_i i hi hl e he h;rw[←hi.2,Dm he];simp [Gw,h];done)
  |(rename_i i hi hl e he h;rw[←hi.2,Dm he,BG hi.1.1];simp [Gw,h];done)
  |rfl
  |(rename_i i hi hl;rw[←hi.2,List.drop_eq_nil_of_le (by omega)];rfl)
  |skip)
def Md:Sig:= {X:=List Int×Int,args:=fun x=>[Ad x.1,.int .i64 x.2],pre:=fun x=>x.1.length<2^62,Y:=Unit,post:=fun x y=>True,res:=fun x y=> .bool (x.1.elem x.2),outs:=fun x y=>[.top,.top],keep:=false}
theorem b0z:Ah G Tryz.prog 123 Md:=
 vcFun_okP [(156,0,Kw)] [] false (fun x=>[]) Tryz.func123 rfl (by decide) ⟨b0y,trivial⟩ (fun(x:List Int×Int)=>(∀(y:Unit),True→True∧True∧True∧True)∧cA Kw [Ad x.1,.int .i64 x.2] fun x_1 y=>rA Md x [.bool (decide (Gw x_1.2 x_1.1 (0:Int)≥(0:Int))),.top,.top]) (fun x=>by kernel_rfl) fun(x:List Int×Int) (hx:x.1.length<2^62)=>(by
 dsimp only[cA,Ad,rA,Md,Kw,Aq,Aw,mvL,lnL,mvE,lnE,mvG,mvH,lnG,lnH]
 have hx:x.1.length<2^62:=hx
 (repeat' first|(with_reducible first|rfl|exact True.intro|apply AG|apply And.intro|((first|apply Au|apply AE|apply Av|apply AF)<;>intro _))|(apply As<;>intro _)|apply AD|refine Af () ?_ ?_|((first|apply AK|apply AJ|apply AI|apply AH|apply AC|apply AB|apply AA|apply Az|apply Ax)<;>try dsimp only)|apply Af|(refine Prod.forall.2 ?_;intro _;try dsimp only)|(intro _;try dsimp only))<;>(try dsimp only at*)<;>(try simp only[Aj,List.length_cons,List.length_nil])<;>(try omega)
 all_goals first|(rw[Bool.eq_iff_iff,decide_eq_true_iff,List.elem_iff];exact a0w (by omega))|skip)
theorem a0x{ns:List Nd}{x:Nd}:EO ns x=true↔∀(j:Nat) c,x.kids[j]? =some c→CK ns x j c=true:=by
 have e:EO ns x=BE (fun i c=>CK ns x i.toNat c) x.kids 0:=by
  unfold EO
  have:(fun p:Int×Nat=>CK ns x p.2 p.1)=fun p:Int×Nat=>(fun(i c:Int)=>CK ns x i.toNat c) p.2 p.1:=by funext p;simp
  rw[this];exact Vh (f:=fun i c=>CK ns x i.toNat c) (i:=0)
 rw[e,Vi];simp
def cfI(ns:List Nd)(x:Nd)(i:Int):Prop:=0≤i∧i≤x.kids.length∧∀(j:Nat) c,(j:Int)<i→x.kids[j]? =some c→CK ns x j c=true
theorem b0A{ns:List Nd}{x:Nd}:cfI ns x 0:=⟨by omega,by omega,fun j c h=>by omega⟩
theorem Qk{ns:List Nd}{x:Nd}{i c:Int}(h:cfI ns x i)(hc:x.kids[i.toNat]? =some c)(hk:CK ns x i.toNat c=true):cfI ns x (i+1):=by
 obtain⟨h1,h2,h3⟩:=h
 have:=(Cx hc).1
 refine⟨by omega,by omega,fun j d hj hd=> ?_⟩
 by_cases e:(j:Int)<i
 ·exact h3 j d e hd
 ·obtain rfl:j=i.toNat:=by omega
  rw[hc] at hd;cases hd;exact hk
theorem b0B{ns:List Nd}{x:Nd}{i:Int}(h:cfI ns x i)(hl:¬i<x.kids.length):true=EO ns x:=by
 symm;rw[a0x];intro j c hc
 exact h.2.2 j c (by have:=(Cx hc).1;omega) hc
theorem Vl{ns:List Nd}{x:Nd}{i c:Int}(hc:x.kids[i.toNat]? =some c)(hk:CK ns x i.toNat c=false):false=EO ns x:=by
 symm;rw[Bool.eq_false_iff];intro h
 rw[a0x.1 h _ _ hc] at hk;cases hk
theorem b0C{ns:List Nd}{x y:Nd}{i c:Int}(hy:ns[c.toNat]? =some y)(h:y.kind≠5):CK ns x i.toNat c=true:=by
 simp [CK,Br hy,h]
theorem b0D{ns:List Nd}{x y:Nd}{i c:Int}(hy:ns[c.toNat]? =some y)(h:y.kind=5)(h0:(y.kids.length:Int)=0):CK ns x i.toNat c=false:=by
 have h0:=List.length_eq_zero_iff.1 (show y.kids.length=0 by omega)
 simp [CK,Br hy,h,h0]
theorem b0E{ns:List Nd}{x y:Nd}{i c d:Int}(hy:ns[c.toNat]? =some y)(h:y.kind=5)(hd:Bf ns d=false)(h0:y.kids[0]? =some d):CK ns x i.toNat c=false:=by
 match hk:y.kids with
 |[]=>rw[hk] at h0;cases h0
 |e::t=>rw[hk] at h0;cases h0;simp [CK,Br hy,h,hk,hd]
theorem b0F{ns:List Nd}{x y z:Nd}{i c d d':Int}(hy:ns[c.toNat]? =some y)(h:y.kind=5)(hd:Bf ns d=true)(h0:y.kids[0]? =some d)(hz:ns[d'.toNat]? =some z)(h0':y.kids[0]? =some d')(h10:x.kind=10)(hi:i>0)(h1:z.kind≠1):CK ns x i.toNat c=false:=by
 match hk:y.kids with
 |[]=>rw[hk] at h0;cases h0
 |e::t=>rw[hk] at h0 h0';cases h0;cases h0';simp [CK,Br hy,h,hk,hd,h10,Al,Br hz,h1];omega
theorem b0G{ns:List Nd}{x y z:Nd}{i c d d':Int}(hy:ns[c.toNat]? =some y)(h:y.kind=5)(hd:Bf ns d=true)(h0:y.kids[0]? =some d)(hz:ns[d'.toNat]? =some z)(h0':y.kids[0]? =some d')(h1:z.kind=1):CK ns x i.toNat c=true:=by
 match hk:y.kids with
 |[]=>rw[hk] at h0;cases h0
 |e::t=>rw[hk] at h0 h0';cases h0;cases h0';simp [CK,Br hy,h,hk,hd,Al,Br hz,h1]
theorem b0H{ns:List Nd}{x y:Nd}{i c d:Int}(hy:ns[c.toNat]? =some y)(h:y.kind=5)(hd:Bf ns d=true)(h0:y.kids[0]? =some d)(h1:x.kind≠10):CK ns x i.toNat c=true:=by
 match hk:y.kids with
 |[]=>rw[hk] at h0;cases h0
 |e::t=>rw[hk] at h0;cases h0;simp [CK,Br hy,h,hk,hd,h1]
theorem b0I{ns:List Nd}{x y:Nd}{i c d:Int}(hy:ns[c.toNat]? =some y)(h:y.kind=5)(hd:Bf ns d=true)(h0:y.kids[0]? =some d)(h1:¬i>0):CK ns x i.toNat c=true:=by
 have:i.toNat=0:=by omega
 match hk:y.kids with
 |[]=>rw[hk] at h0;cases h0
 |e::t=>rw[hk] at h0;cases h0;simp [CK,Br hy,h,hk,hd,this]
theorem ndB{ns:List Nd}{l:List Int}{d d':Int}(hd:Bf ns d=true)(h0:l[0]? =some d)(h0':l[0]? =some d'):0≤d'∧d'<ns.length:=by
 rw[h0] at h0';cases h0';exact Bc.1 hd
def GR:Sig:= {X:=List Nd×Nd,args:=fun x=>[nds x.1,.agg (ndA false x.2)],pre:=fun x=>CZ x.1∧Qi x.2∧∀c∈x.2.kids,0≤c∧c<x.1.length,Y:=Unit,post:=fun x y=>True,res:=fun x y=> .bool (EO x.1 x.2),outs:=fun x y=>[.top,.top],keep:=false}
def Ql(x:List Nd×Nd):LS:= {ι:=Int,inv:=cfI x.1 x.2,regs:=fun i=>[(0,nds x.1),(3,.box 0 (ndA false x.2)),(9,Ad x.2.kids),(10,.int .i64 x.2.kids.length),(11,.int .i64 i)],als:=[],meas:=fun i=>x.2.kids.length-i.toNat}
def NT(x:List Nd×Nd)(i:Int):Prop:=eN (Ql x) i [nds x.1,.box 0 [.int .i64 x.2.kind,.str x.2.text,Ad x.2.kids,.bool x.2.blank],Ad x.2.kids,.int .i64 (↑(List.length x.2.kids):Int),.int .i64 (i+(1:Int))]
theorem b0J:Ah G Tryz.prog 125 GR:=
 vcFun_okP [(57,0,DZ)] [] false (fun x=>[(2,Ql x)]) Tryz.func125 rfl (by decide) ⟨NS,trivial⟩ (fun(x:List Nd×Nd)=>(∀(y:Unit),True→True∧True∧True∧True)∧eA (Ql x) [nds x.1,.box 0 [.int .i64 x.2.kind,.str x.2.text,Ad x.2.kids,.bool x.2.blank],Ad x.2.kids,.int .i64 (↑(List.length x.2.kids):Int),.int .i64 (0:Int)]∧∀(i:Int),cfI x.1 x.2 i→Ab (decide (i<(↑(List.length x.2.kids):Int))) (((0:Int)≤i∧i<(↑(List.length x.2.kids):Int))∧∀(e:Int),x.2.kids[Int.toNat i]? =some e→((0:Int)≤e∧e<(↑(List.length x.1):Int))∧∀(e_1:Nd),x.1[Int.toNat e]? =some e_1→Ab (e_1.kind != (5:Int)) (inR IntKind.i64 (i+(1:Int))∧(NT x i)) (Ab ((↑(List.length e_1.kids):Int)==(0:Int)) (rA GR x [.bool false,.top,.top]) (((0:Int)≤(0:Int)∧(0:Int)<(↑(List.length e_1.kids):Int))∧∀(e:Int),e_1.kids[(0:Nat)]? =some e→cA DZ [nds x.1,.int .i64 e] fun x_1 y=>Ab (!Bf x_1.1 x_1.2) (rA GR x [.bool false,.top,.top]) (Ab (x.2.kind==(10:Int)) (Ab (decide (i>(0:Int))) (((0:Int)≤(0:Int)∧(0:Int)<(↑(List.length e_1.kids):Int))∧∀(e:Int),e_1.kids[(0:Nat)]? =some e→((0:Int)≤e∧e<(↑(List.length x.1):Int))∧∀(e_2:Nd),x.1[Int.toNat e]? =some e_2→Ab (e_2.kind != (1:Int)) (rA GR x [.bool false,.top,.top]) (inR IntKind.i64 (i+(1:Int))∧(NT x i))) (inR IntKind.i64 (i+(1:Int))∧(NT x i))) (inR IntKind.i64 (i+(1:Int))∧(NT x i)))))) (rA GR x [.bool true,.top,.top])) (fun x=>by kernel_rfl) fun(x:List Nd×Nd) (hx:CZ x.1∧Qi x.2∧∀c∈x.2.kids,0≤c∧c<x.1.length)=>(by
 dsimp only[NT,cA,eA,eN,Ql,Ad,Bi,nds,rA,GR,DZ,Aq,Aw,mvL,lnL,mvE,lnE,mvG,mvH,lnG,lnH,Ba]
 obtain⟨h1,h2,h3⟩:=hx;have hl:=h1.1;have hk:=h2.2
 (repeat' first|(with_reducible first|rfl|exact True.intro|apply AG|apply And.intro|((first|apply Au|apply AE|apply Av|apply AF)<;>intro _))|(apply As<;>intro _)|apply AD|refine Af () ?_ ?_|((first|apply AK|apply AJ|apply AI|apply AH|apply AC|apply AB|apply AA|apply Az|apply Ax)<;>try dsimp only)|apply Af|(refine Prod.forall.2 ?_;intro _;try dsimp only)|(intro _;try dsimp only))
 all_goals first
  |exact b0A
  |exact b0B ‹_› ‹_›
  |exact Qk ‹_› ‹_› (b0C ‹_› ‹_›)
  |exact Qk ‹_› ‹_› (b0I ‹_› ‹_› ‹_› ‹_› ‹_›)
  |exact Qk ‹_› ‹_› (b0H ‹_› ‹_› ‹_› ‹_› ‹_›)
  |exact Qk ‹_› ‹_› (b0G ‹_› ‹_› ‹_› ‹_› ‹_› ‹_› ‹_›)
  |exact Vl ‹_› (b0D ‹_› ‹_› ‹_›)
  |exact Vl ‹_› (b0E ‹_› ‹_› ‹_› ‹_›)
  |exact Vl ‹_› (b0F ‹_› ‹_› ‹_› ‹_› ‹_› ‹_› ‹_› ‹_› ‹_›)
  |exact(h3 _ (AZ ‹_›)).1
  |exact(h3 _ (AZ ‹_›)).2
  |exact(ndB ‹_› ‹_› ‹_›).1
  |exact(ndB ‹_› ‹_› ‹_›).2
  |(obtain⟨_,_,_⟩:= ‹cfI _ _ _›;(try simp only[Aj] at*);omega)
  |skip)
def nkI(k:Int)(l:List Int)(i:Int):Prop:=0≤i∧i≤l.length∧(∀c∈l.take i.toNat,0≤c∧c<k)∧(l.take i.toNat).Nodup
theorem a0y{k:Int}{l:List Int}:nkI k l 0:=⟨by omega,by omega,by simp,by simp⟩
theorem a0z{k:Int}{l:List Int}{i c:Int}(h:nkI k l i)(hc:l[i.toNat]? =some c)(h1:¬c<0)(h2:¬c≥k)(h3:(l.take i.toNat).elem c=false):nkI k l (i+1):=by
 obtain⟨ha,hb,hd,he⟩:=h
 have:=(Cx hc).1
 refine⟨by omega,by omega,?_,?_⟩
 ·rw[BG ha,Df hc];intro d hd'
  rcases List.mem_append.1 hd' with hd'|hd'
  ·exact hd d hd'
  ·simp at hd';subst hd';omega
 ·rw[BG ha,Df hc,List.nodup_append]
  refine⟨he,by simp,?_⟩
  intro a ha' b hb' hab
  simp at hb';subst hb';subst hab
  simp at h3;exact h3 ha'
theorem NU{k:Int}{l:List Int}{i:Int}(h:nkI k l i)(hl:¬i<l.length):DG l k=true∧l.Nodup:=by
 obtain⟨ha,hb,hd,he⟩:=h
 rw[List.take_of_length_le (by omega)] at hd he
 exact⟨by simpa [DG] using hd,he⟩
theorem b0K{k:Int}{l:List Int}{n:Nat}{c:Int}(hc:l[n]? =some c)(h1:c<0):DG l k=false:=by
 rw[Bool.eq_false_iff];intro h;simp only[DG,List.all_eq_true,Bool.and_eq_true,decide_eq_true_eq] at h
 have:=h c (AZ hc);omega
theorem b0L{k:Int}{l:List Int}{n:Nat}{c:Int}(hc:l[n]? =some c)(h1:c≥k):DG l k=false:=by
 rw[Bool.eq_false_iff];intro h;simp only[DG,List.all_eq_true,Bool.and_eq_true,decide_eq_true_eq] at h
 have:=h c (AZ hc);omega
theorem a0A{l:List Int}{n:Nat}{c:Int}(hc:l[n]? =some c)(h1:(l.take n).elem c=true):¬l.Nodup:=by
 intro h
 have e:l=l.take n++l.drop n:=(List.take_append_drop n l).symm
 rw[e,Dm hc,List.nodup_append] at h
 exact h.2.2 c (by simpa using h1) c (by simp) rfl
theorem a0B{ns:List Nd}{k:Int}(h:Bf ns k=false):false=Cc ns k:=by simp [Cc,h]
theorem Me{ns:List Nd}{k:Int}{x:Nd}(hx:ns[k.toNat]? =some x)(h:Bf ns k=true):Cc ns k=Ho ns k x:=by rw[Cc,h,Br hx];rfl
theorem b0M{ns:List Nd}{k:Int}{x:Nd}(hx:ns[k.toNat]? =some x)(h:Bf ns k=true)(h1:(x.kids.length:Int)>12):false=Cc ns k:=by
 rw[Me hx h,Ho,decide_eq_false (by omega)];rfl
theorem b0N{ns:List Nd}{k:Int}{x:Nd}(hx:ns[k.toNat]? =some x)(h:Bf ns k=true)(h1:Dv x.kind x.text=false):false=Cc ns k:=by
 rw[Me hx h,Ho,h1];simp
theorem a0C{ns:List Nd}{k:Int}{x:Nd}(hx:ns[k.toNat]? =some x)(h:Bf ns k=true)(h1:DG x.kids k=false):false=Cc ns k:=by
 rw[Me hx h,Ho,h1];simp
theorem b0O{ns:List Nd}{k:Int}{x:Nd}(hx:ns[k.toNat]? =some x)(h:Bf ns k=true)(h1:¬x.kids.Nodup):false=Cc ns k:=by
 rw[Me hx h,Ho,decide_eq_false h1];simp
theorem a0D{ns:List Nd}{k i:Int}{x:Nd}(hx:ns[k.toNat]? =some x)(h:Bf ns k=true)(h1:(x.kids.length:Int)≤12)(h2:Dv x.kind x.text=true)(h3:nkI k x.kids i)(hl:¬i<x.kids.length):
 Cc ns k=(CR x.kind ((x.kids.take i.toNat).map (Al ns))&&(EO ns x&&(GL x.kind|| !x.blank))):=by
 obtain⟨ha,hb⟩:=NU h3 hl
 rw[List.take_of_length_le (by have:=h3.1;omega),Me hx h,Ho,h2,ha,decide_eq_true hb,decide_eq_true (by omega)];simp
theorem Vm{k:Int}{l:List Int}{i c n:Int}(h:nkI k l i)(hl:¬i<l.length)(hk:k<n)(hc:c∈l):0≤c∧c<n:=by
 have:=(NU h hl).1
 simp only[DG,List.all_eq_true,Bool.and_eq_true,decide_eq_true_eq] at this
 have:=this c hc;omega
theorem b0P{ns:List Nd}{l:List Int}{i c:Int}{y:Nd}(h0:0≤i)(hc:l[i.toNat]? =some c)(hy:ns[c.toNat]? =some y):(l.take i.toNat).map (Al ns)++[y.kind]=(l.take (i+1).toNat).map (Al ns):=by
 rw[BG h0,Df hc,List.map_append];simp [Al,Br hy]
def Qm(x:List Nd×Int):LS:= {
 ι:=Int,inv:=nkI x.2 (Aa x.1 x.2).kids,
 regs:=fun i=>[(0,nds x.1),(1,.int .i64 x.2),(5,.box 0 (ndA false (Aa x.1 x.2))),(6,AW (((Aa x.1 x.2).kids.take i.toNat).map (Al x.1))),(28,Ad (Aa x.1 x.2).kids),(29,.int .i64 (Aa x.1 x.2).kids.length),(30,.int .i64 i)],als:=[],meas:=fun i=>(Aa x.1 x.2).kids.length-i.toNat}
def DJ:Sig:= {X:=List Nd×Int,args:=fun x=>[nds x.1,.int .i64 x.2],pre:=fun x=>CZ x.1,Y:=Unit,post:=fun x y=>True,res:=fun x y=> .bool (Cc x.1 x.2),outs:=fun x y=>[.top,.top],keep:=false}
theorem b0Q:Ah G Tryz.prog 98 DJ:=
 vcFun_okP [(57,0,DZ),(122,0,Dn),(123,0,Md),(59,0,Gu),(60,0,ED),(124,0,BX),(125,0,GR)] [(38,⟨Int,Cw⟩)] false (fun x=>[(8,Qm x)]) Tryz.func98 rfl (by decide) ⟨NS,a9X,b0z,Vj,Qh,b0w,b0J,trivial⟩ (fun(x:List Nd×Int)=>(∀(y:Unit),True→True∧True∧True∧True)∧cA DZ [nds x.1,.int .i64 x.2] fun x_1 y=>Ab (!Bf x_1.1 x_1.2) (rA DJ x [.bool false,.top,.top]) (((0:Int)≤x.2∧x.2<(↑(List.length x.1):Int))∧∀(e:Nd),x.1[Int.toNat x.2]? =some e→Ab (decide ((↑(List.length e.kids):Int)>(12:Int))) (rA DJ x [.bool false,.top,.top]) (cA Dn [.agg [.int .i64 e.kind,.str e.text,Ad e.kids,.bool e.blank]] fun x_2 y=>Ab (!Dv x_2.kind x_2.text) (rA DJ x [.bool false,.top,.top]) (eA (Qm x) [nds x.1,.int .i64 x.2,.box 0 [.int .i64 e.kind,.str e.text,Ad e.kids,.bool e.blank],.nil,Ad e.kids,.int .i64 (↑(List.length e.kids):Int),.int .i64 (0:Int)]∧∀(i:Int),nkI x.2 (Aa x.1 x.2).kids i→Ab (decide (i<(↑(List.length (Aa x.1 x.2).kids):Int))) (((0:Int)≤i∧i<(↑(List.length (Aa x.1 x.2).kids):Int))∧∀(e:Int),(Aa x.1 x.2).kids[Int.toNat i]? =some e→Ab (decide (e<(0:Int))) (rA DJ x [.bool false,.top,.top]) (Ab (decide (e≥x.2)) (rA DJ x [.bool false,.top,.top]) (((0:Int)≤(0:Int)∧(0:Int)≤i∧i≤(↑(List.length (Aa x.1 x.2).kids):Int))∧cA Md [Ad (List.take (Int.toNat i) (Aa x.1 x.2).kids),.int .i64 e] fun x_3 y=>Ab (List.elem x_3.2 x_3.1) (rA DJ x [.bool false,.top,.top]) (((0:Int)≤e∧e<(↑(List.length x.1):Int))∧∀(e_1:Nd),x.1[Int.toNat e]? =some e_1→∃(x_4:Int),e_1.kind=x_4∧∃(zs:List Int),AW [x_4]=AW zs∧Bg Cw∧AY (List.length (List.map (Al x.1) (List.take (Int.toNat i) (Aa x.1 x.2).kids))+List.length zs) (8:Nat)∧inR IntKind.i64 (i+(1:Int))∧eN (Qm x) i [nds x.1,.int .i64 x.2,.box 0 [.int .i64 (Aa x.1 x.2).kind,.str (Aa x.1 x.2).text,Ad (Aa x.1 x.2).kids,.bool (Aa x.1 x.2).blank],AW (List.map (Al x.1) (List.take (Int.toNat i) (Aa x.1 x.2).kids)++zs),Ad (Aa x.1 x.2).kids,.int .i64 (↑(List.length (Aa x.1 x.2).kids):Int),.int .i64 (i+(1:Int))])))) (cA Gu [.int .i64 (Aa x.1 x.2).kind] fun x_3 y=>Ab (Gm x_3) (cA BX [.int .i64 (Aa x.1 x.2).kind,AW (List.map (Al x.1) (List.take (Int.toNat i) (Aa x.1 x.2).kids))] fun x_4 y=>Ab (CR x_4.1 x_4.2) (cA GR [nds x.1,.agg [.int .i64 (Aa x.1 x.2).kind,.str (Aa x.1 x.2).text,Ad (Aa x.1 x.2).kids,.bool (Aa x.1 x.2).blank]] fun x_5 y=>Ab (EO x_5.1 x_5.2) (rA DJ x [.bool true,.top,.top]) (rA DJ x [.bool false,.top,.top])) (rA DJ x [.bool false,.top,.top])) (cA ED [.int .i64 (Aa x.1 x.2).kind] fun x_4 y=>Ab (CF x_4) (cA BX [.int .i64 (Aa x.1 x.2).kind,AW (List.map (Al x.1) (List.take (Int.toNat i) (Aa x.1 x.2).kids))] fun x_5 y=>Ab (CR x_5.1 x_5.2) (cA GR [nds x.1,.agg [.int .i64 (Aa x.1 x.2).kind,.str (Aa x.1 x.2).text,Ad (Aa x.1 x.2).kids,.bool (Aa x.1 x.2).blank]] fun x_6 y=>Ab (EO x_6.1 x_6.2) (rA DJ x [.bool true,.top,.top]) (rA DJ x [.bool false,.top,.top])) (rA DJ x [.bool false,.top,.top])) (cA BX [.int .i64 (Aa x.1 x.2).kind,AW (List.map (Al x.1) (List.take (Int.toNat i) (Aa x.1 x.2).kids))] fun x_5 y=>Ab (CR x_5.1 x_5.2) (cA GR [nds x.1,.agg [.int .i64 (Aa x.1 x.2).kind,.str (Aa x.1 x.2).text,Ad (Aa x.1 x.2).kids,.bool (Aa x.1 x.2).blank]] fun x_6 y=>Ab (EO x_6.1 x_6.2) (Ab ((Aa x.1 x.2).kind==(21:Int)) (rA DJ x [.bool true,.top,.top]) (rA DJ x [.bool !(Aa x.1 x.2).blank,.top,.top])) (rA DJ x [.bool false,.top,.top])) (rA DJ x [.bool false,.top,.top])))))))) (fun x=>by kernel_rfl) fun(x:List Nd×Int) (hx:CZ x.1)=>(by
 dsimp only[cA,eA,eN,Ad,Qm,Bi,nds,AW,rA,GR,Md,DJ,ED,DZ,Gu,BX,Dn,Aq,Aw,mvL,lnL,mvE,lnE,mvG,mvH,lnG,lnH,Ba]
 have h1:CZ x.1:=hx;have hl:=h1.1
 (repeat' first|(with_reducible first|rfl|exact True.intro|apply AG|apply And.intro|((first|apply Au|apply AE|apply Av|apply AF)<;>intro _))|(apply As<;>intro _)|apply AD|refine Af () ?_ ?_|((first|apply AK|apply AJ|apply AI|apply AH|apply AC|apply AB|apply AA|apply Az|apply Ax)<;>try dsimp only)|apply Af|(refine Prod.forall.2 ?_;intro _;try dsimp only)|(intro _;try dsimp only))
 all_goals try(simp only[Br (show x.1[x.2.toNat]? =some _ by assumption)] at*)
 all_goals first
  |rfl
  |exact a0y
  |exact(h1.2 _ (AZ ‹_›)).1
  |exact(h1.2 _ (AZ ‹_›)).2
  |exact b0x ‹_› h1
  |exact(Vm ‹_› ‹_› (Bc.1 ‹Bf _ _=true›).2 ‹_›).1
  |exact(Vm ‹_› ‹_› (Bc.1 ‹Bf _ _=true›).2 ‹_›).2
  |exact a0B ‹_›
  |exact b0M ‹_› ‹_› ‹_›
  |exact b0N ‹_› ‹_› ‹_›
  |exact a0C ‹_› ‹_› (b0K ‹_› ‹_›)
  |exact a0C ‹_› ‹_› (b0L ‹_› ‹_›)
  |exact b0O ‹_› ‹_› (a0A ‹_› ‹_›)
  |exact a0z ‹_› ‹_› ‹_› ‹_› ‹_›
  |exact b0P (‹nkI _ _ _›.1) ‹_› ‹_›
  |(refine Eq.trans ?_ (a0D (show x.1[x.2.toNat]? =some _ by assumption) ‹_› (by omega) ‹_› ‹_› ‹_›).symm;simp [-List.map_take,GL,Fr, *];done)
  |omega
  |(have:=Bc.1 ‹Bf _ _=true›;omega)
  |(have:=Bc.1 ‹Bf _ _=true›;obtain⟨_,_,_⟩:= ‹nkI _ _ _›;(try simp only[Aj,AY,List.length_take,List.length_map,List.length_append,List.length_cons,List.length_nil] at*);omega)
  |(refine Eq.trans ?_ (a0D (show x.1[x.2.toNat]? =some _ by assumption) ‹_› (by omega) ‹_› ‹_› ‹_›).symm;rw[‹CR _ _=true›,‹EO _ _=true›];simp [GL, *]))
def dl(k i:Int)(ds:List Int):List Int:=ds++List.replicate (k+1-i).toNat 0
def dI(ns:List Nd)(k i:Int)(ds:List Int):Prop:=Bf ns k=true∧0≤i∧i≤k+1∧BW ns i.toNat=some ds
def dJ(ns:List Nd)(k i:Int)(ds:List Int)(j d:Int):Prop:=dI ns k i ds∧i≤k∧Cc ns i=true∧0≤j∧j≤(Aa ns i).kids.length∧0≤d∧d≤14∧mx ds ((Aa ns i).kids.drop j.toNat) d=mx ds (Aa ns i).kids 0
theorem b0R{ns:List Nd}{k:Int}(h:Bf ns k=true):dI ns k 0 []:=⟨h,by omega,by have:=Bc.1 h;omega,rfl⟩
theorem b0S{k:Int}:List.replicate (k+1).toNat 0=dl k 0 []:=by simp [dl]
theorem a0E{ns:List Nd}{k i:Int}{ds:List Int}(h:dI ns k i ds):((dl k i ds).length:Int)=k+1:=by
 obtain⟨h0,h1,h2,h3⟩:=h
 have:=IX h3
 rw[dl,List.length_append,List.length_replicate];omega
theorem b0T{ns:List Nd}{k i:Int}{ds:List Int}(h:dI ns k i ds)(hl:i<k+1)(hn:Cc ns i=false):0=BM ns k:=by
 obtain⟨h0,h1,h2,h3⟩:=h
 have:BW ns (i.toNat+1)=none:=by
  unfold BW;rw[h3];simp only
  rw[show((i.toNat:Nat):Int)=i by omega,hn];rfl
 unfold BM;rw[if_pos h0,US this (by omega)]
theorem b0U{ns:List Nd}{k i:Int}{ds:List Int}(h:dI ns k i ds)(hl:i<k+1)(hn:Cc ns i=true):dJ ns k i ds 0 0:=
 ⟨h,by omega,hn,by omega,by omega,by omega,by omega,by simp⟩
theorem a0F{ns:List Nd}{k i:Int}{ds:List Int}{j d c:Int}(h:dJ ns k i ds j d)(hc:(Aa ns i).kids[j.toNat]? =some c):0≤c∧c<i:=by
 exact(Dj h.2.2.1).2.2.2.1 c (AZ hc)
theorem Vn{ns:List Nd}{k i:Int}{ds:List Int}{j d c:Int}(h:dJ ns k i ds j d)(hc:(Aa ns i).kids[j.toNat]? =some c):0≤c∧c<(dl k i ds).length:=by
 have:=a0F h hc;have:=a0E h.1;have:=h.1.2.2;omega
theorem b0V{ns:List Nd}{k i:Int}{ds:List Int}{j d c v:Int}(h:dJ ns k i ds j d)(hc:(Aa ns i).kids[j.toNat]? =some c)(hv:(dl k i ds)[c.toNat]? =some v):ds.getD c.toNat 0=v∧1≤v∧v≤14:=by
 have h1:=a0F h hc
 have h2:=IX h.1.2.2.2
 rw[dl,List.getElem?_append_left (by omega)] at hv
 refine⟨by simp [List.getD,hv],?_⟩
 exact LR h.1.2.2.2 v (AZ hv)
theorem b0W{ns:List Nd}{k i:Int}{ds:List Int}{j d c v:Int}(h:dJ ns k i ds j d)(hc:(Aa ns i).kids[j.toNat]? =some c)(hv:(dl k i ds)[c.toNat]? =some v):dJ ns k i ds (j+1) (max d v):=by
 obtain⟨hv1,hv2,hv3⟩:=b0V h hc hv
 obtain⟨h1,h2,h3,h4,h5,h6,h7,h8⟩:=h
 have:=(Cx hc).1
 refine⟨h1,h2,h3,by omega,by omega,by omega,by omega,?_⟩
 rw[←h8,Dm hc,BG h4];simp only[mx,hv1]
theorem a0G{ns:List Nd}{k i:Int}{ds:List Int}{j d:Int}(h:dJ ns k i ds j d)(hl:¬j<(Aa ns i).kids.length):d=mx ds (Aa ns i).kids 0:=by
 obtain⟨h1,h2,h3,h4,h5,h6,h7,h8⟩:=h
 rw[List.drop_eq_nil_of_le (by omega)] at h8;exact h8
theorem b0X{ns:List Nd}{k i:Int}{ds:List Int}{j d:Int}(h:dJ ns k i ds j d)(hl:¬j<(Aa ns i).kids.length)(hd:d≥14):0=BM ns k:=by
 have hm:=a0G h hl
 obtain⟨⟨ha,hb,he,hf⟩,h2,h3,_⟩:=h
 have e:((i.toNat:Nat):Int)=i:=by omega
 have:BW ns (i.toNat+1)=none:=by
  unfold BW;rw[hf];simp only
  rw[e,h3,if_pos rfl,if_pos (by omega)]
 unfold BM;rw[if_pos ha,US this (by omega)]
theorem b0Y{ns:List Nd}{k i:Int}{ds:List Int}{j d:Int}(h:dJ ns k i ds j d)(hl:¬j<(Aa ns i).kids.length)(hd:¬d≥14):dI ns k (i+1) (ds++[d+1]):=by
 have hm:=a0G h hl
 obtain⟨⟨ha,hb,he,hf⟩,h2,h3,_⟩:=h
 have e:((i.toNat:Nat):Int)=i:=by omega
 refine⟨ha,by omega,by omega,?_⟩
 rw[BG hb];unfold BW;rw[hf];simp only
 rw[e,h3,if_pos rfl,if_neg (by omega),←hm]
theorem b0Z{ns:List Nd}{k i:Int}{ds:List Int}{j d:Int}(h:dJ ns k i ds j d):(dl k i ds).set i.toNat (d+1)=dl k (i+1) (ds++[d+1]):=by
 obtain⟨⟨ha,hb,he,hf⟩,h2,h3,_⟩:=h
 have hl:=IX hf
 have e:(k+1-i).toNat=(k+1-(i+1)).toNat+1:=by omega
 unfold dl;rw[List.set_append_right _ _ (by omega),e,hl];simp [List.replicate_succ]
theorem b1a{ns:List Nd}{k i v:Int}{ds:List Int}(h:dI ns k i ds)(hl:¬i<k+1)(hv:(dl k i ds)[k.toNat]? =some v):v=BM ns k:=by
 obtain⟨h0,h1,h2,h3⟩:=h
 obtain rfl:i=k+1:=by omega
 have:=Bc.1 h0
 rw[show(k+1).toNat=k.toNat+1 by omega] at h3
 unfold BM;rw[if_pos h0,h3]
 simp [dl] at hv
 simp [List.getD,hv]
theorem a0H{ns:List Nd}{k:Int}(h:Bf ns k=false):0=BM ns k:=by simp [BM,h]
theorem b1b{ns:List Nd}{k i:Int}{ds:List Int}{j d:Int}(h:dJ ns k i ds j d):((Aa ns i).kids.length:Int)≤12:=by
 have:=(Dj h.2.2.1).2.1;omega
def Qn(x:List Nd×Int)(o:Int×List Int):LS:= {
 ι:=Int×Int,inv:=fun i=>dJ x.1 x.2 o.1 o.2 i.1 i.2,
 regs:=fun i=>[(0,nds x.1),(1,.int .i64 x.2),(5,AW (dl x.2 o.1 o.2)),(18,.int .i64 (x.2+1)),(19,.int .i64 o.1),(6,.int .i64 o.1),(7,.int .i64 i.2),(30,Ad (Aa x.1 o.1).kids),(31,.int .i64 (Aa x.1 o.1).kids.length),(32,.int .i64 i.1)],als:=[],meas:=fun i=>(Aa x.1 o.1).kids.length-i.1.toNat}
def Qo(x:List Nd×Int):LS:= {
 ι:=Int×List Int,inv:=fun i=>dI x.1 x.2 i.1 i.2,
 regs:=fun i=>[(0,nds x.1),(1,.int .i64 x.2),(5,AW (dl x.2 i.1 i.2)),(18,.int .i64 (x.2+1)),(19,.int .i64 i.1)],als:=[],meas:=fun i=>x.2.toNat+1-i.1.toNat,
 sub:=fun i=>[(11,Qn x i)]}
def Gx:Sig:= {X:=List Nd×Int,args:=fun x=>[nds x.1,.int .i64 x.2],pre:=fun x=>CZ x.1∧x.1.length≤2^30,Y:=Unit,post:=fun x y=>True,res:=fun x y=> .int .i64 (BM x.1 x.2),outs:=fun x y=>[.top,.top],keep:=false}
theorem a0I:Ah G Tryz.prog 58 Gx:=
 vcFun_okP [(57,0,DZ),(98,0,DJ)] [(38,⟨Int,Cw⟩)] false (fun x=>[(5,Qo x)]) Tryz.func58 rfl (by decide) ⟨NS,b0Q,trivial⟩ (fun(x:List Nd×Int)=>(∀(y:Unit),True→True∧True∧True∧True)∧cA DZ [nds x.1,.int .i64 x.2] fun x_1 y=>Ab (!Bf x_1.1 x_1.2) (rA Gx x [.int .i64 (0:Int),.top,.top]) (inR IntKind.i64 (x.2+(1:Int))∧((0:Int)≤x.2+(1:Int)∧x.2+(1:Int)≤x.2+(1:Int)∧(↑(8:Nat):Int)*(x.2+(1:Int))≤(2:Int)^(46:Nat)∧x.2+(1:Int)≤(2:Int)^(46:Nat))∧∃(x_2:Int),(0:Int)=x_2∧eA (Qo x) [nds x.1,.int .i64 x.2,AW (List.replicate (Int.toNat (x.2+(1:Int))) x_2),.int .i64 (↑(List.length (List.replicate (Int.toNat (x.2+(1:Int))) x_2)):Int),.int .i64 (0:Int)]∧∀(i:Int×List Int),dI x.1 x.2 i.1 i.2→Ab (decide (i.1<x.2+(1:Int))) (cA DJ [nds x.1,.int .i64 i.1] fun x_3 y=>Ab (!Cc x_3.1 x_3.2) (rA Gx x [.int .i64 (0:Int),.top,.top]) (((0:Int)≤i.1∧i.1<(↑(List.length x.1):Int))∧∀(e:Nd),x.1[Int.toNat i.1]? =some e→eA (Qn x i) [nds x.1,.int .i64 x.2,AW (dl x.2 i.1 i.2),.int .i64 (x.2+(1:Int)),.int .i64 i.1,.int .i64 i.1,.int .i64 (0:Int),Ad e.kids,.int .i64 (↑(List.length e.kids):Int),.int .i64 (0:Int)]∧∀(i_1:Int×Int),dJ x.1 x.2 i.1 i.2 i_1.1 i_1.2→Ab (decide (i_1.1<(↑(List.length (Aa x.1 i.1).kids):Int))) (((0:Int)≤i_1.1∧i_1.1<(↑(List.length (Aa x.1 i.1).kids):Int))∧∀(e:Int),(Aa x.1 i.1).kids[Int.toNat i_1.1]? =some e→((0:Int)≤e∧e<(↑(List.length (dl x.2 i.1 i.2)):Int))∧Int.toNat e<List.length (dl x.2 i.1 i.2)∧∀(x_4:Int),(dl x.2 i.1 i.2)[Int.toNat e]? =some x_4→inR IntKind.i64 (i_1.1+(1:Int))∧eN (Qn x i) i_1 [nds x.1,.int .i64 x.2,AW (dl x.2 i.1 i.2),.int .i64 (x.2+(1:Int)),.int .i64 i.1,.int .i64 i.1,.int .i64 (max i_1.2 x_4),Ad (Aa x.1 i.1).kids,.int .i64 (↑(List.length (Aa x.1 i.1).kids):Int),.int .i64 (i_1.1+(1:Int))]) (Ab (decide (i_1.2≥(14:Int))) (rA Gx x [.int .i64 (0:Int),.top,.top]) (inR IntKind.i64 (i_1.2+(1:Int))∧((0:Int)≤i.1∧i.1<(↑(List.length (dl x.2 i.1 i.2)):Int))∧Int.toNat i.1<List.length (dl x.2 i.1 i.2)∧∀(x_4:Int),(dl x.2 i.1 i.2)[Int.toNat i.1]? =some x_4→∃(x':Int),((@List.nil AV)=[]∧(@List.nil AV)=[])∧i_1.2+(1:Int)=x'∧inR IntKind.i64 (i.1+(1:Int))∧eN (Qo x) i [nds x.1,.int .i64 x.2,AW (List.set (dl x.2 i.1 i.2) (Int.toNat i.1) x'),.int .i64 (x.2+(1:Int)),.int .i64 (i.1+(1:Int))])))) (((0:Int)≤x.2∧x.2<(↑(List.length (dl x.2 i.1 i.2)):Int))∧Int.toNat x.2<List.length (dl x.2 i.1 i.2)∧∀(x_3:Int),(dl x.2 i.1 i.2)[Int.toNat x.2]? =some x_3→rA Gx x [.int .i64 x_3,.top,.top]))) (fun x=>by kernel_rfl) fun(x:List Nd×Int) (hx:CZ x.1∧x.1.length≤2^30)=>(by
 dsimp only[cA,eA,eN,Ad,Qo,Qn,Bi,nds,AW,rA,Gx,DJ,DZ,Aq,Aw,mvL,lnL,mvE,lnE,mvG,mvH,lnG,lnH,Ba]
 obtain⟨h1,h2⟩:=hx;have hl:=h1.1
 (repeat' first|(with_reducible first|rfl|exact True.intro|apply AG|apply And.intro|((first|apply Au|apply AE|apply Av|apply AF)<;>intro _))|(apply As<;>intro _)|apply AD|refine Af () ?_ ?_|((first|apply AK|apply AJ|apply AI|apply AH|apply AC|apply AB|apply AA|apply Az|apply Ax)<;>try dsimp only)|apply Af|(refine Prod.forall.2 ?_;intro _;try dsimp only)|(intro _;try dsimp only))
 all_goals try(have nd0:=Bc.1 (show Bf x.1 x.2=true by assumption))
 all_goals first
  |rfl
  |exact a0H ‹_›
  |exact b0R ‹_›
  |exact b0S
  |exact b0T ‹_› ‹_› ‹_›
  |exact b0U ‹_› ‹_› ‹_›
  |exact(Vn ‹_› ‹_›).1
  |exact(Vn ‹_› ‹_›).2
  |exact b0W ‹_› ‹_› ‹_›
  |exact b0X ‹_› ‹_› ‹_›
  |exact b0Y ‹_› ‹_› ‹_›
  |exact b0Z ‹_›
  |exact b1a ‹_› ‹_› ‹_›
  |(rw[Br ‹_›];done)
  |(rw[List.length_replicate];omega)
  |(have:=b1b ‹_›;obtain⟨⟨_,_,_,_⟩,_,_,_,_,_,_,_⟩:= ‹dJ _ _ _ _ _ _›;(try simp only[Aj,AY] at*);omega)
  |(have:=a0E ‹_›;obtain⟨_,_,_,_⟩:= ‹dI _ _ _ _›;(try simp only[Aj,AY] at*);omega)
  |(have:=Vn ‹_› ‹_›;omega)
  |((try simp only[Aj,AY] at*);omega)
  |skip)
def tk(ns:List Nd)(i j:Int):List Int:=ZT (ns.take i.toNat)++(Aa ns i).kids.take j.toNat
theorem BA{x a b:Int}:inn x a b=true↔a≤x∧x≤b:=by simp [inn]
def Ea:Sig:= {X:=Int,args:=fun x=>[.int .i64 x],pre:=fun x=>True,Y:=Unit,post:=fun x y=>True,res:=fun x y=> .bool (AX x),outs:=fun x y=>[.top],keep:=false}
theorem Qp:Ah G Tryz.prog 34 Ea:=
 vcFun_okP [(45,0,Bz)] [] false (fun x=>[]) Tryz.func34 rfl (by decide) ⟨GN,trivial⟩ (fun(x:Int)=>(∀(y:Unit),True→True∧True∧True)∧cA Bz [.int .i64 x,.int .i64 (1:Int),.int .i64 (11:Int)] fun x_1 y=>rA Ea x [.bool (inn x_1.1 x_1.2.1 x_1.2.2),.top]) (fun x=>by kernel_rfl) fun(x:Int) (hx:True)=>(by
 dsimp only[cA,rA,Bz,Ea,Aq,Aw,mvL,lnL,mvE,lnE,mvG,mvH,lnG,lnH]
 (repeat' first|(with_reducible first|rfl|exact True.intro|apply AG|apply And.intro|((first|apply Au|apply AE|apply Av|apply AF)<;>intro _))|(apply As<;>intro _)|apply AD|refine Af () ?_ ?_|((first|apply AK|apply AJ|apply AI|apply AH|apply AC|apply AB|apply AA|apply Az|apply Ax)<;>try dsimp only)|apply Af|(refine Prod.forall.2 ?_;intro _;try dsimp only)|(intro _;try dsimp only))<;>(try dsimp only at*)<;>(try simp only[Aj,List.length_cons,List.length_nil])<;>(try omega)
 all_goals simp [AX,Fr, *])
def Hs:Sig:= {X:=Int,args:=fun x=>[.int .i64 x],pre:=fun x=>True,Y:=Unit,post:=fun x y=>True,res:=fun x y=> .bool (CM x),outs:=fun x y=>[.top],keep:=false}
theorem a0J:Ah G Tryz.prog 145 Hs:=
 vcFun_okP [(45,0,Bz)] [] false (fun x=>[]) Tryz.func145 rfl (by decide) ⟨GN,trivial⟩ (fun(x:Int)=>(∀(y:Unit),True→True∧True∧True)∧cA Bz [.int .i64 x,.int .i64 (12:Int),.int .i64 (17:Int)] fun x_1 y=>Ab (inn x_1.1 x_1.2.1 x_1.2.2) (rA Hs x [.bool true,.top]) (rA Hs x [.bool (x==(19:Int)),.top])) (fun x=>by kernel_rfl) fun(x:Int) (hx:True)=>(by
 dsimp only[cA,rA,Bz,Hs,Aq,Aw,mvL,lnL,mvE,lnE,mvG,mvH,lnG,lnH]
 (repeat' first|(with_reducible first|rfl|exact True.intro|apply AG|apply And.intro|((first|apply Au|apply AE|apply Av|apply AF)<;>intro _))|(apply As<;>intro _)|apply AD|refine Af () ?_ ?_|((first|apply AK|apply AJ|apply AI|apply AH|apply AC|apply AB|apply AA|apply Az|apply Ax)<;>try dsimp only)|apply Af|(refine Prod.forall.2 ?_;intro _;try dsimp only)|(intro _;try dsimp only))<;>(try dsimp only at*)<;>(try simp only[Aj,List.length_cons,List.length_nil])<;>(try omega)
 all_goals simp [CM,Gm,Fr, *])
def Dk:Sig:= {X:=Int,args:=fun x=>[.int .i64 x],pre:=fun x=>True,Y:=Unit,post:=fun x y=>True,res:=fun x y=> .tup [.int .i64 (CN x).1,.int .i64 (CN x).2],outs:=fun x y=>[.top],keep:=false}
theorem b1c:Ah G Tryz.prog 143 Dk:=
 vcFun_okP [] [] false (fun x=>[]) Tryz.func143 rfl (by decide) trivial (fun(x:Int)=>(∀(y:Unit),True→(True∧True∧True)∧True∧True)∧Ab (x==(4:Int)) (rA Dk x [.tup [.int .i64 (0:Int),.int .i64 (12:Int)],.top]) (Ab (x==(18:Int)) (rA Dk x [.tup [.int .i64 (0:Int),.int .i64 (12:Int)],.top]) (Ab (x==(21:Int)) (rA Dk x [.tup [.int .i64 (0:Int),.int .i64 (12:Int)],.top]) (Ab (x==(22:Int)) (rA Dk x [.tup [.int .i64 (0:Int),.int .i64 (12:Int)],.top]) (Ab (x==(5:Int)) (rA Dk x [.tup [.int .i64 (1:Int),.int .i64 (12:Int)],.top]) (Ab (x==(9:Int)) (rA Dk x [.tup [.int .i64 (1:Int),.int .i64 (12:Int)],.top]) (Ab (x==(20:Int)) (rA Dk x [.tup [.int .i64 (1:Int),.int .i64 (12:Int)],.top]) (Ab (x==(6:Int)) (rA Dk x [.tup [.int .i64 (1:Int),.int .i64 (1:Int)],.top]) (Ab (x==(11:Int)) (rA Dk x [.tup [.int .i64 (1:Int),.int .i64 (1:Int)],.top]) (Ab (x==(13:Int)) (rA Dk x [.tup [.int .i64 (1:Int),.int .i64 (1:Int)],.top]) (Ab (x==(14:Int)) (rA Dk x [.tup [.int .i64 (1:Int),.int .i64 (1:Int)],.top]) (Ab (x==(7:Int)) (rA Dk x [.tup [.int .i64 (2:Int),.int .i64 (12:Int)],.top]) (Ab (x==(10:Int)) (rA Dk x [.tup [.int .i64 (2:Int),.int .i64 (12:Int)],.top]) (Ab (x==(8:Int)) (rA Dk x [.tup [.int .i64 (3:Int),.int .i64 (3:Int)],.top]) (Ab (x==(12:Int)) (rA Dk x [.tup [.int .i64 (0:Int),.int .i64 (1:Int)],.top]) (Ab (x==(15:Int)) (rA Dk x [.tup [.int .i64 (0:Int),.int .i64 (1:Int)],.top]) (Ab (x==(16:Int)) (rA Dk x [.tup [.int .i64 (2:Int),.int .i64 (3:Int)],.top]) (Ab (x==(17:Int)) (rA Dk x [.tup [.int .i64 (2:Int),.int .i64 (2:Int)],.top]) (rA Dk x [.tup [.int .i64 (0:Int),.int .i64 (0:Int)],.top]))))))))))))))))))) (fun x=>by kernel_rfl) fun(x:Int) (hx:True)=>(by
 dsimp only[rA,Dk,Aq,Aw]
 (repeat' first|(with_reducible first|rfl|exact True.intro|apply AG|apply And.intro|((first|apply Au|apply AE|apply Av|apply AF)<;>intro _))|(apply As<;>intro _)|apply AD|refine Af () ?_ ?_|((first|apply AK|apply AJ|apply AI|apply AH|apply AC|apply AB|apply AA|apply Az|apply Ax)<;>try dsimp only)|apply Af|(refine Prod.forall.2 ?_;intro _;try dsimp only)|(intro _;try dsimp only))<;>(try dsimp only at*)<;>(try simp only[Aj,List.length_cons,List.length_nil])<;>(try omega)
 all_goals simp [CN, *])
def GS(x:List Nd×Int×Int):Prop:=CZ x.1∧Bf x.1 x.2.1=true∧((Aa x.1 x.2.1).kind=10→∀c,(Aa x.1 x.2.1).kids[x.2.2.toNat]? =some c→Al x.1 c=5→∃h t,(Aa x.1 c).kids=h::t∧Bf x.1 h=true)∧
 (0≤x.2.2∧x.2.2<(Aa x.1 x.2.1).kids.length)∧∀c,(Aa x.1 x.2.1).kids[x.2.2.toNat]? =some c→0≤c∧c<x.1.length
theorem Vo{x:List Nd×Int×Int}{y:Nd}(h:GS x)(hy:x.1[x.2.1.toNat]? =some y):0≤x.2.2∧x.2.2<y.kids.length:=by
 have:=h.2.2.2.1;rwa [Br hy] at this
theorem a0K{x:List Nd×Int×Int}{y:Nd}{c:Int}(h:GS x)(hy:x.1[x.2.1.toNat]? =some y)(hc:y.kids[x.2.2.toNat]? =some c):0≤c∧c<x.1.length:=by
 have:=h.2.2.2.2 c;rw[Br hy] at this;exact this hc
theorem a0L{x:List Nd×Int×Int}{y z:Nd}{c:Int}(h:GS x)(hy:x.1[x.2.1.toNat]? =some y)(hc:y.kids[x.2.2.toNat]? =some c)(hz:x.1[c.toNat]? =some z)(hk:y.kind=10)(hz5:z.kind=5):∃h t,z.kids=h::t∧Bf x.1 h=true:=by
 have:=h.2.2.1;rw[Br hy] at this
 have:=this hk c hc;rw[Al,Br hz] at this;exact this hz5
theorem a0M{x:List Nd×Int×Int}{y z:Nd}{c d:Int}(h:GS x)(hy:x.1[x.2.1.toNat]? =some y)(hc:y.kids[x.2.2.toNat]? =some c)(hz:x.1[c.toNat]? =some z)(hk:y.kind=10)(hz5:z.kind=5)(hd:z.kids[0]? =some d):(0≤d∧d<x.1.length)∧z.kids.headD 0=d:=by
 obtain⟨a,t,e,ha⟩:=a0L h hy hc hz hk hz5
 rw[e] at hd ⊢;cases hd;exact⟨Bc.1 ha,rfl⟩
theorem a0N{x:List Nd×Int×Int}{y z:Nd}{c:Int}(h:GS x)(hy:x.1[x.2.1.toNat]? =some y)(hc:y.kids[x.2.2.toNat]? =some c)(hz:x.1[c.toNat]? =some z)(hk:y.kind=10)(hz5:z.kind=5):0<z.kids.length:=by
 obtain⟨a,t,e,ha⟩:=a0L h hy hc hz hk hz5
 rw[e];simp
def Kx(x:List Nd×Int×Int):Bool:=Kk x.1 (Aa x.1 x.2.1) x.2.2 ((Aa x.1 x.2.1).kids.getD x.2.2.toNat 0)
theorem a0O{x:List Nd×Int×Int}{y z:Nd}{c:Int}(hy:x.1[x.2.1.toNat]? =some y)(hc:y.kids[x.2.2.toNat]? =some c)(hz:x.1[c.toNat]? =some z):
 Kx x=(FK y.kind y.kids.length x.2.2 z.kind&&(if y.kind=10∧0<x.2.2 then decide (Al x.1 (z.kids.headD 0)=1) else true)):=by
 rw[Kx,Br hy,List.getD,hc,Option.getD_some,Kk,Al,Br hz]
def Da:Sig:= {X:=List Nd×Int×Int,args:=fun x=>[nds x.1,.int .i64 x.2.1,.int .i64 x.2.2],pre:=fun x=>GS x,Y:=Unit,post:=fun x y=>True,res:=fun x y=> .bool (Kx x),outs:=fun x y=>[.top,.top,.top],keep:=false}
theorem b1d:Ah G Tryz.prog 146 Da:=
 vcFun_okP [(34,0,Ea),(145,0,Hs)] [] false (fun x=>[]) Tryz.func146 rfl (by decide) ⟨Qp,a0J,trivial⟩ (fun(x:List Nd×Int×Int)=>(∀(y:Unit),True→True∧True∧True∧True∧True)∧((0:Int)≤x.2.1∧x.2.1<(↑(List.length x.1):Int))∧∀(e:Nd),x.1[Int.toNat x.2.1]? =some e→((0:Int)≤x.2.2∧x.2.2<(↑(List.length e.kids):Int))∧∀(e_1:Int),e.kids[Int.toNat x.2.2]? =some e_1→((0:Int)≤e_1∧e_1<(↑(List.length x.1):Int))∧∀(e_2:Nd),x.1[Int.toNat e_1]? =some e_2→Ab (e.kind==(9:Int)) (inR IntKind.i64 (x.2.2+(1:Int))∧Ab (decide (x.2.2+(1:Int)<(↑(List.length e.kids):Int))) (rA Da x [.bool (e_2.kind==(1:Int)),.top,.top,.top]) (cA Ea [.int .i64 e_2.kind] fun x_1 y=>rA Da x [.bool (AX x_1),.top,.top,.top])) (Ab (e.kind==(20:Int)) (inR IntKind.i64 (x.2.2+(1:Int))∧Ab (decide (x.2.2+(1:Int)<(↑(List.length e.kids):Int))) (rA Da x [.bool (e_2.kind==(1:Int)),.top,.top,.top]) (rA Da x [.bool (e_2.kind==(18:Int)),.top,.top,.top])) (Ab (e.kind==(10:Int)) (Ab (decide (x.2.2>(0:Int))) (Ab (e_2.kind==(5:Int)) (((0:Int)≤(0:Int)∧(0:Int)<(↑(List.length e_2.kids):Int))∧∀(e:Int),e_2.kids[(0:Nat)]? =some e→((0:Int)≤e∧e<(↑(List.length x.1):Int))∧∀(e_3:Nd),x.1[Int.toNat e]? =some e_3→rA Da x [.bool (e_3.kind==(1:Int)),.top,.top,.top]) (rA Da x [.bool false,.top,.top,.top])) (cA Ea [.int .i64 e_2.kind] fun x_1 y=>rA Da x [.bool (AX x_1),.top,.top,.top])) (Ab (e.kind==(16:Int)) (Ab (decide (x.2.2>(0:Int))) (rA Da x [.bool (e_2.kind==(18:Int)),.top,.top,.top]) (cA Ea [.int .i64 e_2.kind] fun x_1 y=>rA Da x [.bool (AX x_1),.top,.top,.top])) (Ab (e.kind==(17:Int)) (Ab (decide (x.2.2>(0:Int))) (rA Da x [.bool (e_2.kind==(18:Int)),.top,.top,.top]) (cA Ea [.int .i64 e_2.kind] fun x_1 y=>rA Da x [.bool (AX x_1),.top,.top,.top])) (Ab (e.kind==(18:Int)) (cA Hs [.int .i64 e_2.kind] fun x_1 y=>rA Da x [.bool (CM x_1),.top,.top,.top]) (Ab (e.kind==(21:Int)) (Ab (e_2.kind==(12:Int)) (rA Da x [.bool true,.top,.top,.top]) (Ab (e_2.kind==(20:Int)) (rA Da x [.bool true,.top,.top,.top]) (rA Da x [.bool (e_2.kind==(19:Int)),.top,.top,.top]))) (Ab (e.kind==(22:Int)) (Ab (e_2.kind==(21:Int)) (rA Da x [.bool true,.top,.top,.top]) (Ab (e_2.kind==(12:Int)) (rA Da x [.bool true,.top,.top,.top]) (Ab (e_2.kind==(20:Int)) (rA Da x [.bool true,.top,.top,.top]) (rA Da x [.bool (e_2.kind==(19:Int)),.top,.top,.top])))) (cA Ea [.int .i64 e_2.kind] fun x_1 y=>rA Da x [.bool (AX x_1),.top,.top,.top]))))))))) (fun x=>by kernel_rfl) fun(x:List Nd×Int×Int) (hx:GS x)=>(by
 dsimp only[cA,Bi,nds,rA,Da,Hs,Ea,Aq,Aw,mvL,lnL,mvE,lnE,mvG,mvH,lnG,lnH]
 have h:=hx;have h1:=h.1;have hl:=h1.1;have hn:=Bc.1 h.2.1
 (repeat' first|(with_reducible first|rfl|exact True.intro|apply AG|apply And.intro|((first|apply Au|apply AE|apply Av|apply AF)<;>intro _))|(apply As<;>intro _)|apply AD|refine Af () ?_ ?_|((first|apply AK|apply AJ|apply AI|apply AH|apply AC|apply AB|apply AA|apply Az|apply Ax)<;>try dsimp only)|apply Af|(refine Prod.forall.2 ?_;intro _;try dsimp only)|(intro _;try dsimp only))
 all_goals first
  |omega
  |exact(Vo h ‹_›).1
  |exact(Vo h ‹_›).2
  |exact(a0K h ‹_› ‹_›).1
  |exact(a0K h ‹_› ‹_›).2
  |exact a0N h ‹_› ‹_› ‹_› ‹_› ‹_›
  |(have:=a0N h ‹_› ‹_› ‹_› ‹_› ‹_›;omega)
  |(have:=(a0M h ‹_› ‹_› ‹_› ‹_› ‹_› ‹_›).1;omega)
  |(have hk:=(h1.2 _ (AZ (show x.1[x.2.1.toNat]? =some _ by assumption))).2;have:=Vo h ‹_›;(try simp only[Aj]);omega)
  |(rw[a0O ‹_› ‹_› ‹_›];simp [FK,Dw,CY,CF,Gn,Ez,Fr, *];done)
  |(rw[a0O ‹_› ‹_› ‹_›,(a0M h ‹_› ‹_› ‹_› ‹_› ‹_› ‹_›).2,Al,Br ‹_›];simp [FK,Ez,Fr, *];done)
  |skip)
def koI(ns:List Nd)(x:Nd)(i:Int):Prop:=0≤i∧i≤x.kids.length∧∀(j:Nat) c,(j:Int)<i→x.kids[j]? =some c→DI ns x j c=true
theorem b1e{ns:List Nd}{x:Nd}:koI ns x 0:=⟨by omega,by omega,fun j c h=>by omega⟩
theorem a0P{ns:List Nd}{x:Nd}{i c:Int}(h:koI ns x i)(hc:x.kids[i.toNat]? =some c)(hk:DI ns x i c=true):koI ns x (i+1):=by
 obtain⟨h1,h2,h3⟩:=h
 have:=(Cx hc).1
 refine⟨by omega,by omega,fun j d hj hd=> ?_⟩
 by_cases e:(j:Int)<i
 ·exact h3 j d e hd
 ·obtain rfl:j=i.toNat:=by omega
  rw[hc] at hd;cases hd
  rwa [show((i.toNat:Nat):Int)=i by omega]
theorem b1f{ns:List Nd}{x:Nd}{i:Int}(h:koI ns x i)(hl:¬i<x.kids.length):BE (DI ns x) x.kids 0=true:=by
 rw[Vi];intro j c hc
 exact h.2.2 j c (by have:=(Cx hc).1;omega) hc
theorem Qq{ns:List Nd}{x:Nd}{i c:Int}(h0:0≤i)(hc:x.kids[i.toNat]? =some c)(hk:DI ns x i c=false):BE (DI ns x) x.kids 0=false:=by
 rw[Bool.eq_false_iff];intro h
 rw[Vi] at h
 have:=h _ _ hc
 rw[show((i.toNat:Nat):Int)=i by omega,hk] at this;cases this
theorem ko1{ns:List Nd}{x y:Nd}{i c:Int}(hy:ns[c.toNat]? =some y)(h:y.kind=5)(h0:(y.kids.length:Int)=0):DI ns x i c=false:=by
 have h0:=List.length_eq_zero_iff.1 (show y.kids.length=0 by omega)
 simp [DI,Al,Br hy,h,h0]
theorem HW{ns:List Nd}{d:Int}:inn d 0 (ns.length-1)=Bf ns d:=by
 rw[Bool.eq_iff_iff];simp only[inn,Bf,Bool.and_eq_true,decide_eq_true_eq];omega
theorem ko2{ns:List Nd}{x y:Nd}{i c d:Int}(hy:ns[c.toNat]? =some y)(h:y.kind=5)(h0:y.kids[0]? =some d)(hd:inn d 0 (ns.length-1)=false):DI ns x i c=false:=by
 rw[HW] at hd
 match hk:y.kids with
 |[]=>rw[hk] at h0;cases h0
 |e::t=>rw[hk] at h0;cases h0;simp [DI,Al,Br hy,h,hk,hd]
theorem ko3{ns:List Nd}{x y:Nd}{i c d:Int}(hy:ns[c.toNat]? =some y)(h:y.kind=5)(h0:y.kids[0]? =some d)(hd:inn d 0 (ns.length-1)=true):DI ns x i c=Kk ns x i c:=by
 rw[HW] at hd
 match hk:y.kids with
 |[]=>rw[hk] at h0;cases h0
 |e::t=>rw[hk] at h0;cases h0;simp [DI,Al,Br hy,h,hk,hd]
theorem ko4{ns:List Nd}{x y:Nd}{i c:Int}(hy:ns[c.toNat]? =some y)(h:y.kind≠5):DI ns x i c=Kk ns x i c:=by
 simp [DI,Al,Br hy,h]
theorem Qr{ns:List Nd}{x:Nd}{k i c:Int}{b:Bool}(hx:ns[k.toNat]? =some x)(hc:x.kids[i.toNat]? =some c)(hb:Kx (ns,k,i)=b):Kk ns x i c=b:=by
 rw[←hb,Kx,Br hx,List.getD,hc,Option.getD_some]
theorem b1g{ns:List Nd}{x y:Nd}{k i c d:Int}(h1:CZ ns)(hn:Bf ns k=true)(hx:ns[k.toNat]? =some x)(hin:DG x.kids k=true)(hi:koI ns x i)(hc:x.kids[i.toNat]? =some c)(hy:ns[c.toNat]? =some y)(h0:y.kids[0]? =some d)(hd:inn d 0 (ns.length-1)=true):GS (ns,k,i):=by
 have hk:=Bc.1 hn
 have:=(Cx hc).1
 unfold GS;simp only[Br hx]
 refine⟨h1,hn,fun h10 c' hc' h5=> ?_,⟨hi.1,by omega⟩,fun c' hc'=> ?_⟩
 ·rw[hc] at hc';cases hc'
  rw[Br hy]
  match hkk:y.kids with
  |[]=>rw[hkk] at h0;cases h0
  |e::t=>rw[hkk] at h0;cases h0;exact⟨_,_,rfl,by rw[←HW];exact hd⟩
 ·simp only[DG,List.all_eq_true,Bool.and_eq_true,decide_eq_true_eq] at hin
  have:=hin c' (AZ hc');omega
theorem b1h{ns:List Nd}{x y:Nd}{k i c:Int}(h1:CZ ns)(hn:Bf ns k=true)(hx:ns[k.toNat]? =some x)(hin:DG x.kids k=true)(hi:koI ns x i)(hc:x.kids[i.toNat]? =some c)(hy:ns[c.toNat]? =some y)(h5:y.kind≠5):GS (ns,k,i):=by
 have hk:=Bc.1 hn
 have:=(Cx hc).1
 unfold GS;simp only[Br hx]
 refine⟨h1,hn,fun h10 c' hc' h5'=> ?_,⟨hi.1,by omega⟩,fun c' hc'=> ?_⟩
 ·rw[hc] at hc';cases hc'
  rw[Al,Br hy] at h5';exact(h5 h5').elim
 ·simp only[DG,List.all_eq_true,Bool.and_eq_true,decide_eq_true_eq] at hin
  have:=hin c' (AZ hc');omega
theorem a0Q{k:Int}:GL k=(CM k||(decide (k=20)||decide (k=21))):=by
 rw[Bool.eq_iff_iff]
 simp only[GL,CM,CF,Gm,inn,Bool.or_eq_true,Bool.and_eq_true,decide_eq_true_eq];omega
theorem a0R{ns:List Nd}{k:Int}(h:inn k 0 (ns.length-1)=false):false=Cc ns k:=by rw[HW] at h;exact a0B h
theorem NV{ns:List Nd}{k:Int}{x:Nd}(hx:ns[k.toNat]? =some x)(h:inn k 0 (ns.length-1)=true):Cc ns k=(inn x.kind 1 22&&(inn x.kids.length (CN x.kind).1 (CN x.kind).2&&(Dv x.kind x.text&&((GL x.kind|| !x.blank)&&((DG x.kids k&&decide x.kids.Nodup)&&BE (DI ns x) x.kids 0))))):=by
 rw[HW] at h;rw[Me hx h,b0h]
theorem b1i{ns:List Nd}{k:Int}{x:Nd}(hx:ns[k.toNat]? =some x)(h:inn k 0 (ns.length-1)=true)(h1:DG x.kids k=false):false=Cc ns k:=by
 rw[NV hx h,h1];simp
theorem b1j{ns:List Nd}{k:Int}{x:Nd}(hx:ns[k.toNat]? =some x)(h:inn k 0 (ns.length-1)=true)(h1:¬x.kids.Nodup):false=Cc ns k:=by
 rw[NV hx h,decide_eq_false h1];simp
theorem Qs{ns:List Nd}{k:Int}{x:Nd}(hx:ns[k.toNat]? =some x)(h:inn k 0 (ns.length-1)=true)(h1:BE (DI ns x) x.kids 0=false):false=Cc ns k:=by
 rw[NV hx h,h1];simp
theorem b1k{ns:List Nd}{k:Int}{x:Nd}(hx:ns[k.toNat]? =some x)(h:inn k 0 (ns.length-1)=true)(h1:inn x.kind 1 22=true)(h2:inn x.kids.length (CN x.kind).1 (CN x.kind).2=true)(h3:Dv x.kind x.text=true)(h4:(GL x.kind|| !x.blank)=true)
 (h5:DG x.kids k=true∧x.kids.Nodup) (h6:BE (DI ns x) x.kids 0=true):true=Cc ns k:=by
 rw[NV hx h,h1,h2,h3,h4,h5.1,h6,decide_eq_true h5.2];rfl
theorem b1l{k c:Int}{l:List Int}{n:Nat}(hc:l[n]? =some c)(h:inn c 0 (k-1)=false):DG l k=false:=by
 rw[Bool.eq_false_iff];intro hh;simp only[DG,List.all_eq_true,Bool.and_eq_true,decide_eq_true_eq] at hh
 have:=hh c (AZ hc)
 have:inn c 0 (k-1)=true:=BA.2 (by omega)
 rw[h] at this;cases this
def djI(l:List Int)(i j:Int):Prop:=0≤j∧j≤i∧∀c,l[i.toNat]? =some c→(l.take j.toNat).elem c=false
theorem b1m{l:List Int}{i:Int}(h:0≤i):djI l i 0:=⟨by omega,h,by simp⟩
theorem b1n{l:List Int}{i j c d:Int}(h:djI l i j)(hl:j<i)(hc:l[i.toNat]? =some c)(hd:l[j.toNat]? =some d)(hne:c≠d):djI l i (j+1):=by
 refine⟨by have:=h.1;omega,by omega,fun c' hc'=> ?_⟩
 have h3:=h.2.2 c' hc'
 rw[hc] at hc';cases hc'
 rw[BG h.1,Df hd]
 simp at h3 ⊢
 exact⟨h3,hne⟩
theorem b1o{l:List Int}{i j c d:Int}(h0:djI l i j)(hl:j<i)(hc:l[i.toNat]? =some c)(hd:l[j.toNat]? =some d)(he:c=d):¬l.Nodup:=by
 refine a0A hc ?_
 subst he
 rw[List.elem_iff]
 rw[List.mem_take_iff_getElem]
 obtain⟨hj,e⟩:=Cx hd
 have:=h0.1
 exact⟨j.toNat,by omega,e⟩
theorem b1p{k:Int}{l:List Int}{i j c:Int}(h:nkI k l i)(hd:djI l i j)(hl:¬j<i)(hc:l[i.toNat]? =some c)(hin:inn c 0 (k-1)=true):nkI k l (i+1):=by
 have:=BA.1 hin
 have h3:=hd.2.2 c hc
 obtain rfl:j=i:=by have:=hd.2.1;omega
 exact a0z h hc (by omega) (by omega) h3
def Qt(x:List Nd×Int)(i:Int):LS:= {
 ι:=Int,inv:=djI (Aa x.1 x.2).kids i,
 regs:=fun j=>[(0,nds x.1),(1,.int .i64 x.2),(5,.box 0 (ndA false (Aa x.1 x.2))),(8,.int .i64 i),(9,.int .i64 j)],als:=[],meas:=fun j=>i.toNat-j.toNat}
def Qu(x:List Nd×Int):LS:= {
 ι:=Int,inv:=nkI x.2 (Aa x.1 x.2).kids,
 regs:=fun i=>[(0,nds x.1),(1,.int .i64 x.2),(5,.box 0 (ndA false (Aa x.1 x.2))),(8,.int .i64 i)],als:=[],meas:=fun i=>(Aa x.1 x.2).kids.length-i.toNat,sub:=fun i=>[(15,Qt x i)]}
def NW(x:List Nd×Int):LS:= {
 ι:=Int,inv:=koI x.1 (Aa x.1 x.2),
 regs:=fun i=>[(0,nds x.1),(1,.int .i64 x.2),(5,.box 0 (ndA false (Aa x.1 x.2))),(10,.int .i64 i)],als:=[],meas:=fun i=>(Aa x.1 x.2).kids.length-i.toNat}
def jI(x:Nd):Prop:=inn x.kind 1 22=true∧inn x.kids.length (CN x.kind).1 (CN x.kind).2=true∧Dv x.kind x.text=true∧(GL x.kind|| !x.blank)=true
def Mf(x:List Nd×Int):LS:= {
 ι:=Unit,inv:=fun _=>jI (Aa x.1 x.2),
 regs:=fun _=>[(0,nds x.1),(1,.int .i64 x.2),(5,.box 0 (ndA false (Aa x.1 x.2)))],als:=[],meas:=fun _=>0}
def EE:Sig:= {X:=List Nd×Int,args:=fun x=>[nds x.1,.int .i64 x.2],pre:=fun x=>CZ x.1,Y:=Unit,post:=fun x y=>True,res:=fun x y=> .bool (Cc x.1 x.2),outs:=fun x y=>[.top,.top],keep:=false}
set_option maxHeartbeats 4000000 in
theorem b1q:Ah G Tryz.prog 119 EE:=
 vcFun_okP [(45,0,Bz),(143,0,Dk),(144,0,EP),(145,0,Hs),(146,0,Da)] [] false (fun x=>[(10,Qu x),(20,NW x),(200009,Mf x)]) Tryz.func119 rfl (by decide) ⟨GN,b1c,b0f,a0J,b1d,trivial⟩ (fun(x:List Nd×Int)=>(∀(y:Unit),True→True∧True∧True∧True)∧inR IntKind.i64 ((↑(List.length x.1):Int)-(1:Int))∧cA Bz [.int .i64 x.2,.int .i64 (0:Int),.int .i64 ((↑(List.length x.1):Int)-(1:Int))] fun x_1 y=>Ab (!inn x_1.1 x_1.2.1 x_1.2.2) (rA EE x [.bool false,.top,.top]) (((0:Int)≤x.2∧x.2<(↑(List.length x.1):Int))∧∀(e:Nd),x.1[Int.toNat x.2]? =some e→cA Bz [.int .i64 e.kind,.int .i64 (1:Int),.int .i64 (22:Int)] fun x_2 y=>Ab (!inn x_2.1 x_2.2.1 x_2.2.2) (rA EE x [.bool false,.top,.top]) (((0:Int)≤x.2∧x.2<(↑(List.length x.1):Int))∧∀(e:Nd),x.1[Int.toNat x.2]? =some e→cA Dk [.int .i64 e.kind] fun x_3 y=>cA Bz [.int .i64 (↑(List.length e.kids):Int),.int .i64 (CN x_3).1,.int .i64 (CN x_3).2] fun x_4 y=>Ab (!inn x_4.1 x_4.2.1 x_4.2.2) (rA EE x [.bool false,.top,.top]) (cA EP [.int .i64 e.kind,.str e.text] fun x_5 y=>Ab (!Dv x_5.1 x_5.2) (rA EE x [.bool false,.top,.top]) (Ab e.blank (cA Hs [.int .i64 e.kind] fun x_6 y=>Ab (!CM x_6) (Ab (e.kind != (20:Int)) (Ab (e.kind != (21:Int)) (rA EE x [.bool false,.top,.top]) (eA (Mf x) [nds x.1,.int .i64 x.2,.box 0 [.int .i64 e.kind,.str e.text,Ad e.kids,.bool e.blank]])) (eA (Mf x) [nds x.1,.int .i64 x.2,.box 0 [.int .i64 e.kind,.str e.text,Ad e.kids,.bool e.blank]])) (eA (Mf x) [nds x.1,.int .i64 x.2,.box 0 [.int .i64 e.kind,.str e.text,Ad e.kids,.bool e.blank]])) (eA (Mf x) [nds x.1,.int .i64 x.2,.box 0 [.int .i64 e.kind,.str e.text,Ad e.kids,.bool e.blank]])∧∀(i:Unit),jI (Aa x.1 x.2)→eA (Qu x) [nds x.1,.int .i64 x.2,.box 0 [.int .i64 (Aa x.1 x.2).kind,.str (Aa x.1 x.2).text,Ad (Aa x.1 x.2).kids,.bool (Aa x.1 x.2).blank],.int .i64 (0:Int)]∧∀(i:Int),nkI x.2 (Aa x.1 x.2).kids i→Ab (decide (i<(↑(List.length (Aa x.1 x.2).kids):Int))) (((0:Int)≤i∧i<(↑(List.length (Aa x.1 x.2).kids):Int))∧∀(e:Int),(Aa x.1 x.2).kids[Int.toNat i]? =some e→inR IntKind.i64 (x.2-(1:Int))∧cA Bz [.int .i64 e,.int .i64 (0:Int),.int .i64 (x.2-(1:Int))] fun x_6 y=>Ab (!inn x_6.1 x_6.2.1 x_6.2.2) (rA EE x [.bool false,.top,.top]) (eA (Qt x i) [nds x.1,.int .i64 x.2,.box 0 [.int .i64 (Aa x.1 x.2).kind,.str (Aa x.1 x.2).text,Ad (Aa x.1 x.2).kids,.bool (Aa x.1 x.2).blank],.int .i64 i,.int .i64 (0:Int)]∧∀(i_1:Int),djI (Aa x.1 x.2).kids i i_1→Ab (decide (i_1<i)) (true=true∧true=true∧((0:Int)≤i∧i<(↑(List.length (Aa x.1 x.2).kids):Int))∧∀(e:Int),(Aa x.1 x.2).kids[Int.toNat i]? =some e→((0:Int)≤i_1∧i_1<(↑(List.length (Aa x.1 x.2).kids):Int))∧∀(e_1:Int),(Aa x.1 x.2).kids[Int.toNat i_1]? =some e_1→Ab (e==e_1) (rA EE x [.bool false,.top,.top]) (inR IntKind.i64 (i_1+(1:Int))∧eN (Qt x i) i_1 [nds x.1,.int .i64 x.2,.box 0 [.int .i64 (Aa x.1 x.2).kind,.str (Aa x.1 x.2).text,Ad (Aa x.1 x.2).kids,.bool (Aa x.1 x.2).blank],.int .i64 i,.int .i64 (i_1+(1:Int))])) (inR IntKind.i64 (i+(1:Int))∧eN (Qu x) i [nds x.1,.int .i64 x.2,.box 0 [.int .i64 (Aa x.1 x.2).kind,.str (Aa x.1 x.2).text,Ad (Aa x.1 x.2).kids,.bool (Aa x.1 x.2).blank],.int .i64 (i+(1:Int))]))) (eA (NW x) [nds x.1,.int .i64 x.2,.box 0 [.int .i64 (Aa x.1 x.2).kind,.str (Aa x.1 x.2).text,Ad (Aa x.1 x.2).kids,.bool (Aa x.1 x.2).blank],.int .i64 (0:Int)]∧∀(i:Int),koI x.1 (Aa x.1 x.2) i→Ab (decide (i<(↑(List.length (Aa x.1 x.2).kids):Int))) (((0:Int)≤i∧i<(↑(List.length (Aa x.1 x.2).kids):Int))∧∀(e:Int),(Aa x.1 x.2).kids[Int.toNat i]? =some e→((0:Int)≤e∧e<(↑(List.length x.1):Int))∧∀(e_1:Nd),x.1[Int.toNat e]? =some e_1→Ab (e_1.kind==(5:Int)) (Ab ((↑(List.length e_1.kids):Int)==(0:Int)) (rA EE x [.bool false,.top,.top]) (((0:Int)≤(0:Int)∧(0:Int)<(↑(List.length e_1.kids):Int))∧∀(e:Int),e_1.kids[(0:Nat)]? =some e→inR IntKind.i64 ((↑(List.length x.1):Int)-(1:Int))∧cA Bz [.int .i64 e,.int .i64 (0:Int),.int .i64 ((↑(List.length x.1):Int)-(1:Int))] fun x_6 y=>Ab (!inn x_6.1 x_6.2.1 x_6.2.2) (rA EE x [.bool false,.top,.top]) (cA Da [nds x.1,.int .i64 x.2,.int .i64 i] fun x_7 y=>Ab (!Kx x_7) (rA EE x [.bool false,.top,.top]) (inR IntKind.i64 (i+(1:Int))∧(eN (NW x) i [nds x.1,.int .i64 x.2,.box 0 [.int .i64 (Aa x.1 x.2).kind,.str (Aa x.1 x.2).text,Ad (Aa x.1 x.2).kids,.bool (Aa x.1 x.2).blank],.int .i64 (i+(1:Int))]))))) (cA Da [nds x.1,.int .i64 x.2,.int .i64 i] fun x_6 y=>Ab (!Kx x_6) (rA EE x [.bool false,.top,.top]) (inR IntKind.i64 (i+(1:Int))∧(eN (NW x) i [nds x.1,.int .i64 x.2,.box 0 [.int .i64 (Aa x.1 x.2).kind,.str (Aa x.1 x.2).text,Ad (Aa x.1 x.2).kids,.bool (Aa x.1 x.2).blank],.int .i64 (i+(1:Int))])))) (rA EE x [.bool true,.top,.top]))))))) (fun x=>by kernel_rfl) fun(x:List Nd×Int) (hx:CZ x.1)=>(by
 dsimp only[cA,eA,eN,Ad,Mf,Qu,Qt,NW,Bi,nds,rA,Bz,Dk,Da,Hs,EP,EE,Aq,Aw,mvL,lnL,mvE,lnE,mvG,mvH,lnG,lnH,Ba]
 have h1:CZ x.1:=hx;have hl:=h1.1
 by_cases hn:Bf x.1 x.2=true
 case neg=>
  (repeat' first|(with_reducible first|rfl|exact True.intro|apply AG|apply And.intro|((first|apply Au|apply AE|apply Av|apply AF)<;>intro _))|(apply As<;>intro _)|apply AD|refine Af () ?_ ?_|((first|apply AK|apply AJ|apply AI|apply AH|apply AC|apply AB|apply AA|apply Az|apply Ax)<;>try dsimp only)|apply Af|(refine Prod.forall.2 ?_;intro _;try dsimp only)|(intro _;try dsimp only))
  all_goals first
   |exact a0R ‹_›
   |(have hh:=(show inn x.2 0 (x.1.length-1)=true by assumption);rw[HW] at hh;exact(hn hh).elim)
   |((try simp only[Aj]);omega)
 case pos=>
 have hr:=Bc.1 hn
 obtain⟨z,hz⟩:∃z,x.1[x.2.toNat]? =some z:=⟨x.1[x.2.toNat],by simp⟩
 have hzo:=h1.2 _ (AZ hz)
 have hi:inn x.2 0 (x.1.length-1)=true:=by rw[HW];exact hn
 simp only[hz,Option.some.injEq,forall_eq',Br hz]
 (repeat' first|(with_reducible first|rfl|exact True.intro|apply AG|apply And.intro|((first|apply Au|apply AE|apply Av|apply AF)<;>intro _))|(apply As<;>intro _)|apply AD|refine Af () ?_ ?_|((first|apply AK|apply AJ|apply AI|apply AH|apply AC|apply AB|apply AA|apply Az|apply Ax)<;>try dsimp only)|apply Af|(refine Prod.forall.2 ?_;intro _;try dsimp only)|(intro _;try dsimp only))
 all_goals first
  |rfl
  |assumption
  |exact a0y
  |exact b1e
  |exact b1m (‹nkI _ _ _›.1)
  |exact a0R ‹_›
  |exact⟨by assumption,by assumption,by assumption,by simp [a0Q, *]⟩
  |exact b1i hz hi (b1l ‹_› ‹_›)
  |exact b1j hz hi (b1o ‹_› ‹_› ‹_› ‹_› ‹_›)
  |exact b1n ‹_› ‹_› ‹_› ‹_› ‹_›
  |exact b1p ‹_› ‹_› ‹_› ‹_› ‹_›
  |exact Qs hz hi (Qq (‹koI _ _ _›.1) ‹_› (ko1 ‹_› ‹_› ‹_›))
  |exact Qs hz hi (Qq (‹koI _ _ _›.1) ‹_› (ko2 ‹_› ‹_› ‹_› ‹_›))
  |exact Qs hz hi (Qq (‹koI _ _ _›.1) ‹_› ((ko4 ‹_› ‹_›).trans (Qr hz ‹_› ‹_›)))
  |exact Qs hz hi (Qq (‹koI _ _ _›.1) ‹_› ((ko3 ‹_› ‹_› ‹_› ‹_›).trans (Qr hz ‹_› ‹_›)))
  |exact a0P ‹_› ‹_› ((ko4 ‹_› ‹_›).trans (Qr hz ‹_› ‹_›))
  |exact a0P ‹_› ‹_› ((ko3 ‹_› ‹_› ‹_› ‹_›).trans (Qr hz ‹_› ‹_›))
  |exact b1g h1 hn hz (NU ‹_› ‹_›).1 ‹_› ‹_› ‹_› ‹_› ‹_›
  |exact b1h h1 hn hz (NU ‹_› ‹_›).1 ‹_› ‹_› ‹_› ‹_›
  |exact b1k hz hi (‹jI _›.1) (‹jI _›.2.1) (‹jI _›.2.2.1) (‹jI _›.2.2.2) (NU ‹_› ‹_›) (b1f ‹_› ‹_›)
  |(rw[NV hz hi];simp [a0Q, *];done)
  |exact hzo.1
  |(have:=Vm ‹_› ‹_› hr.2 (AZ (show z.kids[_]? =some _ by assumption));omega)
  |((try simp only[Aj]);omega)
  |(have hko:=(show koI _ _ _ by assumption);have hk2:=hzo.2;have:=hko.1;have:=hko.2.1;(try simp only[Aj]);omega)
  |(have hko:=(show djI _ _ _ by assumption);have hk1:=(show nkI _ _ _ by assumption);have hk2:=hzo.2;have:=hko.1;have:=hko.2.1;have:=hk1.1;have:=hk1.2.1;(try simp only[Aj]);omega)
  |(have hk1:=(show nkI _ _ _ by assumption);have hk2:=hzo.2;have:=hk1.1;have:=hk1.2.1;(try simp only[Aj]);omega)
  |skip)
end Go.My
end
