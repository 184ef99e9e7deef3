/- joined -/
import Derived.Test.YtblmpjljedglaaaGreatDoorQE
set_option linter.unusedSimpArgs false
set_option linter.unusedVariables false
section
namespace Go.My
open Go.Eng
def CO(k:Int):Int×Int:=
 if k=4∨k=18∨k=21∨k=22 then(0,12)
 else if k=5∨k=9∨k=20 then(1,12)
 else if k=6∨k=11∨k=13∨k=14 then(1,1)
 else if k=7∨k=10 then(2,12)
 else if k=8 then(3,3)
 else if k=12∨k=15 then(0,1)
 else if k=16 then(2,3)
 else if k=17 then(2,2)
 else(0,0)
def FV(k n i y:Int):Bool:=
 if k=9 then(if i+1<n then Dz y else AX y)
 else if k=20 then(if i+1<n then Dz y else Db y)
 else if k=10 then(if 0<i then EC y else AX y)
 else if k=16∨k=17 then(if 0<i then Db y else AX y)
 else if k=18 then CN y
 else if k=21 then CG y
 else if k=22 then EQ y
 else AX y
def Kt(ns:List Nd)(x:Nd)(i c:Int):Bool:=
 FV x.kind x.kids.length i (Al ns c)&&(if x.kind=10∧0<i then decide (Al ns ((Aa ns c).kids.headD 0)=1) else true)
def DK(ns:List Nd)(x:Nd)(i c:Int):Bool:=
 (!(decide (Al ns c=5)&&(decide ((Aa ns c).kids.length=0)|| !Bh ns ((Aa ns c).kids.headD 0))))&&Kt ns x i c
def BE(f:Int→Int→Bool):List Int→Int→Bool
 |[],_=>true
 |c::l,i=>f i c&&BE f l (i+1)
theorem VI{f g:Int→Int→Bool}:∀ {l:List Int} {i:Int},(∀j c,i≤j→j<i+l.length→c∈l→f j c=g j c)→BE f l i=BE g l i
 |[],i,h=>rfl
 |c::l,i,h=>by
  simp only[BE]
  rw[h i c (Int.le_refl i) (by simp;omega) (by simp),VI (fun j c hj hl hc=>h j c (by omega) (by simp;omega) (by simp [hc]))]
theorem a1c{f g:Int→Int→Bool}:∀ {l:List Int} {i:Int},BE (fun i c=>f i c&&g i c) l i=(BE f l i&&BE g l i)
 |[],i=>rfl
 |c::l,i=>by
  simp only[BE];rw[a1c]
  cases f i c<;>cases g i c<;>cases BE f l (i+1)<;>cases BE g l (i+1)<;>rfl
theorem Qz{f:Int→Bool}:∀ {l:List Int} {i:Int},BE (fun _ c=>f c) l i=l.all f
 |[],i=>rfl
 |c::l,i=>by simp only[BE,List.all_cons];rw[Qz]
theorem a1d{f:Int→Int→Bool}{g:Int→Int}:∀ {l:List Int} {i:Int},BE f (l.map g) i=BE (fun i c=>f i (g c)) l i
 |[],i=>rfl
 |c::l,i=>by simp only[BE,List.map_cons];rw[a1d]
theorem a1e{f:Int→Int→Bool}:∀ {l m:List Int} {i:Int},BE f (l++m) i=(BE f l i&&BE f m (i+l.length))
 |[],m,i=>by simp [BE]
 |c::l,m,i=>by
  simp only[List.cons_append,BE];rw[a1e,Bool.and_assoc]
  congr 2;congr 1;simp;omega
theorem VJ{f:Int→Int→Bool}:∀ {l:List Int} {i:Nat},((l.zipIdx i).all fun p=>f p.2 p.1)=BE f l i
 |[],i=>rfl
 |c::l,i=>by
  simp only[List.zipIdx_cons,List.all_cons,BE];rw[VJ];congr 2
theorem VK{f:Int→Int→Bool}{l:List Int}:BE f l 0=true↔∀(j:Nat) c,l[j]? =some c→f j c=true:=by
 have:∀(l:List Int) (i:Nat),BE f l i=true↔∀(j:Nat) c,l[j]? =some c→f (i+j:Nat) c=true:=by
  intro l
  induction l with
  |nil=>intro i;simp [BE]
  |cons c l ih=>
   intro i
   simp only[BE,Bool.and_eq_true]
   have:=ih (i+1)
   rw[show((i:Int)+1)=((i+1:Nat):Int) from by omega,this]
   constructor
   ·rintro⟨h1,h2⟩ j d hd
    cases j with
    |zero=>simp at hd;subst hd;simpa using h1
    |succ j=>have:=h2 j d (by simpa using hd);rwa [show i+1+j=i+(j+1) by omega] at this
   ·intro h
    refine⟨by simpa using h 0 c rfl,fun j d hd=> ?_⟩
    have:=h (j+1) d (by simpa using hd)
    rwa [show i+(j+1)=i+1+j by omega] at this
 have:=this l 0
 simpa using this
theorem a1f{l:List Int}{k:Int}(h:l.getLast? =some k):l=l.dropLast++[k]:=by
 have hne:l≠[]:=by intro e;rw[e] at h;cases h
 rw[List.getLast?_eq_some_getLast hne] at h
 have:=List.dropLast_concat_getLast hne
 rw[Option.some.inj h] at this;exact this.symm
theorem a1g{p:Int→Bool}{l:List Int}:(decide (1≤l.length)&&BE (fun i y=>if i+1<(l.length:Int) then Dz y else p y) l 0)=ED p l:=by
 unfold ED
 cases h:l.getLast? with
 |none=>have:l=[]:=by simpa using h
        subst this;rfl
 |some k=>
  have e:=a1f h
  generalize hd:l.dropLast=m at e ⊢
  subst e
  rw[a1e]
  have h1:BE (fun i y=>if i+1<((m++[k]).length:Int) then Dz y else p y) m 0=m.all Dz:=by
   rw[←Qz (i:=0)]
   exact VI fun j c h0 hj hc=>if_pos (by simp;omega)
  rw[h1]
  simp only[BE]
  have h2:¬((0:Int)+m.length+1<((m++[k]).length:Int)):=by simp
  rw[if_neg h2]
  have:decide (1≤(m++[k]).length)=true:=by simp
  rw[this];simp [Bool.and_comm]
theorem a1h{p q:Int→Bool}{c:Int}{l:List Int}:BE (fun i y=>if 0<i then q y else p y) (c::l) 0=(p c&&l.all q):=by
 simp only[BE]
 have h1:¬((0:Int)<0):=by omega
 rw[if_neg h1]
 congr 1
 rw[←Qz (i:=0+1)]
 exact VI fun j c h0 hj hc=>if_pos (by omega)
theorem a1i{k:Int}{l:List Int}(h1:1≤k)(h2:k≤22):(inn l.length (CO k).1 (CO k).2&&BE (fun i y=>FV k l.length i y) l 0)=(decide (l.length≤12)&&CV k l):=by
 have hk:k=1∨k=2∨k=3∨k=4∨k=5∨k=6∨k=7∨k=8∨k=9∨k=10∨k=11∨k=12∨k=13∨k=14∨k=15∨k=16∨k=17∨k=18∨k=19∨k=20∨k=21∨k=22:=by omega
 have len0:∀ {b c:Bool},l.length=0→(l=[]):=fun h=>List.length_eq_zero_iff.1 h
 rcases hk with rfl|rfl|rfl|rfl|rfl|rfl|rfl|rfl|rfl|rfl|rfl|rfl|rfl|rfl|rfl|rfl|rfl|rfl|rfl|rfl|rfl|rfl
 all_goals simp only[CO,FV,CV,inn,Int.reduceEq,or_self,or_false,false_or,or_true,true_or,if_true,if_false,reduceIte]
 all_goals try(
  by_cases h:l.length=0
  ·have:=List.length_eq_zero_iff.1 h;subst this;rfl
  ·have e1:decide ((l.length:Int)≤0)=false:=decide_eq_false (by omega)
   have e2:decide (l.length=0)=false:=decide_eq_false h
   simp only[e1,e2,Bool.and_false,Bool.false_and];done)
 all_goals try rw[Qz]
 all_goals try(
  generalize l.all _=b
  rw[Bool.eq_iff_iff];cases b<;>simp only[Bool.and_eq_true,decide_eq_true_eq,Bool.false_eq_true,and_false,and_true]<;>omega)
 ·rw[show decide (1≤(l.length:Int))=decide (1≤l.length) from decide_eq_decide.2 (by omega),show decide ((l.length:Int)≤12)=decide (l.length≤12) from decide_eq_decide.2 (by omega),←a1g (p:=AX)]
  generalize BE _ l 0=b
  cases decide (1≤l.length)<;>cases decide (l.length≤12)<;>cases b<;>rfl
 ·cases l with
  |nil=>rfl
  |cons c l=>
   rw[a1h]
   simp only[List.headD_cons,List.drop_succ_cons,List.drop_zero]
   generalize AX c=b;generalize l.all _=d
   rw[Bool.eq_iff_iff];cases b<;>cases d<;>simp only[Bool.and_eq_true,decide_eq_true_eq,Bool.false_eq_true,and_false,and_true]<;>omega
 ·cases l with
  |nil=>rfl
  |cons c l=>
   rw[a1h]
   simp only[List.headD_cons,List.drop_succ_cons,List.drop_zero]
   generalize AX c=b;generalize l.all _=d
   rw[Bool.eq_iff_iff];cases b<;>cases d<;>simp only[Bool.and_eq_true,decide_eq_true_eq,Bool.false_eq_true,and_false,and_true]<;>omega
 ·match l with
  |[]=>rfl
  |[c]=>rfl
  |[c,d]=>simp [BE]
  |c::d::e::l=>
   have e1:decide (((c::d::e::l).length:Int)≤2)=false:=decide_eq_false (by simp;omega)
   have e2:decide ((c::d::e::l).length=2)=false:=decide_eq_false (by simp)
   rw[e1,e2];simp
 ·rw[show decide (1≤(l.length:Int))=decide (1≤l.length) from decide_eq_decide.2 (by omega),show decide ((l.length:Int)≤12)=decide (l.length≤12) from decide_eq_decide.2 (by omega),←a1g (p:=Db)]
  generalize BE _ l 0=b
  cases decide (1≤l.length)<;>cases decide (l.length≤12)<;>cases b<;>rfl
theorem a1j{k:Int}{l:List Int}(h:inn k 1 22=false):CV k l=false:=by
 have h:¬(1≤k∧k≤22):=by intro hh;simp [inn] at h;omega
 unfold CV
 have e:∀j:Int,1≤j→j≤22→k≠j:=fun j h1 h2 e=>h (by omega)
 simp [e]
theorem b1q{ns:List Nd}{x:Nd}{i c:Int}:DK ns x i c=(FV x.kind x.kids.length i (Al ns c)&&CL ns x i.toNat c):=by
 unfold DK Kt CL Al
 generalize hy:Aa ns c=y
 by_cases h5:y.kind=5
 ·simp only[h5,if_true,decide_true,Bool.true_and]
  cases hk:y.kids with
  |nil=>simp
  |cons h t=>
   simp only[List.length_cons,List.headD_cons]
   have e0:decide (t.length+1=0)=false:=by simp
   rw[e0]
   by_cases hx:x.kind=10∧0<i
   ·have hi:0<i.toNat:=by omega
    simp only[hx,and_self,if_true,decide_true,Bool.true_and,hi]
    generalize FV 10 _ _ _=a;generalize Bh ns h=b
    by_cases hd:(Aa ns h).kind=1<;>cases a<;>cases b<;>simp [hd]
   ·rw[if_neg hx]
    have:(decide (x.kind=10)&&(decide (0<i.toNat)&& !decide ((Aa ns h).kind=1)))=false:=by
     by_cases h1:x.kind=10
     ·have:¬0<i.toNat:=by omega
      simp [this]
     ·simp [h1]
    rw[this]
    generalize FV _ _ _ _=a;generalize Bh ns h=b
    cases a<;>cases b<;>rfl
 ·simp only[h5,if_false,decide_false,Bool.false_and,Bool.not_false,Bool.true_and,Bool.and_true]
  by_cases hx:x.kind=10∧0<i
  ·rw[if_pos hx]
   have:FV x.kind x.kids.length i y.kind=false:=by
    simp [FV,hx,EC,h5]
   rw[this];rfl
  ·rw[if_neg hx];simp
theorem b1r{ns:List Nd}{k:Int}{x:Nd}:HA ns k x=
 (inn x.kind 1 22&&(inn x.kids.length (CO x.kind).1 (CO x.kind).2&&(Dy x.kind x.text&&((GW x.kind|| !x.blank)&&((DI x.kids k&&decide x.kids.Nodup)&&BE (DK ns x) x.kids 0))))):=by
 have e1:BE (DK ns x) x.kids 0=(BE (fun i y=>FV x.kind (x.kids.map (Al ns)).length i y) (x.kids.map (Al ns)) 0&&ER ns x):=by
  have:(DK ns x)=fun i c=>(FV x.kind x.kids.length i (Al ns c)&&CL ns x i.toNat c):=by
   funext i c;exact b1q
  rw[this,a1c,a1d,List.length_map]
  congr 1
  unfold ER
  have:(fun p:Int×Nat=>CL ns x p.2 p.1)=fun p:Int×Nat=>(fun(i c:Int)=>CL ns x i.toNat c) p.2 p.1:=by
   funext p;simp
  rw[this]
  exact(VJ (f:=fun i c=>CL ns x i.toNat c) (i:=0)).symm
 unfold HA
 by_cases h:inn x.kind 1 22=true
 ·have hb:= @a1i x.kind (x.kids.map (Al ns)) (by simp [inn] at h;omega) (by simp [inn] at h;omega)
  rw[List.length_map] at hb
  rw[e1,List.length_map,h]
  generalize decide (x.kids.length≤12)=a at hb ⊢;generalize CV x.kind _=b at hb ⊢;generalize inn _ _ _=c at hb ⊢
  generalize BE _ _ 0=d at hb ⊢;generalize Dy _ _=e;generalize GW _=f;generalize ER _ _=g;generalize DI _ _=h1;generalize decide x.kids.Nodup=h2
  cases a<;>cases b<;>cases c<;>cases d<;>simp at hb<;>cases e<;>cases f<;>cases g<;>cases h1<;>cases h2<;>simp
 ·simp only[Bool.not_eq_true] at h
  rw[a1j h,h];simp
end Go.My
end
section
namespace Go.My
open Go.Eng Go.Proofs
variable {G:GInv}
theorem FA{a b:Int}:(a==b)=decide (a=b):=by rw[Bool.eq_iff_iff];simp
theorem b1s{α:Type}{p:α→Bool}{x:List α}{n:Nat}{e:α}(he:x[n]? =some e)(hp:p e=true)(h:∀e∈x.take n,p e=true):∀e∈x.take (n+1),p e=true:=by
 rw[CT he];intro d hd
 rcases List.mem_append.1 hd with hd|hd
 ·exact h d hd
 ·simp at hd;subst hd;exact hp
theorem b1t{α:Type}{p:α→Bool}{x:List α}{n:Nat}(h:∀e∈x.take n,p e=true)(hn:x.length≤n):x.all p=true:=by
 rw[List.take_of_length_le hn] at h;exact List.all_eq_true.2 h
theorem Ku{α:Type}{p:α→Bool}{x:List α}{n:Nat}{e:α}(he:x[n]? =some e)(hp:p e=false):x.all p=false:=by
 rw[Bool.eq_false_iff];intro h
 rw[List.all_eq_true.1 h e (List.mem_of_getElem? he)] at hp;cases hp
def EF:Sig:= {X:=Int,args:=fun x=>[.int .i64 x],pre:=fun x=>True,Y:=Unit,post:=fun x y=>True,res:=fun x y=> .bool (AX x),outs:=fun x y=>[.top],keep:=false}
theorem QA:Ah G Tryz.prog 76 EF:=
 vcFun_okP [(36,0,BG)] [] false (fun x=>[]) Tryz.func76 rfl (by decide) ⟨Gw,trivial⟩ (fun(x:Int)=>(∀(y:Unit),True→True∧True∧True)∧cA BG [.int .i64 x,.int .i64 (1:Int),.int .i64 (11:Int)] fun x_1 y=>rA EF x [.bool (inn x_1.1 x_1.2.1 x_1.2.2),.top]) (fun x=>by kernel_rfl) fun(x:Int) (hx:True)=>(by
 dsimp only[cA,rA,BG,EF,Aq,Aw,mvL,lnL,mvE,lnE,mvG,mvH,lnG,lnH]
 (repeat' first|(with_reducible first|rfl|exact True.intro|apply AG|apply And.intro|((first|apply Au|apply AE|apply Av|apply AF)<;>intro _))|(apply As<;>intro _)|apply AD|refine Af () ?_ ?_|((first|apply AK|apply AJ|apply AI|apply AH|apply AC|apply AB|apply AA|apply Az|apply Ax)<;>try dsimp only)|apply Af|(refine Prod.forall.2 ?_;intro _;try dsimp only)|(intro _;try dsimp only))<;>(try dsimp only at*)<;>(try simp only[Ai,List.length_cons,List.length_nil])<;>(try omega)
 all_goals simp [AX,FA, *])
def GC:Sig:= {X:=Int,args:=fun x=>[.int .i64 x],pre:=fun x=>True,Y:=Unit,post:=fun x y=>True,res:=fun x y=> .bool (Gv x),outs:=fun x y=>[.top],keep:=false}
theorem VL:Ah G Tryz.prog 59 GC:=
 vcFun_okP [(36,0,BG)] [] false (fun x=>[]) Tryz.func59 rfl (by decide) ⟨Gw,trivial⟩ (fun(x:Int)=>(∀(y:Unit),True→True∧True∧True)∧cA BG [.int .i64 x,.int .i64 (12:Int),.int .i64 (17:Int)] fun x_1 y=>rA GC x [.bool (inn x_1.1 x_1.2.1 x_1.2.2),.top]) (fun x=>by kernel_rfl) fun(x:Int) (hx:True)=>(by
 dsimp only[cA,rA,BG,GC,Aq,Aw,mvL,lnL,mvE,lnE,mvG,mvH,lnG,lnH]
 (repeat' first|(with_reducible first|rfl|exact True.intro|apply AG|apply And.intro|((first|apply Au|apply AE|apply Av|apply AF)<;>intro _))|(apply As<;>intro _)|apply AD|refine Af () ?_ ?_|((first|apply AK|apply AJ|apply AI|apply AH|apply AC|apply AB|apply AA|apply Az|apply Ax)<;>try dsimp only)|apply Af|(refine Prod.forall.2 ?_;intro _;try dsimp only)|(intro _;try dsimp only))<;>(try dsimp only at*)<;>(try simp only[Ai,List.length_cons,List.length_nil])<;>(try omega)
 all_goals simp [Gv,FA, *])
def GD:Sig:= {X:=Int,args:=fun x=>[.int .i64 x],pre:=fun x=>True,Y:=Unit,post:=fun x y=>True,res:=fun x y=> .bool (Db x),outs:=fun x y=>[.top],keep:=false}
theorem VM:Ah G Tryz.prog 160 GD:=
 vcFun_okP [] [] false (fun x=>[]) Tryz.func160 rfl (by decide) trivial (fun(x:Int)=>(∀(y:Unit),True→True∧True∧True)∧rA GD x [.bool (x==(18:Int)),.top]) (fun x=>by kernel_rfl) fun(x:Int) (hx:True)=>(by
 dsimp only[rA,GD,Aq,Aw]
 (repeat' first|(with_reducible first|rfl|exact True.intro|apply AG|apply And.intro|((first|apply Au|apply AE|apply Av|apply AF)<;>intro _))|(apply As<;>intro _)|apply AD|refine Af () ?_ ?_|((first|apply AK|apply AJ|apply AI|apply AH|apply AC|apply AB|apply AA|apply Az|apply Ax)<;>try dsimp only)|apply Af|(refine Prod.forall.2 ?_;intro _;try dsimp only)|(intro _;try dsimp only))<;>(try dsimp only at*)<;>(try simp only[Ai,List.length_cons,List.length_nil])<;>(try omega)
 all_goals simp [Db,FA, *])
def EG:Sig:= {X:=Int,args:=fun x=>[.int .i64 x],pre:=fun x=>True,Y:=Unit,post:=fun x y=>True,res:=fun x y=> .bool (CG x),outs:=fun x y=>[.top],keep:=false}
theorem QB:Ah G Tryz.prog 60 EG:=
 vcFun_okP [] [] false (fun x=>[]) Tryz.func60 rfl (by decide) trivial (fun(x:Int)=>(∀(y:Unit),True→True∧True∧True)∧Ab (x==(12:Int)) (rA EG x [.bool true,.top]) (Ab (x==(20:Int)) (rA EG x [.bool true,.top]) (rA EG x [.bool (x==(19:Int)),.top]))) (fun x=>by kernel_rfl) fun(x:Int) (hx:True)=>(by
 dsimp only[rA,EG,Aq,Aw]
 (repeat' first|(with_reducible first|rfl|exact True.intro|apply AG|apply And.intro|((first|apply Au|apply AE|apply Av|apply AF)<;>intro _))|(apply As<;>intro _)|apply AD|refine Af () ?_ ?_|((first|apply AK|apply AJ|apply AI|apply AH|apply AC|apply AB|apply AA|apply Az|apply Ax)<;>try dsimp only)|apply Af|(refine Prod.forall.2 ?_;intro _;try dsimp only)|(intro _;try dsimp only))<;>(try dsimp only at*)<;>(try simp only[Ai,List.length_cons,List.length_nil])<;>(try omega)
 all_goals simp [CG,FA, *])
def Ml:Sig:= {X:=Int,args:=fun x=>[.int .i64 x],pre:=fun x=>True,Y:=Unit,post:=fun x y=>True,res:=fun x y=> .bool (EC x),outs:=fun x y=>[.top],keep:=false}
theorem b1u:Ah G Tryz.prog 159 Ml:=
 vcFun_okP [] [] false (fun x=>[]) Tryz.func159 rfl (by decide) trivial (fun(x:Int)=>(∀(y:Unit),True→True∧True∧True)∧rA Ml x [.bool (x==(5:Int)),.top]) (fun x=>by kernel_rfl) fun(x:Int) (hx:True)=>(by
 dsimp only[rA,Ml,Aq,Aw]
 (repeat' first|(with_reducible first|rfl|exact True.intro|apply AG|apply And.intro|((first|apply Au|apply AE|apply Av|apply AF)<;>intro _))|(apply As<;>intro _)|apply AD|refine Af () ?_ ?_|((first|apply AK|apply AJ|apply AI|apply AH|apply AC|apply AB|apply AA|apply Az|apply Ax)<;>try dsimp only)|apply Af|(refine Prod.forall.2 ?_;intro _;try dsimp only)|(intro _;try dsimp only))<;>(try dsimp only at*)<;>(try simp only[Ai,List.length_cons,List.length_nil])<;>(try omega)
 all_goals simp [EC,FA, *])
def Kv:Sig:= {X:=Int,args:=fun x=>[.int .i64 x],pre:=fun x=>True,Y:=Unit,post:=fun x y=>True,res:=fun x y=> .bool (CN x),outs:=fun x y=>[.top],keep:=false}
theorem b1v:Ah G Tryz.prog 161 Kv:=
 vcFun_okP [(59,0,GC)] [] false (fun x=>[]) Tryz.func161 rfl (by decide) ⟨VL,trivial⟩ (fun(x:Int)=>(∀(y:Unit),True→True∧True∧True)∧cA GC [.int .i64 x] fun x_1 y=>Ab (Gv x_1) (rA Kv x [.bool true,.top]) (rA Kv x [.bool (x==(19:Int)),.top])) (fun x=>by kernel_rfl) fun(x:Int) (hx:True)=>(by
 dsimp only[cA,rA,GC,Kv,Aq,Aw,mvL,lnL,mvE,lnE,mvG,mvH,lnG,lnH]
 (repeat' first|(with_reducible first|rfl|exact True.intro|apply AG|apply And.intro|((first|apply Au|apply AE|apply Av|apply AF)<;>intro _))|(apply As<;>intro _)|apply AD|refine Af () ?_ ?_|((first|apply AK|apply AJ|apply AI|apply AH|apply AC|apply AB|apply AA|apply Az|apply Ax)<;>try dsimp only)|apply Af|(refine Prod.forall.2 ?_;intro _;try dsimp only)|(intro _;try dsimp only))<;>(try dsimp only at*)<;>(try simp only[Ai,List.length_cons,List.length_nil])<;>(try omega)
 all_goals simp [CN,FA, *])
def Kw:Sig:= {X:=Int,args:=fun x=>[.int .i64 x],pre:=fun x=>True,Y:=Unit,post:=fun x y=>True,res:=fun x y=> .bool (EQ x),outs:=fun x y=>[.top],keep:=false}
theorem b1w:Ah G Tryz.prog 162 Kw:=
 vcFun_okP [(60,0,EG)] [] false (fun x=>[]) Tryz.func162 rfl (by decide) ⟨QB,trivial⟩ (fun(x:Int)=>(∀(y:Unit),True→True∧True∧True)∧cA EG [.int .i64 x] fun x_1 y=>Ab (CG x_1) (rA Kw x [.bool true,.top]) (rA Kw x [.bool (x==(21:Int)),.top])) (fun x=>by kernel_rfl) fun(x:Int) (hx:True)=>(by
 dsimp only[cA,rA,EG,Kw,Aq,Aw,mvL,lnL,mvE,lnE,mvG,mvH,lnG,lnH]
 (repeat' first|(with_reducible first|rfl|exact True.intro|apply AG|apply And.intro|((first|apply Au|apply AE|apply Av|apply AF)<;>intro _))|(apply As<;>intro _)|apply AD|refine Af () ?_ ?_|((first|apply AK|apply AJ|apply AI|apply AH|apply AC|apply AB|apply AA|apply Az|apply Ax)<;>try dsimp only)|apply Af|(refine Prod.forall.2 ?_;intro _;try dsimp only)|(intro _;try dsimp only))<;>(try dsimp only at*)<;>(try simp only[Ai,List.length_cons,List.length_nil])<;>(try omega)
 all_goals simp [EQ,FA, *])
def Mm:Sig:= {X:=Int,args:=fun x=>[.int .i64 x],pre:=fun x=>True,Y:=Unit,post:=fun x y=>True,res:=fun x y=> .bool (Dz x),outs:=fun x y=>[.top],keep:=false}
theorem b1x:Ah G Tryz.prog 191 Mm:=
 vcFun_okP [] [] false (fun x=>[]) Tryz.func191 rfl (by decide) trivial (fun(x:Int)=>(∀(y:Unit),True→True∧True∧True)∧rA Mm x [.bool (x==(1:Int)),.top]) (fun x=>by kernel_rfl) fun(x:Int) (hx:True)=>(by
 dsimp only[rA,Mm,Aq,Aw]
 (repeat' first|(with_reducible first|rfl|exact True.intro|apply AG|apply And.intro|((first|apply Au|apply AE|apply Av|apply AF)<;>intro _))|(apply As<;>intro _)|apply AD|refine Af () ?_ ?_|((first|apply AK|apply AJ|apply AI|apply AH|apply AC|apply AB|apply AA|apply Az|apply Ax)<;>try dsimp only)|apply Af|(refine Prod.forall.2 ?_;intro _;try dsimp only)|(intro _;try dsimp only))<;>(try dsimp only at*)<;>(try simp only[Ai,List.length_cons,List.length_nil])<;>(try omega)
 all_goals simp [Dz,FA, *])
def Ea(p:Int→Bool)(x:List Int)(i:Int):Prop:=0≤i∧i≤x.length∧∀e∈x.take i.toNat,p e=true
theorem Kx{p:Int→Bool}{x:List Int}:Ea p x 0:=⟨by omega,by omega,by simp⟩
theorem Ky{p:Int→Bool}{x:List Int}{i:Int}{e:Int}(h:Ea p x i)(he:x[i.toNat]? =some e)(hp:p e=true):Ea p x (i+1):=by
 obtain⟨h1,h2,h3⟩:=h
 have:=(Cm he).1
 exact⟨by omega,by omega,by rw[BD h1];exact b1s he hp h3⟩
theorem Kz{p:Int→Bool}{x:List Int}{i:Int}(h:Ea p x i)(hl:¬i<x.length):true=x.all p:=(b1t h.2.2 (by omega)).symm
def CP(p:Int→Bool)(c:AV)(x:List Int):LS:= {
 ι:=Int,inv:=Ea p x,regs:=fun i=>[(0,Ad x),(1,c),(7,Ad x),(8,.int .i64 x.length),(9,.int .i64 i)],als:=[],meas:=fun i=>x.length-i.toNat}
def Jp:Sig:= {X:=List Int,args:=fun x=>[Ad x,.clo (.func 76) []],pre:=fun x=>x.length<2^62,Y:=Unit,post:=fun x y=>True,res:=fun x y=> .bool (x.all AX),outs:=fun x y=>[.top,.top],keep:=false}
theorem b1y:Ah G Tryz.prog 157 Jp:=
 vcFun_okP [(76,0,EF)] [] false (fun x=>[(2,CP AX (.clo (.func 76) []) x)]) Tryz.func157 rfl (by decide) ⟨QA,trivial⟩ (fun(x:List Int)=>(∀(y:Unit),True→True∧True∧True∧True)∧eA (CP AX (AV.clo (.func 76) []) x) [Ad x,AV.clo (.func 76) [],Ad x,.int .i64 (↑(List.length x):Int),.int .i64 (0:Int)]∧∀(i:Int),Ea AX x i→Ab (decide (i<(↑(List.length x):Int))) (((0:Int)≤i∧i<(↑(List.length x):Int))∧∀(e:Int),x[Int.toNat i]? =some e→cA EF [.int .i64 e] fun x_1 y=>Ab (!AX x_1) (rA Jp x [.bool false,.top,.top]) (inR IntKind.i64 (i+(1:Int))∧eN (CP AX (AV.clo (.func 76) []) x) i [Ad x,AV.clo (.func 76) [],Ad x,.int .i64 (↑(List.length x):Int),.int .i64 (i+(1:Int))])) (rA Jp x [.bool true,.top,.top])) (fun x=>by kernel_rfl) fun(x:List Int) (hx:x.length<2^62)=>(by
 dsimp only[cA,eA,eN,Ad,CP,rA,Jp,EF,Aq,Aw,mvL,lnL,mvE,lnE,mvG,mvH,lnG,lnH,AZ]
 have hx:x.length<2^62:=hx
 (repeat' first|(with_reducible first|rfl|exact True.intro|apply AG|apply And.intro|((first|apply Au|apply AE|apply Av|apply AF)<;>intro _))|(apply As<;>intro _)|apply AD|refine Af () ?_ ?_|((first|apply AK|apply AJ|apply AI|apply AH|apply AC|apply AB|apply AA|apply Az|apply Ax)<;>try dsimp only)|apply Af|(refine Prod.forall.2 ?_;intro _;try dsimp only)|(intro _;try dsimp only))
 all_goals first|exact Kx|(rename_i i hi hl e he y _ hp;exact(Ku he hp).symm)|(rename_i i hi hl e he y _ hp;exact Ky hi he hp)|(rename_i i hi hl;exact Kz hi hl)|(obtain⟨_,_,_⟩:= ‹Ea _ _ _›;(try simp only[Ai] at*);omega)|skip)
def KA:Sig:= {X:=List Int,args:=fun x=>[Ad x,.clo (.func 160) []],pre:=fun x=>x.length<2^62,Y:=Unit,post:=fun x y=>True,res:=fun x y=> .bool (x.all Db),outs:=fun x y=>[.top,.top],keep:=false}
theorem b1z:Ah G Tryz.prog 157 KA:=
 vcFun_okP [(160,0,GD)] [] false (fun x=>[(2,CP Db (.clo (.func 160) []) x)]) Tryz.func157 rfl (by decide) ⟨VM,trivial⟩ (fun(x:List Int)=>(∀(y:Unit),True→True∧True∧True∧True)∧eA (CP Db (AV.clo (.func 160) []) x) [Ad x,AV.clo (.func 160) [],Ad x,.int .i64 (↑(List.length x):Int),.int .i64 (0:Int)]∧∀(i:Int),Ea Db x i→Ab (decide (i<(↑(List.length x):Int))) (((0:Int)≤i∧i<(↑(List.length x):Int))∧∀(e:Int),x[Int.toNat i]? =some e→cA GD [.int .i64 e] fun x_1 y=>Ab (!Db x_1) (rA KA x [.bool false,.top,.top]) (inR IntKind.i64 (i+(1:Int))∧eN (CP Db (AV.clo (.func 160) []) x) i [Ad x,AV.clo (.func 160) [],Ad x,.int .i64 (↑(List.length x):Int),.int .i64 (i+(1:Int))])) (rA KA x [.bool true,.top,.top])) (fun x=>by kernel_rfl) fun(x:List Int) (hx:x.length<2^62)=>(by
 dsimp only[cA,eA,eN,Ad,CP,rA,KA,GD,Aq,Aw,mvL,lnL,mvE,lnE,mvG,mvH,lnG,lnH,AZ]
 have hx:x.length<2^62:=hx
 (repeat' first|(with_reducible first|rfl|exact True.intro|apply AG|apply And.intro|((first|apply Au|apply AE|apply Av|apply AF)<;>intro _))|(apply As<;>intro _)|apply AD|refine Af () ?_ ?_|((first|apply AK|apply AJ|apply AI|apply AH|apply AC|apply AB|apply AA|apply Az|apply Ax)<;>try dsimp only)|apply Af|(refine Prod.forall.2 ?_;intro _;try dsimp only)|(intro _;try dsimp only))
 all_goals first|exact Kx|(rename_i i hi hl e he y _ hp;exact(Ku he hp).symm)|(rename_i i hi hl e he y _ hp;exact Ky hi he hp)|(rename_i i hi hl;exact Kz hi hl)|(obtain⟨_,_,_⟩:= ‹Ea _ _ _›;(try simp only[Ai] at*);omega)|skip)
def KB:Sig:= {X:=List Int,args:=fun x=>[Ad x,.clo (.func 60) []],pre:=fun x=>x.length<2^62,Y:=Unit,post:=fun x y=>True,res:=fun x y=> .bool (x.all CG),outs:=fun x y=>[.top,.top],keep:=false}
theorem b1A:Ah G Tryz.prog 157 KB:=
 vcFun_okP [(60,0,EG)] [] false (fun x=>[(2,CP CG (.clo (.func 60) []) x)]) Tryz.func157 rfl (by decide) ⟨QB,trivial⟩ (fun(x:List Int)=>(∀(y:Unit),True→True∧True∧True∧True)∧eA (CP CG (AV.clo (.func 60) []) x) [Ad x,AV.clo (.func 60) [],Ad x,.int .i64 (↑(List.length x):Int),.int .i64 (0:Int)]∧∀(i:Int),Ea CG x i→Ab (decide (i<(↑(List.length x):Int))) (((0:Int)≤i∧i<(↑(List.length x):Int))∧∀(e:Int),x[Int.toNat i]? =some e→cA EG [.int .i64 e] fun x_1 y=>Ab (!CG x_1) (rA KB x [.bool false,.top,.top]) (inR IntKind.i64 (i+(1:Int))∧eN (CP CG (AV.clo (.func 60) []) x) i [Ad x,AV.clo (.func 60) [],Ad x,.int .i64 (↑(List.length x):Int),.int .i64 (i+(1:Int))])) (rA KB x [.bool true,.top,.top])) (fun x=>by kernel_rfl) fun(x:List Int) (hx:x.length<2^62)=>(by
 dsimp only[cA,eA,eN,Ad,CP,rA,KB,EG,Aq,Aw,mvL,lnL,mvE,lnE,mvG,mvH,lnG,lnH,AZ]
 have hx:x.length<2^62:=hx
 (repeat' first|(with_reducible first|rfl|exact True.intro|apply AG|apply And.intro|((first|apply Au|apply AE|apply Av|apply AF)<;>intro _))|(apply As<;>intro _)|apply AD|refine Af () ?_ ?_|((first|apply AK|apply AJ|apply AI|apply AH|apply AC|apply AB|apply AA|apply Az|apply Ax)<;>try dsimp only)|apply Af|(refine Prod.forall.2 ?_;intro _;try dsimp only)|(intro _;try dsimp only))
 all_goals first|exact Kx|(rename_i i hi hl e he y _ hp;exact(Ku he hp).symm)|(rename_i i hi hl e he y _ hp;exact Ky hi he hp)|(rename_i i hi hl;exact Kz hi hl)|(obtain⟨_,_,_⟩:= ‹Ea _ _ _›;(try simp only[Ai] at*);omega)|skip)
def KC:Sig:= {X:=List Int,args:=fun x=>[Ad x,.clo (.func 159) []],pre:=fun x=>x.length<2^62,Y:=Unit,post:=fun x y=>True,res:=fun x y=> .bool (x.all EC),outs:=fun x y=>[.top,.top],keep:=false}
theorem b1B:Ah G Tryz.prog 157 KC:=
 vcFun_okP [(159,0,Ml)] [] false (fun x=>[(2,CP EC (.clo (.func 159) []) x)]) Tryz.func157 rfl (by decide) ⟨b1u,trivial⟩ (fun(x:List Int)=>(∀(y:Unit),True→True∧True∧True∧True)∧eA (CP EC (AV.clo (.func 159) []) x) [Ad x,AV.clo (.func 159) [],Ad x,.int .i64 (↑(List.length x):Int),.int .i64 (0:Int)]∧∀(i:Int),Ea EC x i→Ab (decide (i<(↑(List.length x):Int))) (((0:Int)≤i∧i<(↑(List.length x):Int))∧∀(e:Int),x[Int.toNat i]? =some e→cA Ml [.int .i64 e] fun x_1 y=>Ab (!EC x_1) (rA KC x [.bool false,.top,.top]) (inR IntKind.i64 (i+(1:Int))∧eN (CP EC (AV.clo (.func 159) []) x) i [Ad x,AV.clo (.func 159) [],Ad x,.int .i64 (↑(List.length x):Int),.int .i64 (i+(1:Int))])) (rA KC x [.bool true,.top,.top])) (fun x=>by kernel_rfl) fun(x:List Int) (hx:x.length<2^62)=>(by
 dsimp only[cA,eA,eN,Ad,CP,rA,KC,Ml,Aq,Aw,mvL,lnL,mvE,lnE,mvG,mvH,lnG,lnH,AZ]
 have hx:x.length<2^62:=hx
 (repeat' first|(with_reducible first|rfl|exact True.intro|apply AG|apply And.intro|((first|apply Au|apply AE|apply Av|apply AF)<;>intro _))|(apply As<;>intro _)|apply AD|refine Af () ?_ ?_|((first|apply AK|apply AJ|apply AI|apply AH|apply AC|apply AB|apply AA|apply Az|apply Ax)<;>try dsimp only)|apply Af|(refine Prod.forall.2 ?_;intro _;try dsimp only)|(intro _;try dsimp only))
 all_goals first|exact Kx|(rename_i i hi hl e he y _ hp;exact(Ku he hp).symm)|(rename_i i hi hl e he y _ hp;exact Ky hi he hp)|(rename_i i hi hl;exact Kz hi hl)|(obtain⟨_,_,_⟩:= ‹Ea _ _ _›;(try simp only[Ai] at*);omega)|skip)
def KD:Sig:= {X:=List Int,args:=fun x=>[Ad x,.clo (.func 161) []],pre:=fun x=>x.length<2^62,Y:=Unit,post:=fun x y=>True,res:=fun x y=> .bool (x.all CN),outs:=fun x y=>[.top,.top],keep:=false}
theorem b1C:Ah G Tryz.prog 157 KD:=
 vcFun_okP [(161,0,Kv)] [] false (fun x=>[(2,CP CN (.clo (.func 161) []) x)]) Tryz.func157 rfl (by decide) ⟨b1v,trivial⟩ (fun(x:List Int)=>(∀(y:Unit),True→True∧True∧True∧True)∧eA (CP CN (AV.clo (.func 161) []) x) [Ad x,AV.clo (.func 161) [],Ad x,.int .i64 (↑(List.length x):Int),.int .i64 (0:Int)]∧∀(i:Int),Ea CN x i→Ab (decide (i<(↑(List.length x):Int))) (((0:Int)≤i∧i<(↑(List.length x):Int))∧∀(e:Int),x[Int.toNat i]? =some e→cA Kv [.int .i64 e] fun x_1 y=>Ab (!CN x_1) (rA KD x [.bool false,.top,.top]) (inR IntKind.i64 (i+(1:Int))∧eN (CP CN (AV.clo (.func 161) []) x) i [Ad x,AV.clo (.func 161) [],Ad x,.int .i64 (↑(List.length x):Int),.int .i64 (i+(1:Int))])) (rA KD x [.bool true,.top,.top])) (fun x=>by kernel_rfl) fun(x:List Int) (hx:x.length<2^62)=>(by
 dsimp only[cA,eA,eN,Ad,CP,rA,KD,Kv,Aq,Aw,mvL,lnL,mvE,lnE,mvG,mvH,lnG,lnH,AZ]
 have hx:x.length<2^62:=hx
 (repeat' first|(with_reducible first|rfl|exact True.intro|apply AG|apply And.intro|((first|apply Au|apply AE|apply Av|apply AF)<;>intro _))|(apply As<;>intro _)|apply AD|refine Af () ?_ ?_|((first|apply AK|apply AJ|apply AI|apply AH|apply AC|apply AB|apply AA|apply Az|apply Ax)<;>try dsimp only)|apply Af|(refine Prod.forall.2 ?_;intro _;try dsimp only)|(intro _;try dsimp only))
 all_goals first|exact Kx|(rename_i i hi hl e he y _ hp;exact(Ku he hp).symm)|(rename_i i hi hl e he y _ hp;exact Ky hi he hp)|(rename_i i hi hl;exact Kz hi hl)|(obtain⟨_,_,_⟩:= ‹Ea _ _ _›;(try simp only[Ai] at*);omega)|skip)
def KE:Sig:= {X:=List Int,args:=fun x=>[Ad x,.clo (.func 162) []],pre:=fun x=>x.length<2^62,Y:=Unit,post:=fun x y=>True,res:=fun x y=> .bool (x.all EQ),outs:=fun x y=>[.top,.top],keep:=false}
theorem b1D:Ah G Tryz.prog 157 KE:=
 vcFun_okP [(162,0,Kw)] [] false (fun x=>[(2,CP EQ (.clo (.func 162) []) x)]) Tryz.func157 rfl (by decide) ⟨b1w,trivial⟩ (fun(x:List Int)=>(∀(y:Unit),True→True∧True∧True∧True)∧eA (CP EQ (AV.clo (.func 162) []) x) [Ad x,AV.clo (.func 162) [],Ad x,.int .i64 (↑(List.length x):Int),.int .i64 (0:Int)]∧∀(i:Int),Ea EQ x i→Ab (decide (i<(↑(List.length x):Int))) (((0:Int)≤i∧i<(↑(List.length x):Int))∧∀(e:Int),x[Int.toNat i]? =some e→cA Kw [.int .i64 e] fun x_1 y=>Ab (!EQ x_1) (rA KE x [.bool false,.top,.top]) (inR IntKind.i64 (i+(1:Int))∧eN (CP EQ (AV.clo (.func 162) []) x) i [Ad x,AV.clo (.func 162) [],Ad x,.int .i64 (↑(List.length x):Int),.int .i64 (i+(1:Int))])) (rA KE x [.bool true,.top,.top])) (fun x=>by kernel_rfl) fun(x:List Int) (hx:x.length<2^62)=>(by
 dsimp only[cA,eA,eN,Ad,CP,rA,KE,Kw,Aq,Aw,mvL,lnL,mvE,lnE,mvG,mvH,lnG,lnH,AZ]
 have hx:x.length<2^62:=hx
 (repeat' first|(with_reducible first|rfl|exact True.intro|apply AG|apply And.intro|((first|apply Au|apply AE|apply Av|apply AF)<;>intro _))|(apply As<;>intro _)|apply AD|refine Af () ?_ ?_|((first|apply AK|apply AJ|apply AI|apply AH|apply AC|apply AB|apply AA|apply Az|apply Ax)<;>try dsimp only)|apply Af|(refine Prod.forall.2 ?_;intro _;try dsimp only)|(intro _;try dsimp only))
 all_goals first|exact Kx|(rename_i i hi hl e he y _ hp;exact(Ku he hp).symm)|(rename_i i hi hl e he y _ hp;exact Ky hi he hp)|(rename_i i hi hl;exact Kz hi hl)|(obtain⟨_,_,_⟩:= ‹Ea _ _ _›;(try simp only[Ai] at*);omega)|skip)
def HD:Sig:= {X:=List Int,args:=fun x=>[Ad x,.clo (.func 191) []],pre:=fun x=>x.length<2^62,Y:=Unit,post:=fun x y=>True,res:=fun x y=> .bool (x.all Dz),outs:=fun x y=>[.top,.top],keep:=false}
theorem a1k:Ah G Tryz.prog 157 HD:=
 vcFun_okP [(191,0,Mm)] [] false (fun x=>[(2,CP Dz (.clo (.func 191) []) x)]) Tryz.func157 rfl (by decide) ⟨b1x,trivial⟩ (fun(x:List Int)=>(∀(y:Unit),True→True∧True∧True∧True)∧eA (CP Dz (AV.clo (.func 191) []) x) [Ad x,AV.clo (.func 191) [],Ad x,.int .i64 (↑(List.length x):Int),.int .i64 (0:Int)]∧∀(i:Int),Ea Dz x i→Ab (decide (i<(↑(List.length x):Int))) (((0:Int)≤i∧i<(↑(List.length x):Int))∧∀(e:Int),x[Int.toNat i]? =some e→cA Mm [.int .i64 e] fun x_1 y=>Ab (!Dz x_1) (rA HD x [.bool false,.top,.top]) (inR IntKind.i64 (i+(1:Int))∧eN (CP Dz (AV.clo (.func 191) []) x) i [Ad x,AV.clo (.func 191) [],Ad x,.int .i64 (↑(List.length x):Int),.int .i64 (i+(1:Int))])) (rA HD x [.bool true,.top,.top])) (fun x=>by kernel_rfl) fun(x:List Int) (hx:x.length<2^62)=>(by
 dsimp only[cA,eA,eN,Ad,CP,rA,HD,Mm,Aq,Aw,mvL,lnL,mvE,lnE,mvG,mvH,lnG,lnH,AZ]
 have hx:x.length<2^62:=hx
 (repeat' first|(with_reducible first|rfl|exact True.intro|apply AG|apply And.intro|((first|apply Au|apply AE|apply Av|apply AF)<;>intro _))|(apply As<;>intro _)|apply AD|refine Af () ?_ ?_|((first|apply AK|apply AJ|apply AI|apply AH|apply AC|apply AB|apply AA|apply Az|apply Ax)<;>try dsimp only)|apply Af|(refine Prod.forall.2 ?_;intro _;try dsimp only)|(intro _;try dsimp only))
 all_goals first|exact Kx|(rename_i i hi hl e he y _ hp;exact(Ku he hp).symm)|(rename_i i hi hl e he y _ hp;exact Ky hi he hp)|(rename_i i hi hl;exact Kz hi hl)|(obtain⟨_,_,_⟩:= ‹Ea _ _ _›;(try simp only[Ai] at*);omega)|skip)
theorem a1l{p:Int→Bool}{x:List Int}(h:¬(0:Int)<x.length):false=ED p x:=by
 obtain rfl:x=[]:=List.length_eq_zero_iff.1 (by omega)
 rfl
theorem a1m{p:Int→Bool}{x:List Int}{e:Int}(he:x[(x.length-1:Int).toNat]? =some e):ED p x=(p e&&(x.take (x.length-1:Int).toNat).all Dz):=by
 have e1:(x.length-1:Int).toNat=x.length-1:=by omega
 rw[e1] at he ⊢
 unfold ED
 rw[List.getLast?_eq_getElem?,he,List.dropLast_eq_take]
def Jq:Sig:= {X:=List Int,args:=fun x=>[Ad x,.clo (.func 76) []],pre:=fun x=>x.length<2^62,Y:=Unit,post:=fun x y=>True,res:=fun x y=> .bool (ED AX x),outs:=fun x y=>[.top,.top],keep:=false}
theorem b1E:Ah G Tryz.prog 158 Jq:=
 vcFun_okP [(76,0,EF),(157,191+1,HD)] [] false (fun x=>[]) Tryz.func158 rfl (by decide) ⟨QA,a1k,trivial⟩ (fun(x:List Int)=>(∀(y:Unit),True→True∧True∧True∧True)∧Ab (decide ((↑(List.length x):Int)>(0:Int))) (inR IntKind.i64 ((↑(List.length x):Int)-(1:Int))∧((0:Int)≤(↑(List.length x):Int)-(1:Int)∧(↑(List.length x):Int)-(1:Int)<(↑(List.length x):Int))∧∀(e:Int),x[Int.toNat ((↑(List.length x):Int)-(1:Int))]? =some e→cA EF [.int .i64 e] fun x_1 y=>Ab (AX x_1) (inR IntKind.i64 ((↑(List.length x):Int)-(1:Int))∧((0:Int)≤(0:Int)∧(0:Int)≤(↑(List.length x):Int)-(1:Int)∧(↑(List.length x):Int)-(1:Int)≤(↑(List.length x):Int))∧cA HD [Ad (List.take (Int.toNat ((↑(List.length x):Int)-(1:Int))) x),AV.clo (Fn.func (161:Nat)) []] fun x_2 y=>rA Jq x [.bool (List.all x_2 Dz),.top,.top]) (rA Jq x [.bool false,.top,.top])) (rA Jq x [.bool false,.top,.top])) (fun x=>by kernel_rfl) fun(x:List Int) (hx:x.length<2^62)=>(by
 dsimp only[cA,Ad,rA,HD,EF,Jq,Aq,Aw,mvL,lnL,mvE,lnE,mvG,mvH,lnG,lnH]
 have hx:x.length<2^62:=hx
 (repeat' first|(with_reducible first|rfl|exact True.intro|apply AG|apply And.intro|((first|apply Au|apply AE|apply Av|apply AF)<;>intro _))|(apply As<;>intro _)|apply AD|refine Af () ?_ ?_|((first|apply AK|apply AJ|apply AI|apply AH|apply AC|apply AB|apply AA|apply Az|apply Ax)<;>try dsimp only)|apply Af|(refine Prod.forall.2 ?_;intro _;try dsimp only)|(intro _;try dsimp only))<;>(try dsimp only at*)<;>(try simp only[Ai,List.length_cons,List.length_nil])<;>(try omega)
 all_goals first|exact a1l (by omega)|(rw[a1m ‹_›];simp [*];done)|(rw[List.length_take];omega)|skip)
def Jr:Sig:= {X:=List Int,args:=fun x=>[Ad x,.clo (.func 160) []],pre:=fun x=>x.length<2^62,Y:=Unit,post:=fun x y=>True,res:=fun x y=> .bool (ED Db x),outs:=fun x y=>[.top,.top],keep:=false}
theorem b1F:Ah G Tryz.prog 158 Jr:=
 vcFun_okP [(160,0,GD),(157,191+1,HD)] [] false (fun x=>[]) Tryz.func158 rfl (by decide) ⟨VM,a1k,trivial⟩ (fun(x:List Int)=>(∀(y:Unit),True→True∧True∧True∧True)∧Ab (decide ((↑(List.length x):Int)>(0:Int))) (inR IntKind.i64 ((↑(List.length x):Int)-(1:Int))∧((0:Int)≤(↑(List.length x):Int)-(1:Int)∧(↑(List.length x):Int)-(1:Int)<(↑(List.length x):Int))∧∀(e:Int),x[Int.toNat ((↑(List.length x):Int)-(1:Int))]? =some e→cA GD [.int .i64 e] fun x_1 y=>Ab (Db x_1) (inR IntKind.i64 ((↑(List.length x):Int)-(1:Int))∧((0:Int)≤(0:Int)∧(0:Int)≤(↑(List.length x):Int)-(1:Int)∧(↑(List.length x):Int)-(1:Int)≤(↑(List.length x):Int))∧cA HD [Ad (List.take (Int.toNat ((↑(List.length x):Int)-(1:Int))) x),AV.clo (Fn.func (161:Nat)) []] fun x_2 y=>rA Jr x [.bool (List.all x_2 Dz),.top,.top]) (rA Jr x [.bool false,.top,.top])) (rA Jr x [.bool false,.top,.top])) (fun x=>by kernel_rfl) fun(x:List Int) (hx:x.length<2^62)=>(by
 dsimp only[cA,Ad,rA,HD,GD,Jr,Aq,Aw,mvL,lnL,mvE,lnE,mvG,mvH,lnG,lnH]
 have hx:x.length<2^62:=hx
 (repeat' first|(with_reducible first|rfl|exact True.intro|apply AG|apply And.intro|((first|apply Au|apply AE|apply Av|apply AF)<;>intro _))|(apply As<;>intro _)|apply AD|refine Af () ?_ ?_|((first|apply AK|apply AJ|apply AI|apply AH|apply AC|apply AB|apply AA|apply Az|apply Ax)<;>try dsimp only)|apply Af|(refine Prod.forall.2 ?_;intro _;try dsimp only)|(intro _;try dsimp only))<;>(try dsimp only at*)<;>(try simp only[Ai,List.length_cons,List.length_nil])<;>(try omega)
 all_goals first|exact a1l (by omega)|(rw[a1m ‹_›];simp [*];done)|(rw[List.length_take];omega)|skip)
def BZ:Sig:= {X:=Int×List Int,args:=fun x=>[.int .i64 x.1,Ad x.2],pre:=fun x=>x.2.length<2^62,Y:=Unit,post:=fun x y=>True,res:=fun x y=> .bool (CV x.1 x.2),outs:=fun x y=>[.top,.top],keep:=false}
def Oc(x:Int×List Int)(x_1:Jp.X):Prop:=Ab ((↑(List.length x.2):Int)==(1:Int)) (rA BZ x [.bool (List.all x_1 AX),.top,.top]) (rA BZ x [.bool false,.top,.top])
theorem b1G:Ah G Tryz.prog 124 BZ:=
 vcFun_okP [(76,0,EF),(160,0,GD),(36,0,BG),(157,76+1,Jp),(157,160+1,KA),(157,60+1,KB),(157,159+1,KC),(157,161+1,KD),(157,162+1,KE),(158,76+1,Jq),(158,160+1,Jr)] [] false (fun x=>[]) Tryz.func124 rfl (by decide) ⟨QA,VM,Gw,b1y,b1z,b1A,b1B,b1C,b1D,b1E,b1F,trivial⟩ (fun(x:Int×List Int)=>(∀(y:Unit),True→True∧True∧True∧True)∧cA Jp [Ad x.2,AV.clo (Fn.func (126:Nat)) []] fun x_1 y=>Ab (x.1==(1:Int)) (rA BZ x [.bool ((↑(List.length x.2):Int)==(0:Int)),.top,.top]) (Ab (x.1==(2:Int)) (rA BZ x [.bool ((↑(List.length x.2):Int)==(0:Int)),.top,.top]) (Ab (x.1==(3:Int)) (rA BZ x [.bool ((↑(List.length x.2):Int)==(0:Int)),.top,.top]) (Ab (x.1==(19:Int)) (rA BZ x [.bool ((↑(List.length x.2):Int)==(0:Int)),.top,.top]) (Ab (x.1==(4:Int)) (rA BZ x [.bool (List.all x_1 AX),.top,.top]) (Ab (x.1==(5:Int)) (Ab (decide ((↑(List.length x.2):Int)≥(1:Int))) (rA BZ x [.bool (List.all x_1 AX),.top,.top]) (rA BZ x [.bool false,.top,.top])) (Ab (x.1==(7:Int)) (Ab (decide ((↑(List.length x.2):Int)≥(2:Int))) (rA BZ x [.bool (List.all x_1 AX),.top,.top]) (rA BZ x [.bool false,.top,.top])) (Ab (x.1==(8:Int)) (Ab ((↑(List.length x.2):Int)==(3:Int)) (rA BZ x [.bool (List.all x_1 AX),.top,.top]) (rA BZ x [.bool false,.top,.top])) (Ab (x.1==(6:Int)) (Oc x x_1) (Ab (x.1==(11:Int)) (Oc x x_1) (Ab (x.1==(13:Int)) (Oc x x_1) (Ab (x.1==(14:Int)) (Oc x x_1) (Ab (x.1==(12:Int)) (Ab (decide ((↑(List.length x.2):Int)≤(1:Int))) (rA BZ x [.bool (List.all x_1 AX),.top,.top]) (rA BZ x [.bool false,.top,.top])) (Ab (x.1==(15:Int)) (Ab (decide ((↑(List.length x.2):Int)≤(1:Int))) (rA BZ x [.bool (List.all x_1 AX),.top,.top]) (rA BZ x [.bool false,.top,.top])) (Ab (x.1==(9:Int)) (cA Jq [Ad x.2,AV.clo (Fn.func (126:Nat)) []] fun x_2 y=>rA BZ x [.bool (ED AX x_2),.top,.top]) (Ab (x.1==(10:Int)) (Ab (decide ((↑(List.length x.2):Int)≥(2:Int))) (((0:Int)≤(0:Int)∧(0:Int)<(↑(List.length x.2):Int))∧∀(e:Int),x.2[(0:Nat)]? =some e→cA EF [.int .i64 e] fun x_2 y=>Ab (AX x_2) (((0:Int)≤(1:Int)∧((1:Int)≤(↑(List.length x.2):Int)∧(↑(List.length x.2):Int)≤(↑(List.length x.2):Int)))∧cA KC [Ad (List.drop (1:Nat) x.2),AV.clo (Fn.func (128:Nat)) []] fun x_3 y=>rA BZ x [.bool (List.all x_3 EC),.top,.top]) (rA BZ x [.bool false,.top,.top])) (rA BZ x [.bool false,.top,.top])) (Ab (x.1==(16:Int)) (cA BG [.int .i64 (↑(List.length x.2):Int),.int .i64 (2:Int),.int .i64 (3:Int)] fun x_2 y=>Ab (inn x_2.1 x_2.2.1 x_2.2.2) (((0:Int)≤(0:Int)∧(0:Int)<(↑(List.length x.2):Int))∧∀(e:Int),x.2[(0:Nat)]? =some e→cA EF [.int .i64 e] fun x_3 y=>Ab (AX x_3) (((0:Int)≤(1:Int)∧((1:Int)≤(↑(List.length x.2):Int)∧(↑(List.length x.2):Int)≤(↑(List.length x.2):Int)))∧cA KA [Ad (List.drop (1:Nat) x.2),AV.clo (Fn.func (129:Nat)) []] fun x_4 y=>rA BZ x [.bool (List.all x_4 Db),.top,.top]) (rA BZ x [.bool false,.top,.top])) (rA BZ x [.bool false,.top,.top])) (Ab (x.1==(17:Int)) (Ab ((↑(List.length x.2):Int)==(2:Int)) (((0:Int)≤(0:Int)∧(0:Int)<(↑(List.length x.2):Int))∧∀(e:Int),x.2[(0:Nat)]? =some e→cA EF [.int .i64 e] fun x_2 y=>Ab (AX x_2) (((0:Int)≤(1:Int)∧(1:Int)<(↑(List.length x.2):Int))∧∀(e:Int),x.2[(1:Nat)]? =some e→cA GD [.int .i64 e] fun x_3 y=>rA BZ x [.bool (Db x_3),.top,.top]) (rA BZ x [.bool false,.top,.top])) (rA BZ x [.bool false,.top,.top])) (Ab (x.1==(18:Int)) (cA KD [Ad x.2,AV.clo (Fn.func (130:Nat)) []] fun x_2 y=>rA BZ x [.bool (List.all x_2 CN),.top,.top]) (Ab (x.1==(20:Int)) (cA Jr [Ad x.2,AV.clo (Fn.func (129:Nat)) []] fun x_2 y=>rA BZ x [.bool (ED Db x_2),.top,.top]) (Ab (x.1==(21:Int)) (cA KB [Ad x.2,AV.clo (Fn.func (99:Nat)) []] fun x_2 y=>rA BZ x [.bool (List.all x_2 CG),.top,.top]) (Ab (x.1==(22:Int)) (cA KE [Ad x.2,AV.clo (Fn.func (131:Nat)) []] fun x_2 y=>rA BZ x [.bool (List.all x_2 EQ),.top,.top]) (rA BZ x [.bool false,.top,.top]))))))))))))))))))))))) (fun x=>by kernel_rfl) fun(x:Int×List Int) (hx:x.2.length<2^62)=>(by
 dsimp only[Oc,cA,Ad,rA,KA,KC,KB,KD,KE,Jp,BG,GD,EF,BZ,Jr,Jq,Aq,Aw,mvL,lnL,mvE,lnE,mvG,mvH,lnG,lnH]
 have hx:x.2.length<2^62:=hx
 obtain⟨k,l⟩:=x
 (repeat' first|(with_reducible first|rfl|exact True.intro|apply AG|apply And.intro|((first|apply Au|apply AE|apply Av|apply AF)<;>intro _))|(apply As<;>intro _)|apply AD|refine Af () ?_ ?_|((first|apply AK|apply AJ|apply AI|apply AH|apply AC|apply AB|apply AA|apply Az|apply Ax)<;>try dsimp only)|apply Af|(refine Prod.forall.2 ?_;intro _;try dsimp only)|(intro _;try dsimp only))<;>(try dsimp only at*)<;>(try simp only[Ai,List.length_cons,List.length_nil])<;>(try omega)
 all_goals try(simp only[List.length_drop];omega)
 all_goals try(simp [CV,FA, *]<;>omega)
 all_goals(match l with
  |[]=>simp_all [CV,inn]<;>omega
  |[a]=>simp_all [CV,inn]<;>omega
  |[a,b]=>simp_all [CV,inn]<;>omega
  |[a,b,c]=>simp_all [CV,inn]<;>omega
  |a::b::c::d::m=>simp_all [CV,inn]<;>omega))
def Eb:Sig:= {X:=List Nd×Int,args:=fun x=>[nds x.1,.int .i64 x.2],pre:=fun x=>x.1.length<2^62,Y:=Unit,post:=fun x y=>True,res:=fun x y=> .bool (Bh x.1 x.2),outs:=fun x y=>[.top,.top],keep:=false}
theorem Od:Ah G Tryz.prog 57 Eb:=
 vcFun_okP [] [] false (fun x=>[]) Tryz.func57 rfl (by decide) trivial (fun(x:List Nd×Int)=>(∀(y:Unit),True→True∧True∧True∧True)∧Ab (decide (x.2≥(0:Int))) (rA Eb x [.bool (decide (x.2<(↑(List.length x.1):Int))),.top,.top]) (rA Eb x [.bool false,.top,.top])) (fun x=>by kernel_rfl) fun(x:List Nd×Int) (hx:x.1.length<2^62)=>(by
 dsimp only[Bg,nds,rA,Eb,Aq,Aw]
 have hx:x.1.length<2^62:=hx
 (repeat' first|(with_reducible first|rfl|exact True.intro|apply AG|apply And.intro|((first|apply Au|apply AE|apply Av|apply AF)<;>intro _))|(apply As<;>intro _)|apply AD|refine Af () ?_ ?_|((first|apply AK|apply AJ|apply AI|apply AH|apply AC|apply AB|apply AA|apply Az|apply Ax)<;>try dsimp only)|apply Af|(refine Prod.forall.2 ?_;intro _;try dsimp only)|(intro _;try dsimp only))<;>(try dsimp only at*)<;>(try simp only[Ai,List.length_cons,List.length_nil])<;>(try omega)
 all_goals simp [Bh, *])
def QC(x:Nd):Prop:=x.text.length<2^62∧x.kids.length<2^62
def CH(l:List Nd):Prop:=l.length<2^62∧∀x∈l,QC x
theorem b1H{l:List Nd}{n:Nat}{x:Nd}(hx:l[n]? =some x)(h:CH l):QC x:=h.2 x (AY hx)
def GE(v:Int):List Int→Int→Int
 |[],_=> -1
 |c::l,i=>if v=c then i else GE v l (i+1)
theorem a1n{v:Int}:∀ {l:List Int} {i:Int},0≤i→(0≤GE v l i↔v∈l)
 |[],i,h=>by simp [GE]
 |c::l,i,h=>by
  unfold GE
  by_cases e:v=c
  ·simp [e,h]
  ·rw[if_neg e,a1n (by omega)];simp [e]
def KF:Sig:= {X:=List Int×Int,args:=fun x=>[Ad x.1,.int .i64 x.2],pre:=fun x=>x.1.length<2^62,Y:=Unit,post:=fun x y=>True,res:=fun x y=> .int .i64 (GE x.2 x.1 0),outs:=fun x y=>[.top,.top],keep:=false}
def QD(x:List Int×Int):LS:= {ι:=Int,inv:=fun i=>(0≤i∧i≤x.1.length)∧GE x.2 (x.1.drop i.toNat) i=GE x.2 x.1 0,regs:=fun i=>[(0,Ad x.1),(1,.int .i64 x.2),(7,.int .i64 x.1.length),(8,.int .i64 i)],als:=[],meas:=fun i=>x.1.length-i.toNat}
theorem b1I:Ah G Tryz.prog 156 KF:=
 vcFun_okP [] [] false (fun x=>[(2,QD x)]) Tryz.func156 rfl (by decide) trivial (fun(x:List Int×Int)=>(∀(y:Unit),True→True∧True∧True∧True)∧eA (QD x) [Ad x.1,.int .i64 x.2,.int .i64 (↑(List.length x.1):Int),.int .i64 (0:Int)]∧∀(i:Int),((0:Int)≤i∧i≤(↑(List.length x.1):Int))∧GE x.2 (List.drop (Int.toNat i) x.1) i=GE x.2 x.1 (0:Int)→Ab (decide (i<(↑(List.length x.1):Int))) (((0:Int)≤i∧i<(↑(List.length x.1):Int))∧∀(e:Int),x.1[Int.toNat i]? =some e→Ab (x.2==e) (rA KF x [.int .i64 i,.top,.top]) (inR IntKind.i64 (i+(1:Int))∧eN (QD x) i [Ad x.1,.int .i64 x.2,.int .i64 (↑(List.length x.1):Int),.int .i64 (i+(1:Int))])) (rA KF x [.int .i64 (-1:Int),.top,.top])) (fun x=>by kernel_rfl) fun(x:List Int×Int) (hx:x.1.length<2^62)=>(by
 dsimp only[eA,eN,QD,Ad,rA,KF,Aq,Aw,AZ]
 have hx:x.1.length<2^62:=hx
 (repeat' first|(with_reducible first|rfl|exact True.intro|apply AG|apply And.intro|((first|apply Au|apply AE|apply Av|apply AF)<;>intro _))|(apply As<;>intro _)|apply AD|refine Af () ?_ ?_|((first|apply AK|apply AJ|apply AI|apply AH|apply AC|apply AB|apply AA|apply Az|apply Ax)<;>try dsimp only)|apply Af|(refine Prod.forall.2 ?_;intro _;try dsimp only)|(intro _;try dsimp only))<;>(try dsimp only at*)<;>(try simp only[Ai,List.length_cons,List.length_nil])<;>(try omega)
 all_goals first
  |(rename_i i hi hl e he h;rw[←hi.2,Dq he];simp [GE,h];done)
  |(rename_i i hi hl e he h;rw[←hi.2,Dq he,BD hi.1.1];simp [GE,h];done)
  |rfl
  |(rename_i i hi hl;rw[←hi.2,List.drop_eq_nil_of_le (by omega)];rfl)
  |skip)
def Mn:Sig:= {X:=List Int×Int,args:=fun x=>[Ad x.1,.int .i64 x.2],pre:=fun x=>x.1.length<2^62,Y:=Unit,post:=fun x y=>True,res:=fun x y=> .bool (x.1.elem x.2),outs:=fun x y=>[.top,.top],keep:=false}
theorem b1J:Ah G Tryz.prog 123 Mn:=
 vcFun_okP [(156,0,KF)] [] false (fun x=>[]) Tryz.func123 rfl (by decide) ⟨b1I,trivial⟩ (fun(x:List Int×Int)=>(∀(y:Unit),True→True∧True∧True∧True)∧cA KF [Ad x.1,.int .i64 x.2] fun x_1 y=>rA Mn x [.bool (decide (GE x_1.2 x_1.1 (0:Int)≥(0:Int))),.top,.top]) (fun x=>by kernel_rfl) fun(x:List Int×Int) (hx:x.1.length<2^62)=>(by
 dsimp only[cA,Ad,rA,Mn,KF,Aq,Aw,mvL,lnL,mvE,lnE,mvG,mvH,lnG,lnH]
 have hx:x.1.length<2^62:=hx
 (repeat' first|(with_reducible first|rfl|exact True.intro|apply AG|apply And.intro|((first|apply Au|apply AE|apply Av|apply AF)<;>intro _))|(apply As<;>intro _)|apply AD|refine Af () ?_ ?_|((first|apply AK|apply AJ|apply AI|apply AH|apply AC|apply AB|apply AA|apply Az|apply Ax)<;>try dsimp only)|apply Af|(refine Prod.forall.2 ?_;intro _;try dsimp only)|(intro _;try dsimp only))<;>(try dsimp only at*)<;>(try simp only[Ai,List.length_cons,List.length_nil])<;>(try omega)
 all_goals first|(rw[Bool.eq_iff_iff,decide_eq_true_iff,List.elem_iff];exact a1n (by omega))|skip)
theorem a1o{ns:List Nd}{x:Nd}:ER ns x=true↔∀(j:Nat) c,x.kids[j]? =some c→CL ns x j c=true:=by
 have e:ER ns x=BE (fun i c=>CL ns x i.toNat c) x.kids 0:=by
  unfold ER
  have:(fun p:Int×Nat=>CL ns x p.2 p.1)=fun p:Int×Nat=>(fun(i c:Int)=>CL ns x i.toNat c) p.2 p.1:=by funext p;simp
  rw[this];exact VJ (f:=fun i c=>CL ns x i.toNat c) (i:=0)
 rw[e,VK];simp
def cfI(ns:List Nd)(x:Nd)(i:Int):Prop:=0≤i∧i≤x.kids.length∧∀(j:Nat) c,(j:Int)<i→x.kids[j]? =some c→CL ns x j c=true
theorem b1K{ns:List Nd}{x:Nd}:cfI ns x 0:=⟨by omega,by omega,fun j c h=>by omega⟩
theorem QE{ns:List Nd}{x:Nd}{i c:Int}(h:cfI ns x i)(hc:x.kids[i.toNat]? =some c)(hk:CL ns x i.toNat c=true):cfI ns x (i+1):=by
 obtain⟨h1,h2,h3⟩:=h
 have:=(Cm hc).1
 refine⟨by omega,by omega,fun j d hj hd=> ?_⟩
 by_cases e:(j:Int)<i
 ·exact h3 j d e hd
 ·obtain rfl:j=i.toNat:=by omega
  rw[hc] at hd;cases hd;exact hk
theorem b1L{ns:List Nd}{x:Nd}{i:Int}(h:cfI ns x i)(hl:¬i<x.kids.length):true=ER ns x:=by
 symm;rw[a1o];intro j c hc
 exact h.2.2 j c (by have:=(Cm hc).1;omega) hc
theorem VN{ns:List Nd}{x:Nd}{i c:Int}(hc:x.kids[i.toNat]? =some c)(hk:CL ns x i.toNat c=false):false=ER ns x:=by
 symm;rw[Bool.eq_false_iff];intro h
 rw[a1o.1 h _ _ hc] at hk;cases hk
theorem b1M{ns:List Nd}{x y:Nd}{i c:Int}(hy:ns[c.toNat]? =some y)(h:y.kind≠5):CL ns x i.toNat c=true:=by
 simp [CL,Bd hy,h]
theorem b1N{ns:List Nd}{x y:Nd}{i c:Int}(hy:ns[c.toNat]? =some y)(h:y.kind=5)(h0:(y.kids.length:Int)=0):CL ns x i.toNat c=false:=by
 have h0:=List.length_eq_zero_iff.1 (show y.kids.length=0 by omega)
 simp [CL,Bd hy,h,h0]
theorem b1O{ns:List Nd}{x y:Nd}{i c d:Int}(hy:ns[c.toNat]? =some y)(h:y.kind=5)(hd:Bh ns d=false)(h0:y.kids[0]? =some d):CL ns x i.toNat c=false:=by
 match hk:y.kids with
 |[]=>rw[hk] at h0;cases h0
 |e::t=>rw[hk] at h0;cases h0;simp [CL,Bd hy,h,hk,hd]
theorem b1P{ns:List Nd}{x y z:Nd}{i c d d':Int}(hy:ns[c.toNat]? =some y)(h:y.kind=5)(hd:Bh ns d=true)(h0:y.kids[0]? =some d)(hz:ns[d'.toNat]? =some z)(h0':y.kids[0]? =some d')(h10:x.kind=10)(hi:i>0)(h1:z.kind≠1):CL ns x i.toNat c=false:=by
 match hk:y.kids with
 |[]=>rw[hk] at h0;cases h0
 |e::t=>rw[hk] at h0 h0';cases h0;cases h0';simp [CL,Bd hy,h,hk,hd,h10,Al,Bd hz,h1];omega
theorem b1Q{ns:List Nd}{x y z:Nd}{i c d d':Int}(hy:ns[c.toNat]? =some y)(h:y.kind=5)(hd:Bh ns d=true)(h0:y.kids[0]? =some d)(hz:ns[d'.toNat]? =some z)(h0':y.kids[0]? =some d')(h1:z.kind=1):CL ns x i.toNat c=true:=by
 match hk:y.kids with
 |[]=>rw[hk] at h0;cases h0
 |e::t=>rw[hk] at h0 h0';cases h0;cases h0';simp [CL,Bd hy,h,hk,hd,Al,Bd hz,h1]
theorem b1R{ns:List Nd}{x y:Nd}{i c d:Int}(hy:ns[c.toNat]? =some y)(h:y.kind=5)(hd:Bh ns d=true)(h0:y.kids[0]? =some d)(h1:x.kind≠10):CL ns x i.toNat c=true:=by
 match hk:y.kids with
 |[]=>rw[hk] at h0;cases h0
 |e::t=>rw[hk] at h0;cases h0;simp [CL,Bd hy,h,hk,hd,h1]
theorem b1S{ns:List Nd}{x y:Nd}{i c d:Int}(hy:ns[c.toNat]? =some y)(h:y.kind=5)(hd:Bh ns d=true)(h0:y.kids[0]? =some d)(h1:¬i>0):CL ns x i.toNat c=true:=by
 have:i.toNat=0:=by omega
 match hk:y.kids with
 |[]=>rw[hk] at h0;cases h0
 |e::t=>rw[hk] at h0;cases h0;simp [CL,Bd hy,h,hk,hd,this]
theorem ndB{ns:List Nd}{l:List Int}{d d':Int}(hd:Bh ns d=true)(h0:l[0]? =some d)(h0':l[0]? =some d'):0≤d'∧d'<ns.length:=by
 rw[h0] at h0';cases h0';exact Bc.1 hd
def GZ:Sig:= {X:=List Nd×Nd,args:=fun x=>[nds x.1,.agg (ndA false x.2)],pre:=fun x=>CH x.1∧QC x.2∧∀c∈x.2.kids,0≤c∧c<x.1.length,Y:=Unit,post:=fun x y=>True,res:=fun x y=> .bool (ER x.1 x.2),outs:=fun x y=>[.top,.top],keep:=false}
def QF(x:List Nd×Nd):LS:= {ι:=Int,inv:=cfI x.1 x.2,regs:=fun i=>[(0,nds x.1),(3,.box 0 (ndA false x.2)),(9,Ad x.2.kids),(10,.int .i64 x.2.kids.length),(11,.int .i64 i)],als:=[],meas:=fun i=>x.2.kids.length-i.toNat}
def Oe(x:List Nd×Nd)(i:Int):Prop:=eN (QF x) i [nds x.1,.box 0 [.int .i64 x.2.kind,.str x.2.text,Ad x.2.kids,.bool x.2.blank],Ad x.2.kids,.int .i64 (↑(List.length x.2.kids):Int),.int .i64 (i+(1:Int))]
theorem b1T:Ah G Tryz.prog 125 GZ:=
 vcFun_okP [(57,0,Eb)] [] false (fun x=>[(2,QF x)]) Tryz.func125 rfl (by decide) ⟨Od,trivial⟩ (fun(x:List Nd×Nd)=>(∀(y:Unit),True→True∧True∧True∧True)∧eA (QF x) [nds x.1,.box 0 [.int .i64 x.2.kind,.str x.2.text,Ad x.2.kids,.bool x.2.blank],Ad x.2.kids,.int .i64 (↑(List.length x.2.kids):Int),.int .i64 (0:Int)]∧∀(i:Int),cfI x.1 x.2 i→Ab (decide (i<(↑(List.length x.2.kids):Int))) (((0:Int)≤i∧i<(↑(List.length x.2.kids):Int))∧∀(e:Int),x.2.kids[Int.toNat i]? =some e→((0:Int)≤e∧e<(↑(List.length x.1):Int))∧∀(e_1:Nd),x.1[Int.toNat e]? =some e_1→Ab (e_1.kind != (5:Int)) (inR IntKind.i64 (i+(1:Int))∧(Oe x i)) (Ab ((↑(List.length e_1.kids):Int)==(0:Int)) (rA GZ x [.bool false,.top,.top]) (((0:Int)≤(0:Int)∧(0:Int)<(↑(List.length e_1.kids):Int))∧∀(e:Int),e_1.kids[(0:Nat)]? =some e→cA Eb [nds x.1,.int .i64 e] fun x_1 y=>Ab (!Bh x_1.1 x_1.2) (rA GZ x [.bool false,.top,.top]) (Ab (x.2.kind==(10:Int)) (Ab (decide (i>(0:Int))) (((0:Int)≤(0:Int)∧(0:Int)<(↑(List.length e_1.kids):Int))∧∀(e:Int),e_1.kids[(0:Nat)]? =some e→((0:Int)≤e∧e<(↑(List.length x.1):Int))∧∀(e_2:Nd),x.1[Int.toNat e]? =some e_2→Ab (e_2.kind != (1:Int)) (rA GZ x [.bool false,.top,.top]) (inR IntKind.i64 (i+(1:Int))∧(Oe x i))) (inR IntKind.i64 (i+(1:Int))∧(Oe x i))) (inR IntKind.i64 (i+(1:Int))∧(Oe x i)))))) (rA GZ x [.bool true,.top,.top])) (fun x=>by kernel_rfl) fun(x:List Nd×Nd) (hx:CH x.1∧QC x.2∧∀c∈x.2.kids,0≤c∧c<x.1.length)=>(by
 dsimp only[Oe,cA,eA,eN,QF,Ad,Bg,nds,rA,GZ,Eb,Aq,Aw,mvL,lnL,mvE,lnE,mvG,mvH,lnG,lnH,AZ]
 obtain⟨h1,h2,h3⟩:=hx;have hl:=h1.1;have hk:=h2.2
 (repeat' first|(with_reducible first|rfl|exact True.intro|apply AG|apply And.intro|((first|apply Au|apply AE|apply Av|apply AF)<;>intro _))|(apply As<;>intro _)|apply AD|refine Af () ?_ ?_|((first|apply AK|apply AJ|apply AI|apply AH|apply AC|apply AB|apply AA|apply Az|apply Ax)<;>try dsimp only)|apply Af|(refine Prod.forall.2 ?_;intro _;try dsimp only)|(intro _;try dsimp only))
 all_goals first
  |exact b1K
  |exact b1L ‹_› ‹_›
  |exact QE ‹_› ‹_› (b1M ‹_› ‹_›)
  |exact QE ‹_› ‹_› (b1S ‹_› ‹_› ‹_› ‹_› ‹_›)
  |exact QE ‹_› ‹_› (b1R ‹_› ‹_› ‹_› ‹_› ‹_›)
  |exact QE ‹_› ‹_› (b1Q ‹_› ‹_› ‹_› ‹_› ‹_› ‹_› ‹_›)
  |exact VN ‹_› (b1N ‹_› ‹_› ‹_›)
  |exact VN ‹_› (b1O ‹_› ‹_› ‹_› ‹_›)
  |exact VN ‹_› (b1P ‹_› ‹_› ‹_› ‹_› ‹_› ‹_› ‹_› ‹_› ‹_›)
  |exact(h3 _ (AY ‹_›)).1
  |exact(h3 _ (AY ‹_›)).2
  |exact(ndB ‹_› ‹_› ‹_›).1
  |exact(ndB ‹_› ‹_› ‹_›).2
  |(obtain⟨_,_,_⟩:= ‹cfI _ _ _›;(try simp only[Ai] at*);omega)
  |skip)
def nkI(k:Int)(l:List Int)(i:Int):Prop:=0≤i∧i≤l.length∧(∀c∈l.take i.toNat,0≤c∧c<k)∧(l.take i.toNat).Nodup
theorem a1p{k:Int}{l:List Int}:nkI k l 0:=⟨by omega,by omega,by simp,by simp⟩
theorem a1q{k:Int}{l:List Int}{i c:Int}(h:nkI k l i)(hc:l[i.toNat]? =some c)(h1:¬c<0)(h2:¬c≥k)(h3:(l.take i.toNat).elem c=false):nkI k l (i+1):=by
 obtain⟨ha,hb,hd,he⟩:=h
 have:=(Cm hc).1
 refine⟨by omega,by omega,?_,?_⟩
 ·rw[BD ha,CT hc];intro d hd'
  rcases List.mem_append.1 hd' with hd'|hd'
  ·exact hd d hd'
  ·simp at hd';subst hd';omega
 ·rw[BD ha,CT hc,List.nodup_append]
  refine⟨he,by simp,?_⟩
  intro a ha' b hb' hab
  simp at hb';subst hb';subst hab
  simp at h3;exact h3 ha'
theorem Of{k:Int}{l:List Int}{i:Int}(h:nkI k l i)(hl:¬i<l.length):DI l k=true∧l.Nodup:=by
 obtain⟨ha,hb,hd,he⟩:=h
 rw[List.take_of_length_le (by omega)] at hd he
 exact⟨by simpa [DI] using hd,he⟩
theorem b1U{k:Int}{l:List Int}{n:Nat}{c:Int}(hc:l[n]? =some c)(h1:c<0):DI l k=false:=by
 rw[Bool.eq_false_iff];intro h;simp only[DI,List.all_eq_true,Bool.and_eq_true,decide_eq_true_eq] at h
 have:=h c (AY hc);omega
theorem b1V{k:Int}{l:List Int}{n:Nat}{c:Int}(hc:l[n]? =some c)(h1:c≥k):DI l k=false:=by
 rw[Bool.eq_false_iff];intro h;simp only[DI,List.all_eq_true,Bool.and_eq_true,decide_eq_true_eq] at h
 have:=h c (AY hc);omega
theorem a1r{l:List Int}{n:Nat}{c:Int}(hc:l[n]? =some c)(h1:(l.take n).elem c=true):¬l.Nodup:=by
 intro h
 have e:l=l.take n++l.drop n:=(List.take_append_drop n l).symm
 rw[e,Dq hc,List.nodup_append] at h
 exact h.2.2 c (by simpa using h1) c (by simp) rfl
theorem a1s{ns:List Nd}{k:Int}(h:Bh ns k=false):false=Cc ns k:=by simp [Cc,h]
theorem Mo{ns:List Nd}{k:Int}{x:Nd}(hx:ns[k.toNat]? =some x)(h:Bh ns k=true):Cc ns k=HA ns k x:=by rw[Cc,h,Bd hx];rfl
theorem b1W{ns:List Nd}{k:Int}{x:Nd}(hx:ns[k.toNat]? =some x)(h:Bh ns k=true)(h1:(x.kids.length:Int)>12):false=Cc ns k:=by
 rw[Mo hx h,HA,decide_eq_false (by omega)];rfl
theorem b1X{ns:List Nd}{k:Int}{x:Nd}(hx:ns[k.toNat]? =some x)(h:Bh ns k=true)(h1:Dy x.kind x.text=false):false=Cc ns k:=by
 rw[Mo hx h,HA,h1];simp
theorem a1t{ns:List Nd}{k:Int}{x:Nd}(hx:ns[k.toNat]? =some x)(h:Bh ns k=true)(h1:DI x.kids k=false):false=Cc ns k:=by
 rw[Mo hx h,HA,h1];simp
theorem b1Y{ns:List Nd}{k:Int}{x:Nd}(hx:ns[k.toNat]? =some x)(h:Bh ns k=true)(h1:¬x.kids.Nodup):false=Cc ns k:=by
 rw[Mo hx h,HA,decide_eq_false h1];simp
theorem a1u{ns:List Nd}{k i:Int}{x:Nd}(hx:ns[k.toNat]? =some x)(h:Bh ns k=true)(h1:(x.kids.length:Int)≤12)(h2:Dy x.kind x.text=true)(h3:nkI k x.kids i)(hl:¬i<x.kids.length):
 Cc ns k=(CV x.kind ((x.kids.take i.toNat).map (Al ns))&&(ER ns x&&(GW x.kind|| !x.blank))):=by
 obtain⟨ha,hb⟩:=Of h3 hl
 rw[List.take_of_length_le (by have:=h3.1;omega),Mo hx h,HA,h2,ha,decide_eq_true hb,decide_eq_true (by omega)];simp
theorem VO{k:Int}{l:List Int}{i c n:Int}(h:nkI k l i)(hl:¬i<l.length)(hk:k<n)(hc:c∈l):0≤c∧c<n:=by
 have:=(Of h hl).1
 simp only[DI,List.all_eq_true,Bool.and_eq_true,decide_eq_true_eq] at this
 have:=this c hc;omega
theorem b1Z{ns:List Nd}{l:List Int}{i c:Int}{y:Nd}(h0:0≤i)(hc:l[i.toNat]? =some c)(hy:ns[c.toNat]? =some y):(l.take i.toNat).map (Al ns)++[y.kind]=(l.take (i+1).toNat).map (Al ns):=by
 rw[BD h0,CT hc,List.map_append];simp [Al,Bd hy]
def QG(x:List Nd×Int):LS:= {
 ι:=Int,inv:=nkI x.2 (Aa x.1 x.2).kids,
 regs:=fun i=>[(0,nds x.1),(1,.int .i64 x.2),(5,.box 0 (ndA false (Aa x.1 x.2))),(6,AW (((Aa x.1 x.2).kids.take i.toNat).map (Al x.1))),(28,Ad (Aa x.1 x.2).kids),(29,.int .i64 (Aa x.1 x.2).kids.length),(30,.int .i64 i)],als:=[],meas:=fun i=>(Aa x.1 x.2).kids.length-i.toNat}
def DL:Sig:= {X:=List Nd×Int,args:=fun x=>[nds x.1,.int .i64 x.2],pre:=fun x=>CH x.1,Y:=Unit,post:=fun x y=>True,res:=fun x y=> .bool (Cc x.1 x.2),outs:=fun x y=>[.top,.top],keep:=false}
theorem b2a:Ah G Tryz.prog 98 DL:=
 vcFun_okP [(57,0,Eb),(122,0,Dr),(123,0,Mn),(59,0,GC),(60,0,EG),(124,0,BZ),(125,0,GZ)] [(38,⟨Int,CE⟩)] false (fun x=>[(8,QG x)]) Tryz.func98 rfl (by decide) ⟨Od,b1h,b1J,VL,QB,b1G,b1T,trivial⟩ (fun(x:List Nd×Int)=>(∀(y:Unit),True→True∧True∧True∧True)∧cA Eb [nds x.1,.int .i64 x.2] fun x_1 y=>Ab (!Bh x_1.1 x_1.2) (rA DL x [.bool false,.top,.top]) (((0:Int)≤x.2∧x.2<(↑(List.length x.1):Int))∧∀(e:Nd),x.1[Int.toNat x.2]? =some e→Ab (decide ((↑(List.length e.kids):Int)>(12:Int))) (rA DL x [.bool false,.top,.top]) (cA Dr [.agg [.int .i64 e.kind,.str e.text,Ad e.kids,.bool e.blank]] fun x_2 y=>Ab (!Dy x_2.kind x_2.text) (rA DL x [.bool false,.top,.top]) (eA (QG x) [nds x.1,.int .i64 x.2,.box 0 [.int .i64 e.kind,.str e.text,Ad e.kids,.bool e.blank],.nil,Ad e.kids,.int .i64 (↑(List.length e.kids):Int),.int .i64 (0:Int)]∧∀(i:Int),nkI x.2 (Aa x.1 x.2).kids i→Ab (decide (i<(↑(List.length (Aa x.1 x.2).kids):Int))) (((0:Int)≤i∧i<(↑(List.length (Aa x.1 x.2).kids):Int))∧∀(e:Int),(Aa x.1 x.2).kids[Int.toNat i]? =some e→Ab (decide (e<(0:Int))) (rA DL x [.bool false,.top,.top]) (Ab (decide (e≥x.2)) (rA DL x [.bool false,.top,.top]) (((0:Int)≤(0:Int)∧(0:Int)≤i∧i≤(↑(List.length (Aa x.1 x.2).kids):Int))∧cA Mn [Ad (List.take (Int.toNat i) (Aa x.1 x.2).kids),.int .i64 e] fun x_3 y=>Ab (List.elem x_3.2 x_3.1) (rA DL x [.bool false,.top,.top]) (((0:Int)≤e∧e<(↑(List.length x.1):Int))∧∀(e_1:Nd),x.1[Int.toNat e]? =some e_1→∃(x_4:Int),e_1.kind=x_4∧∃(zs:List Int),AW [x_4]=AW zs∧BH CE∧Bb (List.length (List.map (Al x.1) (List.take (Int.toNat i) (Aa x.1 x.2).kids))+List.length zs) (8:Nat)∧inR IntKind.i64 (i+(1:Int))∧eN (QG x) i [nds x.1,.int .i64 x.2,.box 0 [.int .i64 (Aa x.1 x.2).kind,.str (Aa x.1 x.2).text,Ad (Aa x.1 x.2).kids,.bool (Aa x.1 x.2).blank],AW (List.map (Al x.1) (List.take (Int.toNat i) (Aa x.1 x.2).kids)++zs),Ad (Aa x.1 x.2).kids,.int .i64 (↑(List.length (Aa x.1 x.2).kids):Int),.int .i64 (i+(1:Int))])))) (cA GC [.int .i64 (Aa x.1 x.2).kind] fun x_3 y=>Ab (Gv x_3) (cA BZ [.int .i64 (Aa x.1 x.2).kind,AW (List.map (Al x.1) (List.take (Int.toNat i) (Aa x.1 x.2).kids))] fun x_4 y=>Ab (CV x_4.1 x_4.2) (cA GZ [nds x.1,.agg [.int .i64 (Aa x.1 x.2).kind,.str (Aa x.1 x.2).text,Ad (Aa x.1 x.2).kids,.bool (Aa x.1 x.2).blank]] fun x_5 y=>Ab (ER x_5.1 x_5.2) (rA DL x [.bool true,.top,.top]) (rA DL x [.bool false,.top,.top])) (rA DL x [.bool false,.top,.top])) (cA EG [.int .i64 (Aa x.1 x.2).kind] fun x_4 y=>Ab (CG x_4) (cA BZ [.int .i64 (Aa x.1 x.2).kind,AW (List.map (Al x.1) (List.take (Int.toNat i) (Aa x.1 x.2).kids))] fun x_5 y=>Ab (CV x_5.1 x_5.2) (cA GZ [nds x.1,.agg [.int .i64 (Aa x.1 x.2).kind,.str (Aa x.1 x.2).text,Ad (Aa x.1 x.2).kids,.bool (Aa x.1 x.2).blank]] fun x_6 y=>Ab (ER x_6.1 x_6.2) (rA DL x [.bool true,.top,.top]) (rA DL x [.bool false,.top,.top])) (rA DL x [.bool false,.top,.top])) (cA BZ [.int .i64 (Aa x.1 x.2).kind,AW (List.map (Al x.1) (List.take (Int.toNat i) (Aa x.1 x.2).kids))] fun x_5 y=>Ab (CV x_5.1 x_5.2) (cA GZ [nds x.1,.agg [.int .i64 (Aa x.1 x.2).kind,.str (Aa x.1 x.2).text,Ad (Aa x.1 x.2).kids,.bool (Aa x.1 x.2).blank]] fun x_6 y=>Ab (ER x_6.1 x_6.2) (Ab ((Aa x.1 x.2).kind==(21:Int)) (rA DL x [.bool true,.top,.top]) (rA DL x [.bool !(Aa x.1 x.2).blank,.top,.top])) (rA DL x [.bool false,.top,.top])) (rA DL x [.bool false,.top,.top])))))))) (fun x=>by kernel_rfl) fun(x:List Nd×Int) (hx:CH x.1)=>(by
 dsimp only[cA,eA,eN,Ad,QG,Bg,nds,AW,rA,GZ,Mn,DL,EG,Eb,GC,BZ,Dr,Aq,Aw,mvL,lnL,mvE,lnE,mvG,mvH,lnG,lnH,AZ]
 have h1:CH x.1:=hx;have hl:=h1.1
 (repeat' first|(with_reducible first|rfl|exact True.intro|apply AG|apply And.intro|((first|apply Au|apply AE|apply Av|apply AF)<;>intro _))|(apply As<;>intro _)|apply AD|refine Af () ?_ ?_|((first|apply AK|apply AJ|apply AI|apply AH|apply AC|apply AB|apply AA|apply Az|apply Ax)<;>try dsimp only)|apply Af|(refine Prod.forall.2 ?_;intro _;try dsimp only)|(intro _;try dsimp only))
 all_goals try(simp only[Bd (show x.1[x.2.toNat]? =some _ by assumption)] at*)
 all_goals first
  |rfl
  |exact a1p
  |exact(h1.2 _ (AY ‹_›)).1
  |exact(h1.2 _ (AY ‹_›)).2
  |exact b1H ‹_› h1
  |exact(VO ‹_› ‹_› (Bc.1 ‹Bh _ _=true›).2 ‹_›).1
  |exact(VO ‹_› ‹_› (Bc.1 ‹Bh _ _=true›).2 ‹_›).2
  |exact a1s ‹_›
  |exact b1W ‹_› ‹_› ‹_›
  |exact b1X ‹_› ‹_› ‹_›
  |exact a1t ‹_› ‹_› (b1U ‹_› ‹_›)
  |exact a1t ‹_› ‹_› (b1V ‹_› ‹_›)
  |exact b1Y ‹_› ‹_› (a1r ‹_› ‹_›)
  |exact a1q ‹_› ‹_› ‹_› ‹_› ‹_›
  |exact b1Z (‹nkI _ _ _›.1) ‹_› ‹_›
  |(refine Eq.trans ?_ (a1u (show x.1[x.2.toNat]? =some _ by assumption) ‹_› (by omega) ‹_› ‹_› ‹_›).symm;simp [-List.map_take,GW,FA, *];done)
  |omega
  |(have:=Bc.1 ‹Bh _ _=true›;omega)
  |(have:=Bc.1 ‹Bh _ _=true›;obtain⟨_,_,_⟩:= ‹nkI _ _ _›;(try simp only[Ai,Bb,List.length_take,List.length_map,List.length_append,List.length_cons,List.length_nil] at*);omega)
  |(refine Eq.trans ?_ (a1u (show x.1[x.2.toNat]? =some _ by assumption) ‹_› (by omega) ‹_› ‹_› ‹_›).symm;rw[‹CV _ _=true›,‹ER _ _=true›];simp [GW, *]))
def dl(k i:Int)(ds:List Int):List Int:=ds++List.replicate (k+1-i).toNat 0
def dI(ns:List Nd)(k i:Int)(ds:List Int):Prop:=Bh ns k=true∧0≤i∧i≤k+1∧BN ns i.toNat=some ds
def dJ(ns:List Nd)(k i:Int)(ds:List Int)(j d:Int):Prop:=dI ns k i ds∧i≤k∧Cc ns i=true∧0≤j∧j≤(Aa ns i).kids.length∧0≤d∧d≤14∧mx ds ((Aa ns i).kids.drop j.toNat) d=mx ds (Aa ns i).kids 0
theorem b2b{ns:List Nd}{k:Int}(h:Bh ns k=true):dI ns k 0 []:=⟨h,by omega,by have:=Bc.1 h;omega,rfl⟩
theorem b2c{k:Int}:List.replicate (k+1).toNat 0=dl k 0 []:=by simp [dl]
theorem a1v{ns:List Nd}{k i:Int}{ds:List Int}(h:dI ns k i ds):((dl k i ds).length:Int)=k+1:=by
 obtain⟨h0,h1,h2,h3⟩:=h
 have:=Jl h3
 rw[dl,List.length_append,List.length_replicate];omega
theorem b2d{ns:List Nd}{k i:Int}{ds:List Int}(h:dI ns k i ds)(hl:i<k+1)(hn:Cc ns i=false):0=BA ns k:=by
 obtain⟨h0,h1,h2,h3⟩:=h
 have:BN ns (i.toNat+1)=none:=by
  unfold BN;rw[h3];simp only
  rw[show((i.toNat:Nat):Int)=i by omega,hn];rfl
 unfold BA;rw[if_pos h0,Vv this (by omega)]
theorem b2e{ns:List Nd}{k i:Int}{ds:List Int}(h:dI ns k i ds)(hl:i<k+1)(hn:Cc ns i=true):dJ ns k i ds 0 0:=
 ⟨h,by omega,hn,by omega,by omega,by omega,by omega,by simp⟩
theorem a1w{ns:List Nd}{k i:Int}{ds:List Int}{j d c:Int}(h:dJ ns k i ds j d)(hc:(Aa ns i).kids[j.toNat]? =some c):0≤c∧c<i:=by
 exact(Dc h.2.2.1).2.2.2.1 c (AY hc)
theorem VP{ns:List Nd}{k i:Int}{ds:List Int}{j d c:Int}(h:dJ ns k i ds j d)(hc:(Aa ns i).kids[j.toNat]? =some c):0≤c∧c<(dl k i ds).length:=by
 have:=a1w h hc;have:=a1v h.1;have:=h.1.2.2;omega
theorem b2f{ns:List Nd}{k i:Int}{ds:List Int}{j d c v:Int}(h:dJ ns k i ds j d)(hc:(Aa ns i).kids[j.toNat]? =some c)(hv:(dl k i ds)[c.toNat]? =some v):ds.getD c.toNat 0=v∧1≤v∧v≤14:=by
 have h1:=a1w h hc
 have h2:=Jl h.1.2.2.2
 rw[dl,List.getElem?_append_left (by omega)] at hv
 refine⟨by simp [List.getD,hv],?_⟩
 exact Mc h.1.2.2.2 v (AY hv)
theorem b2g{ns:List Nd}{k i:Int}{ds:List Int}{j d c v:Int}(h:dJ ns k i ds j d)(hc:(Aa ns i).kids[j.toNat]? =some c)(hv:(dl k i ds)[c.toNat]? =some v):dJ ns k i ds (j+1) (max d v):=by
 obtain⟨hv1,hv2,hv3⟩:=b2f h hc hv
 obtain⟨h1,h2,h3,h4,h5,h6,h7,h8⟩:=h
 have:=(Cm hc).1
 refine⟨h1,h2,h3,by omega,by omega,by omega,by omega,?_⟩
 rw[←h8,Dq hc,BD h4];simp only[mx,hv1]
theorem a1x{ns:List Nd}{k i:Int}{ds:List Int}{j d:Int}(h:dJ ns k i ds j d)(hl:¬j<(Aa ns i).kids.length):d=mx ds (Aa ns i).kids 0:=by
 obtain⟨h1,h2,h3,h4,h5,h6,h7,h8⟩:=h
 rw[List.drop_eq_nil_of_le (by omega)] at h8;exact h8
theorem b2h{ns:List Nd}{k i:Int}{ds:List Int}{j d:Int}(h:dJ ns k i ds j d)(hl:¬j<(Aa ns i).kids.length)(hd:d≥14):0=BA ns k:=by
 have hm:=a1x h hl
 obtain⟨⟨ha,hb,he,hf⟩,h2,h3,_⟩:=h
 have e:((i.toNat:Nat):Int)=i:=by omega
 have:BN ns (i.toNat+1)=none:=by
  unfold BN;rw[hf];simp only
  rw[e,h3,if_pos rfl,if_pos (by omega)]
 unfold BA;rw[if_pos ha,Vv this (by omega)]
theorem b2i{ns:List Nd}{k i:Int}{ds:List Int}{j d:Int}(h:dJ ns k i ds j d)(hl:¬j<(Aa ns i).kids.length)(hd:¬d≥14):dI ns k (i+1) (ds++[d+1]):=by
 have hm:=a1x h hl
 obtain⟨⟨ha,hb,he,hf⟩,h2,h3,_⟩:=h
 have e:((i.toNat:Nat):Int)=i:=by omega
 refine⟨ha,by omega,by omega,?_⟩
 rw[BD hb];unfold BN;rw[hf];simp only
 rw[e,h3,if_pos rfl,if_neg (by omega),←hm]
theorem b2j{ns:List Nd}{k i:Int}{ds:List Int}{j d:Int}(h:dJ ns k i ds j d):(dl k i ds).set i.toNat (d+1)=dl k (i+1) (ds++[d+1]):=by
 obtain⟨⟨ha,hb,he,hf⟩,h2,h3,_⟩:=h
 have hl:=Jl hf
 have e:(k+1-i).toNat=(k+1-(i+1)).toNat+1:=by omega
 unfold dl;rw[List.set_append_right _ _ (by omega),e,hl];simp [List.replicate_succ]
theorem b2k{ns:List Nd}{k i v:Int}{ds:List Int}(h:dI ns k i ds)(hl:¬i<k+1)(hv:(dl k i ds)[k.toNat]? =some v):v=BA ns k:=by
 obtain⟨h0,h1,h2,h3⟩:=h
 obtain rfl:i=k+1:=by omega
 have:=Bc.1 h0
 rw[show(k+1).toNat=k.toNat+1 by omega] at h3
 unfold BA;rw[if_pos h0,h3]
 simp [dl] at hv
 simp [List.getD,hv]
theorem a1y{ns:List Nd}{k:Int}(h:Bh ns k=false):0=BA ns k:=by simp [BA,h]
theorem b2l{ns:List Nd}{k i:Int}{ds:List Int}{j d:Int}(h:dJ ns k i ds j d):((Aa ns i).kids.length:Int)≤12:=by
 have:=(Dc h.2.2.1).2.1;omega
def QH(x:List Nd×Int)(o:Int×List Int):LS:= {
 ι:=Int×Int,inv:=fun i=>dJ x.1 x.2 o.1 o.2 i.1 i.2,
 regs:=fun i=>[(0,nds x.1),(1,.int .i64 x.2),(5,AW (dl x.2 o.1 o.2)),(18,.int .i64 (x.2+1)),(19,.int .i64 o.1),(6,.int .i64 o.1),(7,.int .i64 i.2),(30,Ad (Aa x.1 o.1).kids),(31,.int .i64 (Aa x.1 o.1).kids.length),(32,.int .i64 i.1)],als:=[],meas:=fun i=>(Aa x.1 o.1).kids.length-i.1.toNat}
def QI(x:List Nd×Int):LS:= {
 ι:=Int×List Int,inv:=fun i=>dI x.1 x.2 i.1 i.2,
 regs:=fun i=>[(0,nds x.1),(1,.int .i64 x.2),(5,AW (dl x.2 i.1 i.2)),(18,.int .i64 (x.2+1)),(19,.int .i64 i.1)],als:=[],meas:=fun i=>x.2.toNat+1-i.1.toNat,
 sub:=fun i=>[(11,QH x i)]}
def Fj:Sig:= {X:=List Nd×Int,args:=fun x=>[nds x.1,.int .i64 x.2],pre:=fun x=>CH x.1∧x.1.length≤2^30,Y:=Unit,post:=fun x y=>True,res:=fun x y=> .int .i64 (BA x.1 x.2),outs:=fun x y=>[.top,.top],keep:=false}
theorem VQ:Ah G Tryz.prog 58 Fj:=
 vcFun_okP [(57,0,Eb),(98,0,DL)] [(38,⟨Int,CE⟩)] false (fun x=>[(5,QI x)]) Tryz.func58 rfl (by decide) ⟨Od,b2a,trivial⟩ (fun(x:List Nd×Int)=>(∀(y:Unit),True→True∧True∧True∧True)∧cA Eb [nds x.1,.int .i64 x.2] fun x_1 y=>Ab (!Bh x_1.1 x_1.2) (rA Fj x [.int .i64 (0:Int),.top,.top]) (inR IntKind.i64 (x.2+(1:Int))∧((0:Int)≤x.2+(1:Int)∧x.2+(1:Int)≤x.2+(1:Int)∧(↑(8:Nat):Int)*(x.2+(1:Int))≤(2:Int)^(46:Nat)∧x.2+(1:Int)≤(2:Int)^(46:Nat))∧∃(x_2:Int),(0:Int)=x_2∧eA (QI x) [nds x.1,.int .i64 x.2,AW (List.replicate (Int.toNat (x.2+(1:Int))) x_2),.int .i64 (↑(List.length (List.replicate (Int.toNat (x.2+(1:Int))) x_2)):Int),.int .i64 (0:Int)]∧∀(i:Int×List Int),dI x.1 x.2 i.1 i.2→Ab (decide (i.1<x.2+(1:Int))) (cA DL [nds x.1,.int .i64 i.1] fun x_3 y=>Ab (!Cc x_3.1 x_3.2) (rA Fj x [.int .i64 (0:Int),.top,.top]) (((0:Int)≤i.1∧i.1<(↑(List.length x.1):Int))∧∀(e:Nd),x.1[Int.toNat i.1]? =some e→eA (QH x i) [nds x.1,.int .i64 x.2,AW (dl x.2 i.1 i.2),.int .i64 (x.2+(1:Int)),.int .i64 i.1,.int .i64 i.1,.int .i64 (0:Int),Ad e.kids,.int .i64 (↑(List.length e.kids):Int),.int .i64 (0:Int)]∧∀(i_1:Int×Int),dJ x.1 x.2 i.1 i.2 i_1.1 i_1.2→Ab (decide (i_1.1<(↑(List.length (Aa x.1 i.1).kids):Int))) (((0:Int)≤i_1.1∧i_1.1<(↑(List.length (Aa x.1 i.1).kids):Int))∧∀(e:Int),(Aa x.1 i.1).kids[Int.toNat i_1.1]? =some e→((0:Int)≤e∧e<(↑(List.length (dl x.2 i.1 i.2)):Int))∧Int.toNat e<List.length (dl x.2 i.1 i.2)∧∀(x_4:Int),(dl x.2 i.1 i.2)[Int.toNat e]? =some x_4→inR IntKind.i64 (i_1.1+(1:Int))∧eN (QH x i) i_1 [nds x.1,.int .i64 x.2,AW (dl x.2 i.1 i.2),.int .i64 (x.2+(1:Int)),.int .i64 i.1,.int .i64 i.1,.int .i64 (max i_1.2 x_4),Ad (Aa x.1 i.1).kids,.int .i64 (↑(List.length (Aa x.1 i.1).kids):Int),.int .i64 (i_1.1+(1:Int))]) (Ab (decide (i_1.2≥(14:Int))) (rA Fj x [.int .i64 (0:Int),.top,.top]) (inR IntKind.i64 (i_1.2+(1:Int))∧((0:Int)≤i.1∧i.1<(↑(List.length (dl x.2 i.1 i.2)):Int))∧Int.toNat i.1<List.length (dl x.2 i.1 i.2)∧∀(x_4:Int),(dl x.2 i.1 i.2)[Int.toNat i.1]? =some x_4→∃(x':Int),((@List.nil AV)=[]∧(@List.nil AV)=[])∧i_1.2+(1:Int)=x'∧inR IntKind.i64 (i.1+(1:Int))∧eN (QI x) i [nds x.1,.int .i64 x.2,AW (List.set (dl x.2 i.1 i.2) (Int.toNat i.1) x'),.int .i64 (x.2+(1:Int)),.int .i64 (i.1+(1:Int))])))) (((0:Int)≤x.2∧x.2<(↑(List.length (dl x.2 i.1 i.2)):Int))∧Int.toNat x.2<List.length (dl x.2 i.1 i.2)∧∀(x_3:Int),(dl x.2 i.1 i.2)[Int.toNat x.2]? =some x_3→rA Fj x [.int .i64 x_3,.top,.top]))) (fun x=>by kernel_rfl) fun(x:List Nd×Int) (hx:CH x.1∧x.1.length≤2^30)=>(by
 dsimp only[cA,eA,eN,Ad,QI,QH,Bg,nds,AW,rA,Fj,DL,Eb,Aq,Aw,mvL,lnL,mvE,lnE,mvG,mvH,lnG,lnH,AZ]
 obtain⟨h1,h2⟩:=hx;have hl:=h1.1
 (repeat' first|(with_reducible first|rfl|exact True.intro|apply AG|apply And.intro|((first|apply Au|apply AE|apply Av|apply AF)<;>intro _))|(apply As<;>intro _)|apply AD|refine Af () ?_ ?_|((first|apply AK|apply AJ|apply AI|apply AH|apply AC|apply AB|apply AA|apply Az|apply Ax)<;>try dsimp only)|apply Af|(refine Prod.forall.2 ?_;intro _;try dsimp only)|(intro _;try dsimp only))
 all_goals try(have nd0:=Bc.1 (show Bh x.1 x.2=true by assumption))
 all_goals first
  |rfl
  |exact a1y ‹_›
  |exact b2b ‹_›
  |exact b2c
  |exact b2d ‹_› ‹_› ‹_›
  |exact b2e ‹_› ‹_› ‹_›
  |exact(VP ‹_› ‹_›).1
  |exact(VP ‹_› ‹_›).2
  |exact b2g ‹_› ‹_› ‹_›
  |exact b2h ‹_› ‹_› ‹_›
  |exact b2i ‹_› ‹_› ‹_›
  |exact b2j ‹_›
  |exact b2k ‹_› ‹_› ‹_›
  |(rw[Bd ‹_›];done)
  |(rw[List.length_replicate];omega)
  |(have:=b2l ‹_›;obtain⟨⟨_,_,_,_⟩,_,_,_,_,_,_,_⟩:= ‹dJ _ _ _ _ _ _›;(try simp only[Ai,Bb] at*);omega)
  |(have:=a1v ‹_›;obtain⟨_,_,_,_⟩:= ‹dI _ _ _ _›;(try simp only[Ai,Bb] at*);omega)
  |(have:=VP ‹_› ‹_›;omega)
  |((try simp only[Ai,Bb] at*);omega)
  |skip)
def cnt(n:Nat)(l:List Int):List Int:=(List.range n).map fun(c:Nat)=>(l.count (c:Int):Int)
theorem FW{n:Nat}{l:List Int}:(cnt n l).length=n:=by simp [cnt]
theorem KG{n:Nat}{l:List Int}{c:Nat}(h:c<n):(cnt n l)[c]? =some (l.count (c:Int):Int):=by
 simp [cnt,List.getElem?_map,List.getElem?_range,h]
theorem a1z{n:Nat}:List.replicate n 0=cnt n []:=by
 apply List.ext_getElem?
 intro c
 by_cases h:c<n
 ·rw[KG h];simp [h]
 ·rw[List.getElem?_eq_none (by simp;omega),List.getElem?_eq_none (by simp [cnt];omega)]
theorem a1A{n:Nat}{l:List Int}{c v:Int}(h0:0≤c)(h1:c<n)(hv:(cnt n l)[c.toNat]? =some v):(cnt n l).set c.toNat (v+1)=cnt n (l++[c]):=by
 apply List.ext_getElem?
 intro d
 rw[List.getElem?_set]
 by_cases hd:d<n
 ·rw[KG hd,KG hd,List.count_append]
  rw[KG (by omega)] at hv
  by_cases e:c.toNat=d
  ·subst e
   rw[if_pos rfl,if_pos (by rw[FW];omega)]
   have e2:((c.toNat:Nat):Int)=c:=by omega
   rw[e2] at hv ⊢
   simp at hv ⊢;omega
  ·rw[if_neg e]
   have:¬c=(d:Int):=by omega
   simp [List.count_cons,this]
 ·rw[if_neg (by omega),List.getElem?_eq_none (by rw[FW];omega),List.getElem?_eq_none (by rw[FW];omega)]
def tk(ns:List Nd)(i j:Int):List Int:=Cd (ns.take i.toNat)++(Aa ns i).kids.take j.toNat
def tI(ns:List Nd):Prop:=1≤ns.length∧ns.length≤300∧Al ns (ns.length-1)=22∧BA ns (ns.length-1)≠0
theorem b2m{ns:List Nd}{n:Nat}{y:Nd}(h:tI ns)(hy:ns[n]? =some y):Cc ns n=true:=by
 exact(Oa h.2.2.2).2.2 n (by have:=(Cm hy).1;omega)
theorem Og{ns:List Nd}{n:Nat}{y:Nd}(h:tI ns)(hy:ns[n]? =some y):y.kids.length≤12∧∀c∈y.kids,0≤c∧c<ns.length:=by
 obtain⟨h1,h2,h3,h4,h5⟩:=Dc (b2m h hy)
 rw[Bd (by simpa using hy)] at h2 h4
 exact⟨h2,fun c hc=>by have:=h4 c hc;omega⟩
theorem b2n{l:List Nd}(h:∀y∈l,y.kids.length≤12):(Cd l).length≤12*l.length:=by
 induction l with
 |nil=>simp [Cd]
 |cons y l ih=>
  have h1:=h y (by simp)
  have h2:=ih fun z hz=>h z (by simp [hz])
  simp only[Cd,List.flatMap_cons,List.length_append,List.length_cons] at h2 ⊢;omega
theorem b2o{ns:List Nd}{i j:Int}(h:tI ns):(Cd (ns.take i.toNat)).length≤3600:=by
 have h1:∀y∈ns.take i.toNat,y.kids.length≤12:=by
  intro y hy
  obtain⟨n,hn⟩:=List.mem_iff_getElem?.1 (List.mem_of_mem_take hy)
  exact(Og h hn).1
 have:=b2n h1
 have h2:(ns.take i.toNat).length≤300:=by have:=h.2.1;simp;omega
 omega
theorem b2p{n:Nat}{l:List Int}{c:Nat}{v:Int}(hv:(cnt n l)[c]? =some v):0≤v∧v≤l.length:=by
 have h:c<n:=by have:=(Cm hv).1;rwa [FW] at this
 rw[KG h] at hv;cases hv
 have:=List.count_le_length (a:=(c:Int)) (l:=l)
 omega
theorem a1B{ns:List Nd}{i:Int}:tk ns i 0=Cd (ns.take i.toNat):=by simp [tk]
theorem a1C{ns:List Nd}{i j c:Int}(h0:0≤j)(hc:(Aa ns i).kids[j.toNat]? =some c):tk ns i (j+1)=tk ns i j++[c]:=by
 rw[tk,BD h0,CT hc,tk,List.append_assoc]
theorem a1D{ns:List Nd}{i j:Int}{y:Nd}(h0:0≤i)(hy:ns[i.toNat]? =some y)(hl:¬j<(Aa ns i).kids.length):tk ns i j=Cd (ns.take (i+1).toNat):=by
 rw[tk,List.take_of_length_le (l:=(Aa ns i).kids) (by omega),BD h0,CT hy,Bd hy];simp [Cd]
def tE(ns:List Nd)(i:Int):Prop:=0≤i∧i≤ns.length-1∧∀c:Nat,(c:Int)<i→(Cd ns).count (c:Int)=1
theorem a1E{ns:List Nd}{i v:Int}(hv:(((cnt ns.length (Cd ns)).take (ns.length-1:Int).toNat)[i.toNat]?)=some v)(h0:0≤i)(hl:i<(ns.length-1:Int)):((Cd ns).count i:Int)=v:=by
 rw[List.getElem?_take_of_lt (by omega),KG (by omega)] at hv
 have e2:((i.toNat:Nat):Int)=i:=by omega
 rw[e2] at hv;exact Option.some.inj hv
theorem a1F{ns:List Nd}{i:Int}(h:tI ns)(he:tE ns i)(hl:¬i<(ns.length-1:Int)):true=DZ ns:=by
 symm;unfold DZ
 have h1:decide (1≤ns.length)=true:=decide_eq_true h.1
 have h2:decide (ns.length≤300)=true:=decide_eq_true h.2.1
 have h3:decide (Al ns (ns.length-1)=22)=true:=decide_eq_true h.2.2.1
 have h4:decide (BA ns (ns.length-1)=0)=false:=decide_eq_false h.2.2.2
 rw[h1,h2,h3,h4]
 simp only[Bool.and_true,Bool.not_false,Bool.true_and,List.all_eq_true,decide_eq_true_eq,List.mem_range]
 exact fun c hc=>he.2.2 c (by omega)
theorem a1G{ns:List Nd}{i v:Int}(hv:(Cd ns).count i=v)(h0:0≤i)(hl:i<(ns.length-1:Int))(hne:v≠1):false=DZ ns:=by
 symm;rw[Bool.eq_false_iff];intro h
 unfold DZ at h
 simp only[Bool.and_eq_true,List.all_eq_true,decide_eq_true_eq,List.mem_range] at h
 have:=h.2.2.2 i.toNat (by omega)
 have e2:((i.toNat:Nat):Int)=i:=by omega
 rw[e2] at this;omega
theorem Mp{ns:List Nd}(h:¬tI ns):false=DZ ns:=by
 symm;rw[Bool.eq_false_iff];intro hh
 unfold DZ at hh
 simp only[Bool.and_eq_true,decide_eq_true_eq,Bool.not_eq_true',decide_eq_false_iff_not] at hh
 exact h ⟨hh.1.1,hh.1.2,hh.2.1,hh.2.2.1⟩
theorem Oh{ns:List Nd}{i j c:Int}{y:Nd}(h:tI ns)(hc:(Aa ns i).kids[j.toNat]? =some c)(hy:ns[i.toNat]? =some y):0≤c∧c<ns.length:=by
 rw[Bd hy] at hc;exact(Og h hy).2 c (AY hc)
theorem a1H{ns:List Nd}{i:Int}{y:Nd}(h:tI ns)(hy:ns[i.toNat]? =some y):(Aa ns i).kids.length≤12:=by
 rw[Bd hy];exact(Og h hy).1
theorem b2q{ns:List Nd}{i j:Int}{y:Nd}(h:tI ns)(hy:ns[i.toNat]? =some y):(tk ns i j).length≤3612:=by
 have h1:= @b2o ns i j h;have h2:=a1H h hy
 rw[tk,List.length_append,List.length_take];omega
theorem a1I{ns:List Nd}{i j v:Int}{c:Nat}{y:Nd}(h:tI ns)(hv:(cnt ns.length (tk ns i j))[c]? =some v)(hy:ns[i.toNat]? =some y):0≤v∧v≤3612:=by
 have h1:=b2p hv;have h2:= @b2q ns i j y h hy;omega
theorem Br{x a b:Int}:inn x a b=true↔a≤x∧x≤b:=by simp [inn]
theorem a1J{ns:List Nd}{y:Nd}(h:inn ns.length 1 300=true)(hy:ns[(ns.length-1:Int).toNat]? =some y)(hk:y.kind=22)(hd:BA ns (ns.length-1)≠0):tI ns:=by
 have:=Br.1 h
 exact⟨by omega,by omega,by rw[Al,Bd hy,hk],hd⟩
theorem a1K{ns:List Nd}(h:inn ns.length 1 300=false):¬tI ns:=by
 intro hh;have:inn ns.length 1 300=true:=Br.2 ⟨by have:=hh.1;omega,by have:=hh.2.1;omega⟩
 rw[h] at this;cases this
theorem a1L{ns:List Nd}{y:Nd}(hy:ns[(ns.length-1:Int).toNat]? =some y)(hk:y.kind≠22):¬tI ns:=by
 intro hh;have:=hh.2.2.1;rw[Al,Bd hy] at this;exact hk this
theorem a1M{ns:List Nd}{i:Int}(hl:¬i<ns.length):Cd (ns.take i.toNat)=Cd ns:=by rw[List.take_of_length_le (by omega)]
theorem b2r{ns:List Nd}{i v:Int}(h:tE ns i)(hl:i<(ns.length-1:Int))(hv:(((cnt ns.length (Cd ns)).take (ns.length-1:Int).toNat)[i.toNat]?)=some v)(h1:v=1):tE ns (i+1):=by
 have:=a1E hv h.1 hl
 refine⟨by have:=h.1;omega,by omega,fun c hc=> ?_⟩
 by_cases e:(c:Int)<i
 ·exact h.2.2 c e
 ·have:=h.1
  obtain rfl:i=(c:Int):=by omega
  omega
def QJ(x:List Nd)(o:Int):LS:= {
 ι:=Int,inv:=fun j=>0≤j∧j≤(Aa x o).kids.length,
 regs:=fun j=>[(0,nds x),(3,.int .i64 x.length),(4,AW (cnt x.length (tk x o j))),(34,nds x),(35,.int .i64 x.length),(36,.int .i64 o),(41,Ad (Aa x o).kids),(42,.int .i64 (Aa x o).kids.length),(43,.int .i64 j)],als:=[],meas:=fun j=>(Aa x o).kids.length-j.toNat}
def QK(x:List Nd):LS:= {
 ι:=Int,inv:=fun i=>0≤i∧i≤x.length,
 regs:=fun i=>[(0,nds x),(3,.int .i64 x.length),(4,AW (cnt x.length (Cd (x.take i.toNat)))),(34,nds x),(35,.int .i64 x.length),(36,.int .i64 i)],als:=[],meas:=fun i=>x.length-i.toNat,
 sub:=fun i=>[(9,QJ x i)]}
def QL(x:List Nd):LS:= {
 ι:=Int,inv:=tE x,
 regs:=fun i=>[(58,AW ((cnt x.length (Cd x)).take (x.length-1:Int).toNat)),(59,.int .i64 (x.length-1)),(60,.int .i64 i)],als:=[],meas:=fun i=>x.length-1-i.toNat}
def HE:Sig:= {X:=List Nd,args:=fun x=>[nds x],pre:=fun x=>CH x∧x.length≤2^30,Y:=Unit,post:=fun x y=>True,res:=fun x y=> .bool (DZ x),outs:=fun x y=>[.top],keep:=false}
theorem b2s:Ah G Tryz.prog 70 HE:=
 vcFun_okP [(36,0,BG),(58,0,Fj)] [(38,⟨Int,CE⟩)] false (fun x=>[(6,QK x),(15,QL x)]) Tryz.func70 rfl (by decide) ⟨Gw,VQ,trivial⟩ (fun(x:List Nd)=>(∀(y:Unit),True→True∧True∧True)∧cA BG [.int .i64 (↑(List.length x):Int),.int .i64 (1:Int),.int .i64 (300:Int)] fun x_1 y=>Ab (!inn x_1.1 x_1.2.1 x_1.2.2) (rA HE x [.bool false,.top]) (inR IntKind.i64 ((↑(List.length x):Int)-(1:Int))∧((0:Int)≤(↑(List.length x):Int)-(1:Int)∧(↑(List.length x):Int)-(1:Int)<(↑(List.length x):Int))∧∀(e:Nd),x[Int.toNat ((↑(List.length x):Int)-(1:Int))]? =some e→Ab (e.kind != (22:Int)) (rA HE x [.bool false,.top]) (inR IntKind.i64 ((↑(List.length x):Int)-(1:Int))∧cA Fj [nds x,.int .i64 ((↑(List.length x):Int)-(1:Int))] fun x_2 y=>Ab (BA x_2.1 x_2.2==(0:Int)) (rA HE x [.bool false,.top]) (((0:Int)≤(↑(List.length x):Int)∧(↑(List.length x):Int)≤(↑(List.length x):Int)∧(↑(8:Nat):Int)*(↑(List.length x):Int)≤(2:Int)^(46:Nat)∧(↑(List.length x):Int)≤(2:Int)^(46:Nat))∧∃(x_3:Int),(0:Int)=x_3∧eA (QK x) [nds x,.int .i64 (↑(List.length x):Int),AW (List.replicate (Int.toNat (↑(List.length x):Int)) x_3),nds x,.int .i64 (↑(List.length x):Int),.int .i64 (0:Int)]∧∀(i:Int),(0:Int)≤i∧i≤(↑(List.length x):Int)→Ab (decide (i<(↑(List.length x):Int))) (((0:Int)≤i∧i<(↑(List.length x):Int))∧∀(e:Nd),x[Int.toNat i]? =some e→eA (QJ x i) [nds x,.int .i64 (↑(List.length x):Int),AW (cnt (List.length x) (Cd (List.take (Int.toNat i) x))),nds x,.int .i64 (↑(List.length x):Int),.int .i64 i,Ad e.kids,.int .i64 (↑(List.length e.kids):Int),.int .i64 (0:Int)]∧∀(i_1:Int),(0:Int)≤i_1∧i_1≤(↑(List.length (Aa x i).kids):Int)→Ab (decide (i_1<(↑(List.length (Aa x i).kids):Int))) (((0:Int)≤i_1∧i_1<(↑(List.length (Aa x i).kids):Int))∧∀(e:Int),(Aa x i).kids[Int.toNat i_1]? =some e→((0:Int)≤e∧e<(↑(List.length (cnt (List.length x) (tk x i i_1))):Int))∧Int.toNat e<List.length (cnt (List.length x) (tk x i i_1))∧∀(x_4:Int),(cnt (List.length x) (tk x i i_1))[Int.toNat e]? =some x_4→inR IntKind.i64 (x_4+(1:Int))∧((0:Int)≤e∧e<(↑(List.length (cnt (List.length x) (tk x i i_1))):Int))∧Int.toNat e<List.length (cnt (List.length x) (tk x i i_1))∧∀(x_5:Int),(cnt (List.length x) (tk x i i_1))[Int.toNat e]? =some x_5→∃(x':Int),((@List.nil AV)=[]∧(@List.nil AV)=[])∧x_4+(1:Int)=x'∧inR IntKind.i64 (i_1+(1:Int))∧eN (QJ x i) i_1 [nds x,.int .i64 (↑(List.length x):Int),AW (List.set (cnt (List.length x) (tk x i i_1)) (Int.toNat e) x'),nds x,.int .i64 (↑(List.length x):Int),.int .i64 i,Ad (Aa x i).kids,.int .i64 (↑(List.length (Aa x i).kids):Int),.int .i64 (i_1+(1:Int))]) (inR IntKind.i64 (i+(1:Int))∧eN (QK x) i [nds x,.int .i64 (↑(List.length x):Int),AW (cnt (List.length x) (tk x i i_1)),nds x,.int .i64 (↑(List.length x):Int),.int .i64 (i+(1:Int))])) (inR IntKind.i64 ((↑(List.length x):Int)-(1:Int))∧((0:Int)≤(0:Int)∧(0:Int)≤(↑(List.length x):Int)-(1:Int)∧(↑(List.length x):Int)-(1:Int)≤(↑(List.length (cnt (List.length x) (Cd (List.take (Int.toNat i) x)))):Int))∧eA (QL x) [AW (List.take (Int.toNat ((↑(List.length x):Int)-(1:Int))) (cnt (List.length x) (Cd (List.take (Int.toNat i) x)))),.int .i64 (↑(List.length (List.take (Int.toNat ((↑(List.length x):Int)-(1:Int))) (cnt (List.length x) (Cd (List.take (Int.toNat i) x))))):Int),.int .i64 (0:Int)]∧∀(i:Int),tE x i→Ab (decide (i<(↑(List.length x):Int)-(1:Int))) (((0:Int)≤i∧i<(↑(List.length (List.take (Int.toNat ((↑(List.length x):Int)-(1:Int))) (cnt (List.length x) (Cd x)))):Int))∧Int.toNat i<List.length (List.take (Int.toNat ((↑(List.length x):Int)-(1:Int))) (cnt (List.length x) (Cd x)))∧∀(x_4:Int),(List.take (Int.toNat ((↑(List.length x):Int)-(1:Int))) (cnt (List.length x) (Cd x)))[Int.toNat i]? =some x_4→Ab (x_4 != (1:Int)) (rA HE x [.bool false,.top]) (inR IntKind.i64 (i+(1:Int))∧eN (QL x) i [AW (List.take (Int.toNat ((↑(List.length x):Int)-(1:Int))) (cnt (List.length x) (Cd x))),.int .i64 ((↑(List.length x):Int)-(1:Int)),.int .i64 (i+(1:Int))])) (rA HE x [.bool true,.top])))))) (fun x=>by kernel_rfl) fun(x:List Nd) (hx:CH x∧x.length≤2^30)=>(by
 dsimp only[cA,eA,eN,Ad,QK,QJ,QL,Bg,nds,AW,rA,Fj,HE,BG,Aq,Aw,mvL,lnL,mvE,lnE,mvG,mvH,lnG,lnH,AZ]
 obtain⟨h1,h2⟩:=hx;have hl:=h1.1
 (repeat' first|(with_reducible first|rfl|exact True.intro|apply AG|apply And.intro|((first|apply Au|apply AE|apply Av|apply AF)<;>intro _))|(apply As<;>intro _)|apply AD|refine Af () ?_ ?_|((first|apply AK|apply AJ|apply AI|apply AH|apply AC|apply AB|apply AA|apply Az|apply Ax)<;>try dsimp only)|apply Af|(refine Prod.forall.2 ?_;intro _;try dsimp only)|(intro _;try dsimp only))
 all_goals try(have t1:=Br.1 (show inn x.length 1 300=true by assumption))
 all_goals try(have t0:=a1J ‹_› ‹_› ‹_› ‹_›)
 all_goals first
  |rfl
  |exact Mp (a1K ‹_›)
  |exact Mp (a1L ‹_› ‹_›)
  |exact Mp (fun h=>h.2.2.2 ‹_›)
  |exact a1z
  |(rw[a1B];done)
  |(rw[Bd ‹_›];done)
  |exact(Oh ‹_› ‹_› ‹_›).1
  |(rw[FW];exact(Oh ‹_› ‹_› ‹_›).2)
  |(have:=Oh ‹_› (show(Aa x _).kids[_]? =some _ by assumption) ‹_›;rw[FW];omega)
  |(rw[a1C (by omega) ‹_›];exact a1A (Oh ‹_› ‹_› ‹_›).1 (Oh ‹_› ‹_› ‹_›).2 ‹_›)
  |(rw[a1D (by omega) ‹_› ‹_›];done)
  |(rw[a1M ‹_›];done)
  |(have:=a1I ‹_› ‹_› ‹_›;omega)
  |(have:=a1H ‹_› ‹_›;(try simp only[Ai] at*);omega)
  |exact a1F ‹_› ‹_› ‹_›
  |exact a1G (a1E ‹_› (‹tE _ _›.1) ‹_›) (‹tE _ _›.1) ‹_› ‹_›
  |exact b2r ‹_› ‹_› ‹_› ‹_›
  |exact⟨by omega,by omega,fun c hc=>by omega⟩
  |(rw[List.length_take,FW];omega)
  |((try simp only[Ai,Bb,List.length_replicate,FW] at*);omega)
  |(obtain⟨_,_,_⟩:= ‹tE _ _›;(try rw[List.length_take,FW]);(try simp only[Ai] at*);omega)
  |skip)
def Ec:Sig:= {X:=Int,args:=fun x=>[.int .i64 x],pre:=fun x=>True,Y:=Unit,post:=fun x y=>True,res:=fun x y=> .bool (AX x),outs:=fun x y=>[.top],keep:=false}
theorem QM:Ah G Tryz.prog 34 Ec:=
 vcFun_okP [(45,0,Bq)] [] false (fun x=>[]) Tryz.func34 rfl (by decide) ⟨Gx,trivial⟩ (fun(x:Int)=>(∀(y:Unit),True→True∧True∧True)∧cA Bq [.int .i64 x,.int .i64 (1:Int),.int .i64 (11:Int)] fun x_1 y=>rA Ec x [.bool (inn x_1.1 x_1.2.1 x_1.2.2),.top]) (fun x=>by kernel_rfl) fun(x:Int) (hx:True)=>(by
 dsimp only[cA,rA,Bq,Ec,Aq,Aw,mvL,lnL,mvE,lnE,mvG,mvH,lnG,lnH]
 (repeat' first|(with_reducible first|rfl|exact True.intro|apply AG|apply And.intro|((first|apply Au|apply AE|apply Av|apply AF)<;>intro _))|(apply As<;>intro _)|apply AD|refine Af () ?_ ?_|((first|apply AK|apply AJ|apply AI|apply AH|apply AC|apply AB|apply AA|apply Az|apply Ax)<;>try dsimp only)|apply Af|(refine Prod.forall.2 ?_;intro _;try dsimp only)|(intro _;try dsimp only))<;>(try dsimp only at*)<;>(try simp only[Ai,List.length_cons,List.length_nil])<;>(try omega)
 all_goals simp [AX,FA, *])
def HF:Sig:= {X:=Int,args:=fun x=>[.int .i64 x],pre:=fun x=>True,Y:=Unit,post:=fun x y=>True,res:=fun x y=> .bool (CN x),outs:=fun x y=>[.top],keep:=false}
theorem a1N:Ah G Tryz.prog 145 HF:=
 vcFun_okP [(45,0,Bq)] [] false (fun x=>[]) Tryz.func145 rfl (by decide) ⟨Gx,trivial⟩ (fun(x:Int)=>(∀(y:Unit),True→True∧True∧True)∧cA Bq [.int .i64 x,.int .i64 (12:Int),.int .i64 (17:Int)] fun x_1 y=>Ab (inn x_1.1 x_1.2.1 x_1.2.2) (rA HF x [.bool true,.top]) (rA HF x [.bool (x==(19:Int)),.top])) (fun x=>by kernel_rfl) fun(x:Int) (hx:True)=>(by
 dsimp only[cA,rA,Bq,HF,Aq,Aw,mvL,lnL,mvE,lnE,mvG,mvH,lnG,lnH]
 (repeat' first|(with_reducible first|rfl|exact True.intro|apply AG|apply And.intro|((first|apply Au|apply AE|apply Av|apply AF)<;>intro _))|(apply As<;>intro _)|apply AD|refine Af () ?_ ?_|((first|apply AK|apply AJ|apply AI|apply AH|apply AC|apply AB|apply AA|apply Az|apply Ax)<;>try dsimp only)|apply Af|(refine Prod.forall.2 ?_;intro _;try dsimp only)|(intro _;try dsimp only))<;>(try dsimp only at*)<;>(try simp only[Ai,List.length_cons,List.length_nil])<;>(try omega)
 all_goals simp [CN,Gv,FA, *])
def Dm:Sig:= {X:=Int,args:=fun x=>[.int .i64 x],pre:=fun x=>True,Y:=Unit,post:=fun x y=>True,res:=fun x y=> .tup [.int .i64 (CO x).1,.int .i64 (CO x).2],outs:=fun x y=>[.top],keep:=false}
theorem b2t:Ah G Tryz.prog 143 Dm:=
 vcFun_okP [] [] false (fun x=>[]) Tryz.func143 rfl (by decide) trivial (fun(x:Int)=>(∀(y:Unit),True→(True∧True∧True)∧True∧True)∧Ab (x==(4:Int)) (rA Dm x [.tup [.int .i64 (0:Int),.int .i64 (12:Int)],.top]) (Ab (x==(18:Int)) (rA Dm x [.tup [.int .i64 (0:Int),.int .i64 (12:Int)],.top]) (Ab (x==(21:Int)) (rA Dm x [.tup [.int .i64 (0:Int),.int .i64 (12:Int)],.top]) (Ab (x==(22:Int)) (rA Dm x [.tup [.int .i64 (0:Int),.int .i64 (12:Int)],.top]) (Ab (x==(5:Int)) (rA Dm x [.tup [.int .i64 (1:Int),.int .i64 (12:Int)],.top]) (Ab (x==(9:Int)) (rA Dm x [.tup [.int .i64 (1:Int),.int .i64 (12:Int)],.top]) (Ab (x==(20:Int)) (rA Dm x [.tup [.int .i64 (1:Int),.int .i64 (12:Int)],.top]) (Ab (x==(6:Int)) (rA Dm x [.tup [.int .i64 (1:Int),.int .i64 (1:Int)],.top]) (Ab (x==(11:Int)) (rA Dm x [.tup [.int .i64 (1:Int),.int .i64 (1:Int)],.top]) (Ab (x==(13:Int)) (rA Dm x [.tup [.int .i64 (1:Int),.int .i64 (1:Int)],.top]) (Ab (x==(14:Int)) (rA Dm x [.tup [.int .i64 (1:Int),.int .i64 (1:Int)],.top]) (Ab (x==(7:Int)) (rA Dm x [.tup [.int .i64 (2:Int),.int .i64 (12:Int)],.top]) (Ab (x==(10:Int)) (rA Dm x [.tup [.int .i64 (2:Int),.int .i64 (12:Int)],.top]) (Ab (x==(8:Int)) (rA Dm x [.tup [.int .i64 (3:Int),.int .i64 (3:Int)],.top]) (Ab (x==(12:Int)) (rA Dm x [.tup [.int .i64 (0:Int),.int .i64 (1:Int)],.top]) (Ab (x==(15:Int)) (rA Dm x [.tup [.int .i64 (0:Int),.int .i64 (1:Int)],.top]) (Ab (x==(16:Int)) (rA Dm x [.tup [.int .i64 (2:Int),.int .i64 (3:Int)],.top]) (Ab (x==(17:Int)) (rA Dm x [.tup [.int .i64 (2:Int),.int .i64 (2:Int)],.top]) (rA Dm x [.tup [.int .i64 (0:Int),.int .i64 (0:Int)],.top]))))))))))))))))))) (fun x=>by kernel_rfl) fun(x:Int) (hx:True)=>(by
 dsimp only[rA,Dm,Aq,Aw]
 (repeat' first|(with_reducible first|rfl|exact True.intro|apply AG|apply And.intro|((first|apply Au|apply AE|apply Av|apply AF)<;>intro _))|(apply As<;>intro _)|apply AD|refine Af () ?_ ?_|((first|apply AK|apply AJ|apply AI|apply AH|apply AC|apply AB|apply AA|apply Az|apply Ax)<;>try dsimp only)|apply Af|(refine Prod.forall.2 ?_;intro _;try dsimp only)|(intro _;try dsimp only))<;>(try dsimp only at*)<;>(try simp only[Ai,List.length_cons,List.length_nil])<;>(try omega)
 all_goals simp [CO, *])
def Ha(x:List Nd×Int×Int):Prop:=CH x.1∧Bh x.1 x.2.1=true∧((Aa x.1 x.2.1).kind=10→∀c,(Aa x.1 x.2.1).kids[x.2.2.toNat]? =some c→Al x.1 c=5→∃h t,(Aa x.1 c).kids=h::t∧Bh x.1 h=true)∧
 (0≤x.2.2∧x.2.2<(Aa x.1 x.2.1).kids.length)∧∀c,(Aa x.1 x.2.1).kids[x.2.2.toNat]? =some c→0≤c∧c<x.1.length
theorem VR{x:List Nd×Int×Int}{y:Nd}(h:Ha x)(hy:x.1[x.2.1.toNat]? =some y):0≤x.2.2∧x.2.2<y.kids.length:=by
 have:=h.2.2.2.1;rwa [Bd hy] at this
theorem a1O{x:List Nd×Int×Int}{y:Nd}{c:Int}(h:Ha x)(hy:x.1[x.2.1.toNat]? =some y)(hc:y.kids[x.2.2.toNat]? =some c):0≤c∧c<x.1.length:=by
 have:=h.2.2.2.2 c;rw[Bd hy] at this;exact this hc
theorem a1P{x:List Nd×Int×Int}{y z:Nd}{c:Int}(h:Ha x)(hy:x.1[x.2.1.toNat]? =some y)(hc:y.kids[x.2.2.toNat]? =some c)(hz:x.1[c.toNat]? =some z)(hk:y.kind=10)(hz5:z.kind=5):∃h t,z.kids=h::t∧Bh x.1 h=true:=by
 have:=h.2.2.1;rw[Bd hy] at this
 have:=this hk c hc;rw[Al,Bd hz] at this;exact this hz5
theorem a1Q{x:List Nd×Int×Int}{y z:Nd}{c d:Int}(h:Ha x)(hy:x.1[x.2.1.toNat]? =some y)(hc:y.kids[x.2.2.toNat]? =some c)(hz:x.1[c.toNat]? =some z)(hk:y.kind=10)(hz5:z.kind=5)(hd:z.kids[0]? =some d):(0≤d∧d<x.1.length)∧z.kids.headD 0=d:=by
 obtain⟨a,t,e,ha⟩:=a1P h hy hc hz hk hz5
 rw[e] at hd ⊢;cases hd;exact⟨Bc.1 ha,rfl⟩
theorem a1R{x:List Nd×Int×Int}{y z:Nd}{c:Int}(h:Ha x)(hy:x.1[x.2.1.toNat]? =some y)(hc:y.kids[x.2.2.toNat]? =some c)(hz:x.1[c.toNat]? =some z)(hk:y.kind=10)(hz5:z.kind=5):0<z.kids.length:=by
 obtain⟨a,t,e,ha⟩:=a1P h hy hc hz hk hz5
 rw[e];simp
def KH(x:List Nd×Int×Int):Bool:=Kt x.1 (Aa x.1 x.2.1) x.2.2 ((Aa x.1 x.2.1).kids.getD x.2.2.toNat 0)
theorem a1S{x:List Nd×Int×Int}{y z:Nd}{c:Int}(hy:x.1[x.2.1.toNat]? =some y)(hc:y.kids[x.2.2.toNat]? =some c)(hz:x.1[c.toNat]? =some z):
 KH x=(FV y.kind y.kids.length x.2.2 z.kind&&(if y.kind=10∧0<x.2.2 then decide (Al x.1 (z.kids.headD 0)=1) else true)):=by
 rw[KH,Bd hy,List.getD,hc,Option.getD_some,Kt,Al,Bd hz]
def Dd:Sig:= {X:=List Nd×Int×Int,args:=fun x=>[nds x.1,.int .i64 x.2.1,.int .i64 x.2.2],pre:=fun x=>Ha x,Y:=Unit,post:=fun x y=>True,res:=fun x y=> .bool (KH x),outs:=fun x y=>[.top,.top,.top],keep:=false}
theorem b2u:Ah G Tryz.prog 146 Dd:=
 vcFun_okP [(34,0,Ec),(145,0,HF)] [] false (fun x=>[]) Tryz.func146 rfl (by decide) ⟨QM,a1N,trivial⟩ (fun(x:List Nd×Int×Int)=>(∀(y:Unit),True→True∧True∧True∧True∧True)∧((0:Int)≤x.2.1∧x.2.1<(↑(List.length x.1):Int))∧∀(e:Nd),x.1[Int.toNat x.2.1]? =some e→((0:Int)≤x.2.2∧x.2.2<(↑(List.length e.kids):Int))∧∀(e_1:Int),e.kids[Int.toNat x.2.2]? =some e_1→((0:Int)≤e_1∧e_1<(↑(List.length x.1):Int))∧∀(e_2:Nd),x.1[Int.toNat e_1]? =some e_2→Ab (e.kind==(9:Int)) (inR IntKind.i64 (x.2.2+(1:Int))∧Ab (decide (x.2.2+(1:Int)<(↑(List.length e.kids):Int))) (rA Dd x [.bool (e_2.kind==(1:Int)),.top,.top,.top]) (cA Ec [.int .i64 e_2.kind] fun x_1 y=>rA Dd x [.bool (AX x_1),.top,.top,.top])) (Ab (e.kind==(20:Int)) (inR IntKind.i64 (x.2.2+(1:Int))∧Ab (decide (x.2.2+(1:Int)<(↑(List.length e.kids):Int))) (rA Dd x [.bool (e_2.kind==(1:Int)),.top,.top,.top]) (rA Dd x [.bool (e_2.kind==(18:Int)),.top,.top,.top])) (Ab (e.kind==(10:Int)) (Ab (decide (x.2.2>(0:Int))) (Ab (e_2.kind==(5:Int)) (((0:Int)≤(0:Int)∧(0:Int)<(↑(List.length e_2.kids):Int))∧∀(e:Int),e_2.kids[(0:Nat)]? =some e→((0:Int)≤e∧e<(↑(List.length x.1):Int))∧∀(e_3:Nd),x.1[Int.toNat e]? =some e_3→rA Dd x [.bool (e_3.kind==(1:Int)),.top,.top,.top]) (rA Dd x [.bool false,.top,.top,.top])) (cA Ec [.int .i64 e_2.kind] fun x_1 y=>rA Dd x [.bool (AX x_1),.top,.top,.top])) (Ab (e.kind==(16:Int)) (Ab (decide (x.2.2>(0:Int))) (rA Dd x [.bool (e_2.kind==(18:Int)),.top,.top,.top]) (cA Ec [.int .i64 e_2.kind] fun x_1 y=>rA Dd x [.bool (AX x_1),.top,.top,.top])) (Ab (e.kind==(17:Int)) (Ab (decide (x.2.2>(0:Int))) (rA Dd x [.bool (e_2.kind==(18:Int)),.top,.top,.top]) (cA Ec [.int .i64 e_2.kind] fun x_1 y=>rA Dd x [.bool (AX x_1),.top,.top,.top])) (Ab (e.kind==(18:Int)) (cA HF [.int .i64 e_2.kind] fun x_1 y=>rA Dd x [.bool (CN x_1),.top,.top,.top]) (Ab (e.kind==(21:Int)) (Ab (e_2.kind==(12:Int)) (rA Dd x [.bool true,.top,.top,.top]) (Ab (e_2.kind==(20:Int)) (rA Dd x [.bool true,.top,.top,.top]) (rA Dd x [.bool (e_2.kind==(19:Int)),.top,.top,.top]))) (Ab (e.kind==(22:Int)) (Ab (e_2.kind==(21:Int)) (rA Dd x [.bool true,.top,.top,.top]) (Ab (e_2.kind==(12:Int)) (rA Dd x [.bool true,.top,.top,.top]) (Ab (e_2.kind==(20:Int)) (rA Dd x [.bool true,.top,.top,.top]) (rA Dd x [.bool (e_2.kind==(19:Int)),.top,.top,.top])))) (cA Ec [.int .i64 e_2.kind] fun x_1 y=>rA Dd x [.bool (AX x_1),.top,.top,.top]))))))))) (fun x=>by kernel_rfl) fun(x:List Nd×Int×Int) (hx:Ha x)=>(by
 dsimp only[cA,Bg,nds,rA,Dd,HF,Ec,Aq,Aw,mvL,lnL,mvE,lnE,mvG,mvH,lnG,lnH]
 have h:=hx;have h1:=h.1;have hl:=h1.1;have hn:=Bc.1 h.2.1
 (repeat' first|(with_reducible first|rfl|exact True.intro|apply AG|apply And.intro|((first|apply Au|apply AE|apply Av|apply AF)<;>intro _))|(apply As<;>intro _)|apply AD|refine Af () ?_ ?_|((first|apply AK|apply AJ|apply AI|apply AH|apply AC|apply AB|apply AA|apply Az|apply Ax)<;>try dsimp only)|apply Af|(refine Prod.forall.2 ?_;intro _;try dsimp only)|(intro _;try dsimp only))
 all_goals first
  |omega
  |exact(VR h ‹_›).1
  |exact(VR h ‹_›).2
  |exact(a1O h ‹_› ‹_›).1
  |exact(a1O h ‹_› ‹_›).2
  |exact a1R h ‹_› ‹_› ‹_› ‹_› ‹_›
  |(have:=a1R h ‹_› ‹_› ‹_› ‹_› ‹_›;omega)
  |(have:=(a1Q h ‹_› ‹_› ‹_› ‹_› ‹_› ‹_›).1;omega)
  |(have hk:=(h1.2 _ (AY (show x.1[x.2.1.toNat]? =some _ by assumption))).2;have:=VR h ‹_›;(try simp only[Ai]);omega)
  |(rw[a1S ‹_› ‹_› ‹_›];simp [FV,Dz,Db,CG,EQ,EC,FA, *];done)
  |(rw[a1S ‹_› ‹_› ‹_›,(a1Q h ‹_› ‹_› ‹_› ‹_› ‹_› ‹_›).2,Al,Bd ‹_›];simp [FV,EC,FA, *];done)
  |skip)
end Go.My
end
