/- joined -/
import Derived.Test.YtblmpjljedglaaaGreatDoorQG
import Derived.ProofKit
set_option linter.unusedSimpArgs false
set_option linter.unusedVariables false
section
namespace Go.Eng
def Old(w:World):FP:=fun b=>w.heap.size≤b
def Opens(P:Program)(t:TypeId){α:Type}(f:α→List AV)(good:α→Prop):Prop:=
 ∀ {H:Type} (enc:TypeId×Value→H) (w:World) (spare:Nat→Bool) (held:Bool) (fuel:Nat) (cs:List Value) (y:DataW H×List MemPlace),
   DataW.trod enc P w 0 spare held fuel t cs=some y→∃x:α,good x∧AS (Old w) w (f x) cs (fun _=>False)
theorem Ih{Z:FP}{w:World}{a:AV}{v:Value}:AS Z w [a] [v] (fun _=>False)↔Ai Z w a v (fun _=>False):=by
 simp only[AS]
 constructor
 ·rintro⟨u,cs',A,B,e,hj,h1,h2,h3⟩
  simp only[List.cons.injEq] at e
  obtain⟨rfl,rfl⟩:=e
  have:=(FZ hj AO).1
  rwa [DK this] at h1
 ·intro h
  exact⟨v,[],fun _=>False,fun _=>False,rfl,BD _,h,rfl,AO⟩
theorem Jj{Z:FP}{w:World}{a:AV}{azs:List AV}{v:Value}{vs:List Value}(h1:Ai Z w a v (fun _=>False))(h2:AS Z w azs vs (fun _=>False)):
 AS Z w (a::azs) (v::vs) (fun _=>False):=by
 simp only[AS]
 exact⟨v,vs,_,_,rfl,BD _,h1,h2⟩
theorem b2h{k:IntKind}{n:Int}(h:(Lit.int k n).wf=true):inR k n:=by
 unfold inR
 simpa [Lit.wf] using h
theorem VN{P:Program}{t:TypeId}{k:IntKind}(ht:P.underlying t=some (.int k)):Opens P t (fun n:Int=>[.int k n]) (fun n=>inR k n):=by
 intro H enc w spare held fuel cs y h
 obtain⟨n,rfl,_,hw⟩:=DataW.trod_int ht h
 exact⟨n,b2h hw,Ih.2 (by simp [Ai,emp])⟩
theorem b2i{P:Program}{t:TypeId}(ht:P.underlying t=some .bool):Opens P t (fun b:Bool=>[.bool b]) (fun _=>True):=by
 intro H enc w spare held fuel cs y h
 obtain⟨n,rfl,_⟩:=DataW.trod_bool ht h
 exact⟨n,trivial,Ih.2 (by simp [Ai,emp])⟩
theorem b2j{P:Program}{t:TypeId}(ht:P.underlying t=some .string):Opens P t (fun s:List UInt8=>[.str s]) (fun s=>s.length<2^63):=by
 intro H enc w spare held fuel cs y h
 obtain⟨n,rfl,_,hl⟩:=DataW.trod_string ht h
 refine⟨n.data.toList,?_,Ih.2 ?_⟩
 ·have:n.data.toList.length≤maxLen:=hl
  unfold maxLen at this;omega
 ·simp only[Ai];exact⟨trivial,AO⟩
theorem a1I{α:Type}{p:Nat→α→Prop}:∀n,(∀i,i<n→∃x,p i x)→∃l:List α,l.length=n∧∀i x,l[i]? =some x→p i x
 |0,_=>⟨[],rfl,fun i x h=>by simp at h⟩
 |n+1,h=>by
  obtain⟨l,hl,hp⟩:=a1I n fun i hi=>h i (by omega)
  obtain⟨x,hx⟩:=h n (by omega)
  refine⟨l++[x],by simp [hl],fun i y hy=> ?_⟩
  by_cases hi:i<l.length
  ·rw[List.getElem?_append_left hi] at hy;exact hp i y hy
  ·rw[List.getElem?_append_right (by omega)] at hy
   have:i-l.length=0:=by
    rcases Nat.eq_zero_or_pos (i-l.length) with h|h
    ·exact h
    ·rw[List.getElem?_eq_none (by simp;omega)] at hy;cases hy
   rw[this] at hy;simp at hy;subst hy
   rwa [show i=n by omega]
theorem a1J{α:Type}{sz:Nat}{R:α→List Value→FP→Prop}:∀(xs:List α) (arr:List Value),
 (∀(i:Nat) (x:α),xs[i]? =some x→((arr.drop (i*sz)).take sz).length=sz∧R x ((arr.drop (i*sz)).take sz) (fun _=>False))→Rows sz R xs arr (fun _=>False)
 |[],arr,h=>AO
 |x::xs,arr,h=>by
  have h0:=h 0 x rfl
  simp only[Nat.zero_mul,List.drop_zero] at h0
  refine⟨_,_,BD _,h0.1,h0.2,a1J xs (arr.drop sz) fun i y hy=> ?_⟩
  have:=h (i+1) y (by simpa using hy)
  rwa [Nat.succ_mul,Nat.add_comm,←List.drop_drop] at this
theorem a1K{P:Program}{t e:TypeId}{sz:Nat}{α:Type}{f:α→List AV}{good:α→Prop}(ht:P.underlying t=some (.slice e))(hc:P.cellsOf e=sz)(hpos:0<sz)
 (ho:Opens P e f good):Opens P t (fun l:List α=>[.sl false 0 sz α f l]) (fun l=>l.length<2^63∧∀x∈l,good x):=by
 intro H enc w spare held fuel cs y h
 rcases DataW.trod_slice ht h with⟨rfl,_⟩|⟨a,len,cap,elems,rest,n,_,rfl,_,hb,hl,hm,hlen,hel,_,_⟩
 ·refine⟨[],⟨by simp,by simp⟩,Ih.2 ?_⟩
  simp only[Ai]
  exact⟨none,0,0,rfl,rfl,Nat.le_refl _,.inr ⟨trivial,AO,.inl trivial⟩⟩
 ·have each:∀i,i<len→∃x:α,good x∧∃cs,w.cells? 0 (a.add (i*sz)) sz=some cs∧AS (Old w) w (f x) cs (fun _=>False):=by
   intro i hi
   have h1:=hel i hi
   rw[hc] at h1
   rw[List.getElem?_eq_getElem (by omega:i<elems.length),Option.bind_eq_some_iff] at h1
   obtain⟨cs,h2,h3⟩:=h1
   obtain⟨x,hg,hr⟩:=ho enc w spare held n cs _ h3
   exact⟨x,hg,cs,h2,hr⟩
  obtain⟨l,hll,hp⟩:=a1I len each
  refine⟨l,⟨?_,?_⟩,Ih.2 ?_⟩
  ·unfold maxLen at hm;omega
  ·intro x hx
   obtain⟨i,hi⟩:=List.getElem?_of_mem hx
   exact(hp i x hi).1
  ·simp only[Ai]
   refine⟨some a,len,cap,rfl,hll.symm,hl,.inr ⟨trivial,AO,?_⟩⟩
   rcases Nat.eq_zero_or_pos len with h0|h0
   ·exact .inl (List.length_eq_zero_iff.1 (by omega))
   ·refine .inr ?_
    obtain⟨x0,_,c0,hc0,_⟩:=each 0 h0
    have h00:=(World.cells?_some hc0).2.2 0 hpos
    have hcl:=(World.cells?_some hc0).2.1
    simp only[Nat.zero_mul,Addr.add] at h00
    obtain⟨b,off,sp⟩:=a
    simp only[World.cell?,if_true] at h00
    split at h00
    ·rename_i arr ty fr harr
     split at h00
     ·rw[List.getElem?_eq_getElem (by omega)] at h00;cases h00
     ·rename_i hsp
      have hsp:sp=none:=by simpa using hsp
      subst hsp
      have hlt:b<w.heap.size:=by
       rcases Nat.lt_or_ge b w.heap.size with h|h
       ·exact h
       ·rw[Array.getElem?_eq_none h] at harr;cases harr
      refine⟨b,off,arr,ty,fr,rfl,by unfold Old;omega,harr,a1J l _ fun i x hx=> ?_⟩
      have hi:i<l.length:=(List.getElem?_eq_some_iff.1 hx).1
      obtain⟨hg,cs,hcs,hr⟩:=hp i x hx
      obtain⟨_,hcl,hce⟩:=World.cells?_some hcs
      have e:((arr.toList.drop off).drop (i*sz)).take sz=cs:=by
       refine List.ext_getElem? fun j=> ?_
       rw[List.getElem?_take]
       split
       ·rename_i hj
        have:=hce j hj
        rw[←this]
        simp only[List.getElem?_drop,Array.getElem?_toList]
        have ea:((⟨b,off,none⟩:Addr).add (i*sz)).add j=⟨b,off+i*sz+j,none⟩:=by
         unfold Addr.add
         by_cases h1:i*sz=0<;>by_cases h2:j=0<;>simp [h1,h2]
        rw[ea]
        simp only[World.cell?,harr]
        simp [Nat.add_assoc]
       ·rw[List.getElem?_eq_none (by omega)]
      rw[e]
      exact⟨hcl,hr⟩
    ·rw[List.getElem?_eq_getElem (by omega)] at h00;cases h00
theorem b2k{P:Program}{H:Type}{enc:TypeId×Value→H}{w:World}{base:Nat}{spare:Nat→Bool}{held:Bool}{fuel:Nat}{t:TypeId}{cs:List Value}{y:DataW H×List MemPlace}{fs:Array Field}
 (ht:P.underlying t=some (.struct fs)) (hn:P.cellsOf t=fs.size) (hf:∀(i:Nat) (f:Field),fs[i]? =some f→f.offset=i∧P.cellsOf f.type=1)
 (h:DataW.trod enc P w base spare held fuel t cs=some y):cs.length=fs.size∧∃n,∀(i:Nat) (f:Field) (c:Value),fs[i]? =some f→cs[i]? =some c→
   ∃z,DataW.trod enc P w base spare held n f.type [c]=some z:=by
 obtain⟨xs,n,_,_,h1,h2,h3⟩:=DataW.trod_struct ht h
 refine⟨by omega,n,fun i f c hi hc=> ?_⟩
 have h4:=h3 i f hi
 rw[(hf i f hi).1,(hf i f hi).2] at h4
 have hlt:i<cs.length:=(List.getElem?_eq_some_iff.1 hc).1
 have e:(cs.drop i).take 1=[c]:=by
  rw[List.drop_eq_getElem_cons hlt]
  simp only[List.take_succ_cons,List.take_zero,List.cons.injEq,and_true]
  exact(List.getElem?_eq_some_iff.1 hc).2
 rw[e] at h4
 rw[h4]
 have:i<xs.length:=by omega
 exact⟨xs[i],by simp [this]⟩
end Go.Eng
end
section
namespace Go.My
open Go.Eng Go.Proofs Go.RowKit
variable {G:GInv}
theorem after_below{Z A:FP}{w w':World}(h:Below w.heap.size w w'):After Z w A Z w' (fun _=>False):=
 ⟨h.os,h.tape,h.output,h.size,fun b hb _=>⟨h.block b hb,Iff.rfl⟩,fun _ h=>h.elim⟩
theorem a1L{Z:FP}{w:World}{l:List UInt8}{vs:List Value}{n:Nat}(h:vs.length=n):AS Z w (.str l::List.replicate n .top) (.string ⟨l.toArray⟩::vs) (fun _=>False):=by
 have key:∀(vs:List Value) (n:Nat),vs.length=n→AS Z w (List.replicate n .top) vs (fun _=>False):=by
  intro vs
  induction vs with
  |nil=>intro n h;subst h;exact⟨rfl,AO⟩
  |cons v vs ih=>
   intro n h
   subst h
   exact⟨v,vs,_,_,rfl,BD _,by simp only[Ai];exact AO,ih _ rfl⟩
 exact⟨_,vs,_,_,rfl,BD _,⟨rfl,AO⟩,key vs n h⟩
def Oi:Sig:= {X:=Int,args:=fun x=>[.str [32],.int .i64 x],pre:=fun x=>0≤x∧x≤100000,Y:=Unit,post:=fun _ _=>True,res:=fun x _=> .str (blk x),outs:=fun _ _=>[.top,.top],keep:=false}
theorem a1M:∀n:Nat,Lib.repeatL [32] n=List.replicate n 32
 |0=>rfl
 |n+1=>by rw[Lib.repeatL,a1M n,List.replicate_succ];rfl
theorem b2l:Ah G Go.Proofs.Tryz.prog 163 Oi:=by
 refine⟨⟨⟨_,Go.Proofs.Tryz.func163,by kernel_rfl,by kernel_rfl⟩,fun x y _ _=>⟨trivial,trivial,trivial,trivial⟩⟩,?_⟩
 rintro x ⟨h0,h1⟩ Z w vals A hG h hA _
 simp only[Oi,AS,Ai] at h
 obtain⟨v,cs,A1,A2,rfl,_,⟨rfl,_⟩,v2,cs2,A3,A4,rfl,_,⟨rfl,_⟩,rfl,_⟩:=h
 have hc:=Go.Proofs.Tryz.strings_Repeat ⟨#[32]⟩ x.toNat w (by omega) (by show 1*x.toNat≤_;omega)
 rw[show((x.toNat:Nat):Int)=x by omega] at hc
 refine hc.mono ?_
 rintro e w' ⟨rfl,hb⟩
 refine⟨(),_,Z,(fun _=>False),trivial,rfl,?_,after_below hb⟩
 have e2:Lib.repeatL (ByteArray.mk #[32]).data.toList x.toNat=blk x:=a1M x.toNat
 rw[e2]
 exact a1L (n:=2) rfl
def DC(xs:List (List UInt8))(sep:List UInt8):List UInt8:=Lib.join xs sep
def GC:Sig:= {X:=List (List UInt8)×List UInt8,args:=fun x=>[Es x.1,.str x.2],pre:=fun x=>(DC x.1 x.2).length≤140737488355328∧x.1.length≤140737488355328,Y:=Unit,post:=fun _ _=>True,res:=fun x _=> .str (DC x.1 x.2),outs:=fun _ _=>[.top,.top],keep:=false}
theorem a1N:Ah G Go.Proofs.Tryz.prog 128 GC:=by
 refine⟨⟨⟨_,Go.Proofs.Tryz.func128,by kernel_rfl,by kernel_rfl⟩,fun x y _ _=>⟨trivial,trivial,trivial,trivial⟩⟩,?_⟩
 rintro⟨xs,sep⟩ ⟨h0,h1⟩ Z w vals A hG h hA _
 simp only[GC,AS,Es] at h
 obtain⟨v,cs,A1,A2,rfl,_,hsl,v2,cs2,A3,A4,rfl,_,⟨rfl,_⟩,rfl,_⟩:=h
 simp only[Ai] at hsl
 obtain⟨a,n,c,rfl,hn,hc,hsl⟩:=hsl
 subst hn
 rcases hsl with⟨ho,_⟩|⟨_,_,hsl⟩
 ·cases ho
 have fin:∀ {e:Ending} {w':World},e= .returned (.string ⟨(DC xs sep).toArray⟩)∧Below w.heap.size w w'→
  ∃y v Z' A',GC.post (xs,sep) y∧e= .returned v∧AS Z' w' (GC.res (xs,sep) y::GC.outs (xs,sep) y) (v::[.slice a xs.length c,.string ⟨sep.toArray⟩]) A'∧After Z w A Z' w' A':=by
  rintro e w' ⟨rfl,hb⟩
  exact⟨(),_,Z,(fun _=>False),trivial,rfl,a1L (n:=2) rfl,after_below hb⟩
 rcases hsl with hnil|⟨b,off,arr,ty,fr,rfl,hz,hb,hrows⟩
 ·subst hnil
  refine(Go.Proofs.Tryz.strings_Join_none a c ⟨sep.toArray⟩ w).mono ?_
  rintro e w' ⟨rfl,rfl⟩
  exact fin ⟨by rw[DC,Lib.join_nil],Below.refl _ _⟩
 ·let bs:List ByteArray:=xs.map fun l=>⟨l.toArray⟩
  have hid:((fun x:ByteArray=>x.data.toList)∘fun l:List UInt8=>(⟨l.toArray⟩:ByteArray))=id:=by funext l;simp
  have hbs:bs.map (·.data.toList)=xs:=by simp only[bs,List.map_map];rw[hid,List.map_id]
  have hlen:bs.length=xs.length:=by simp [bs]
  have hcells:∀(j:Nat) x,bs[j]? =some x→w.cell? ⟨b,off+j,none⟩=some (.string x):=by
   intro j x hj
   simp only[bs,List.getElem?_map,Option.map_eq_some_iff] at hj
   obtain⟨l,hl,rfl⟩:=hj
   obtain⟨B,_,hlen1,hr⟩:=Po xs _ _ j l hrows hl
   simp only[Ag,AS,Ai] at hr
   obtain⟨v,cs',B1,B2,e1,_,⟨rfl,_⟩,rfl,_⟩:=hr
   have hb2:arr.toList[off+j]? =some (.string ⟨l.toArray⟩):=by
    have:((arr.toList.drop off).drop (j*1)).take 1=[.string ⟨l.toArray⟩]:=e1
    rw[Nat.mul_one,List.drop_drop] at this
    have h3:=congrArg (fun l=>l[0]?) this
    simpa [List.getElem?_take,List.getElem?_drop] using h3
   have:=JO (off:=off+j) hb
   unfold ad at this
   rw[this]
   simpa [Array.getElem?_toList] using hb2
  have hlt:b<w.heap.size:=by
   rcases Nat.lt_or_ge b w.heap.size with hh|hh
   ·exact hh
   ·rw[Array.getElem?_eq_none hh] at hb;cases hb
  have hj:=Go.Proofs.Tryz.strings_Join b off c bs ⟨sep.toArray⟩ w hcells hlt (by rw[hlen];exact h1) (by rw[hlen];exact hc) (by rw[hbs];exact h0)
  rw[hlen,hbs] at hj
  exact hj.mono fun e w' h=>fin h
theorem a1O{ns:List Nd}:∀ {l:List Int},Dz ns l false=Lib.joinTail [44,32] (l.map fun c=>(Aa ns c).text)
 |[]=>rfl
 |c::l=>by
  rw[Dz,a1O]
  simp [Lib.joinTail]
theorem b2m{ns:List Nd}{l:List Int}:Dz ns l true=DC (l.map fun c=>(Aa ns c).text) [44,32]:=by
 cases l with
 |nil=>rfl
 |cons c l=>
  rw[Dz,a1O,DC,List.map_cons,Lib.join_cons]
  simp
def GD:Sig:= {X:=Int,args:=fun x=>[.int .i64 x],pre:=fun x=>0≤x∧x≤100000,Y:=Unit,post:=fun x y=>True,res:=fun x y=> .str (blk x),outs:=fun x y=>[.top],keep:=false}
theorem a1P:Ah G Tryz.prog 126 GD:=
 vcFun_okP [(163,0,Oi)] [] false (fun x=>[]) Tryz.func126 rfl (by decide) ⟨b2l,trivial⟩ (fun(x:Int)=>(∀(y:Unit),True→True∧True∧True)∧cA Oi [.str #[(32:UInt8)].toList,.int .i64 x] fun x_1 y=>rA GD x [.str (blk x_1),.top]) (fun x=>by kernel_rfl) fun(x:Int) (hx:0≤x∧x≤100000)=>(by
 dsimp only[cA,rA,GD,Oi,Aq,Aw,mvL,lnL,mvE,lnE,mvG,mvH,lnG,lnH]
 obtain⟨h1,h2⟩:=hx
 (repeat' first|(with_reducible first|rfl|exact True.intro|apply AG|apply And.intro|((first|apply Au|apply AE|apply Av|apply AF)<;>intro _))|(apply As<;>intro _)|apply AD|refine Af () ?_ ?_|((first|apply AK|apply AJ|apply AI|apply AH|apply AC|apply AB|apply AA|apply Az|apply Ax)<;>try dsimp only)|apply Af|(refine Prod.forall.2 ?_;intro _;try dsimp only)|(intro _;try dsimp only))
 all_goals first
  |rfl
  |omega)
theorem VO{p:Pc}{v:List Int}{i:Int}{ls:List (List UInt8)}{s:List UInt8}(h:rnI p v i ls s):0≤i∧i<p.chunks.length:=h.1
theorem Hy{p:Pc}{v:List Int}{i:Int}{c:Ch}{b:Bool}(hc:p.chunks[i.toNat]? =some c)(hs:Ce v (Cz p i)=b):Ce v c=b:=by rw[←hs,Hx hc]
attribute [local irreducible] rnI BF rnL Ce blk
def Hz:Sig:= {X:=Pc×List Int,args:=fun x=>[.agg (pcA false x.1),Ad x.2],pre:=fun x=>renP x.1 x.2,Y:=Unit,post:=fun x y=>True,res:=fun x y=>Cu (BF x.1 x.2),outs:=fun x y=>[.top,.top],keep:=false}
def Mq(x:Pc×List Int):LS:= {ι:=Int×List (List UInt8)×List UInt8,inv:=fun i=>rnI x.1 x.2 i.1 i.2.1 i.2.2,regs:=fun i=>[(1,Ad x.2),(2,.box 0 (pcA false x.1)),(5,Cu i.2.1),(6,.str i.2.2),(13,chs x.1.chunks),(14,.int .i64 x.1.chunks.length),(15,.int .i64 i.1)],als:=[],meas:=fun i=>x.1.chunks.length-i.1.toNat}
theorem a1Q:Ah G Tryz.prog 165 Hz:=
 vcFun_okP [(126,0,GD),(196,0,Ig)] [(42,⟨List UInt8,Ag⟩)] false (fun x=>[(4,Mq x)]) Tryz.func165 rfl (by decide) ⟨a1P,a1w,trivial⟩ (fun(x:Pc×List Int)=>(∀(y:Unit),True→(∀(x:List UInt8),True∧True)∧True∧True∧True)∧cA GD [.int .i64 x.1.ind] fun x_1 y=>eA (Mq x) [Ad x.2,.box 0 [.int .i64 x.1.ind,AV.sl false 0 2 Ru ruA x.1.rules,AV.sl false 0 5 Ch chA x.1.chunks,AV.sl false 0 3 Sn snA x.1.spans,AV.sl false 0 2 Ti tiA x.1.ties],.nil,.str (blk x_1),AV.sl false 0 5 Ch chA x.1.chunks,.int .i64 (↑(List.length x.1.chunks):Int),.int .i64 (0:Int)]∧∀(i:Int×List (List UInt8)×List UInt8),rnI x.1 x.2 i.1 i.2.1 i.2.2→Ab (decide (i.1<(↑(List.length x.1.chunks):Int))) (((0:Int)≤i.1∧i.1<(↑(List.length x.1.chunks):Int))∧∀(e:Ch),x.1.chunks[Int.toNat i.1]? =some e→(↑(List.length i.2.2+List.length e.text):Int)≤IntKind.max IntKind.i64∧inR IntKind.i64 ((↑(List.length x.1.chunks):Int)-(1:Int))∧Ab (i.1==(↑(List.length x.1.chunks):Int)-(1:Int)) (∃(x_2:List UInt8),i.2.2++e.text=x_2∧(∃(zs:List (List UInt8)),AV.sl true 0 1 (List UInt8) Ag [x_2]=AV.sl true 0 1 (List UInt8) Ag zs∧(Bg Ag∧(AY (List.length i.2.1+List.length zs) (16:Nat)∧rA Hz x [AV.sl true 0 1 (List UInt8) Ag (i.2.1++zs),.top,.top])))) (cA Ig [.agg [.int .i64 x.1.ind,AV.sl false 0 2 Ru ruA x.1.rules,AV.sl false 0 5 Ch chA x.1.chunks,AV.sl false 0 3 Sn snA x.1.spans,AV.sl false 0 2 Ti tiA x.1.ties],Ad x.2,.int .i64 i.1] fun x_2 y=>Ab (Ce x_2.2.1 (Cz x_2.1 x_2.2.2)) (∃(x_3:List UInt8),i.2.2++e.text=x_3∧∃(zs:List (List UInt8)),AV.sl true 0 1 (List UInt8) Ag [x_3]=AV.sl true 0 1 (List UInt8) Ag zs∧Bg Ag∧AY (List.length i.2.1+List.length zs) (16:Nat)∧inR IntKind.i64 (x.1.ind+e.nest)∧cA GD [.int .i64 (x.1.ind+e.nest)] fun x_4 y=>inR IntKind.i64 (i.1+(1:Int))∧eN (Mq x) i [Ad x.2,.box 0 [.int .i64 x.1.ind,AV.sl false 0 2 Ru ruA x.1.rules,AV.sl false 0 5 Ch chA x.1.chunks,AV.sl false 0 3 Sn snA x.1.spans,AV.sl false 0 2 Ti tiA x.1.ties],AV.sl true 0 1 (List UInt8) Ag (i.2.1++zs),.str (blk x_4),AV.sl false 0 5 Ch chA x.1.chunks,.int .i64 (↑(List.length x.1.chunks):Int),.int .i64 (i.1+(1:Int))]) (Ab e.space ((↑(List.length (i.2.2++e.text)+(1:Nat)):Int)≤IntKind.max IntKind.i64∧inR IntKind.i64 (i.1+(1:Int))∧eN (Mq x) i [Ad x.2,.box 0 [.int .i64 x.1.ind,AV.sl false 0 2 Ru ruA x.1.rules,AV.sl false 0 5 Ch chA x.1.chunks,AV.sl false 0 3 Sn snA x.1.spans,AV.sl false 0 2 Ti tiA x.1.ties],AV.sl true 0 1 (List UInt8) Ag i.2.1,.str (i.2.2++e.text++ #[(32:UInt8)].toList),AV.sl false 0 5 Ch chA x.1.chunks,.int .i64 (↑(List.length x.1.chunks):Int),.int .i64 (i.1+(1:Int))]) (inR IntKind.i64 (i.1+(1:Int))∧eN (Mq x) i [Ad x.2,.box 0 [.int .i64 x.1.ind,AV.sl false 0 2 Ru ruA x.1.rules,AV.sl false 0 5 Ch chA x.1.chunks,AV.sl false 0 3 Sn snA x.1.spans,AV.sl false 0 2 Ti tiA x.1.ties],AV.sl true 0 1 (List UInt8) Ag i.2.1,.str (i.2.2++e.text),AV.sl false 0 5 Ch chA x.1.chunks,.int .i64 (↑(List.length x.1.chunks):Int),.int .i64 (i.1+(1:Int))])))) (∃(x_2:List UInt8),i.2.2=x_2∧(∃(zs:List (List UInt8)),AV.sl true 0 1 (List UInt8) Ag [x_2]=AV.sl true 0 1 (List UInt8) Ag zs∧(Bg Ag∧(AY (List.length i.2.1+List.length zs) (16:Nat)∧rA Hz x [AV.sl true 0 1 (List UInt8) Ag (i.2.1++zs),.top,.top]))))) (fun x=>by kernel_rfl) fun(x:Pc×List Int) (hx:renP x.1 x.2)=>(by
 dsimp only[cA,Bl,chs,eA,eN,Mq,Ad,Cu,pcA,rA,Bj,GD,Hz,Ig,Bm,Bn,Aq,Aw,mvL,lnL,mvE,lnE,mvG,mvH,lnG,lnH,Ba]
 obtain⟨p,v⟩:=x;dsimp only at hx ⊢
 have hx:renP p v:=hx
 have h1:=hx.ok.ind;have h2:=hx.ok.cl;have h3:=hx.ct
 (repeat' first|refine Dp p ?_|(with_reducible first|rfl|exact True.intro|apply AG|apply And.intro|((first|apply Au|apply AE|apply Av|apply AF)<;>intro _))|(apply As<;>intro _)|apply AD|refine Af () ?_ ?_|((first|apply AK|apply AJ|apply AI|apply AH|apply AC|apply AB|apply AA|apply Az|apply Ax)<;>try dsimp only)|apply Af|(refine Prod.forall.2 ?_;intro _;try dsimp only)|(intro _;try dsimp only))
 all_goals first
  |rfl
  |(simp only[Aj];omega)
  |omega
  |exact a1y hx.ok
  |(exfalso;have hq:=VO (show rnI _ _ _ _ _ by assumption);omega)
  |exact a1B ‹_› ‹_› (by omega) (Hy ‹_› ‹_›)
  |exact a1C ‹_› ‹_› (by omega) (Hy ‹_› ‹_›) ‹_›
  |exact a1D ‹_› ‹_› (by omega) (Hy ‹_› ‹_›) ‹_›
  |(have hq:=VO (show rnI _ _ _ _ _ by assumption);(try simp only[Aj]);omega)
  |(have hi:=(show rnI _ _ _ _ _ by assumption);have hq:=VO hi;have hc:=a1E hx hq ‹_› (by omega);(try rw[Hx ‹_›]);(try simp only[Aj]);omega)
  |(have hi:=(show rnI _ _ _ _ _ by assumption);have hq:=a1z hx.ok hi;have hm:=Od (AZ (show p.chunks[_]? =some _ by assumption));(try simp only[Aj,AY,List.length_append,List.length_cons,List.length_nil]);omega)
  |exact a1A ‹_› ‹_› (by omega)
  |skip)
end Go.My
end
section
namespace Go.My
open Go.Eng Go.Proofs
variable {G:GInv}
theorem b2n{l m:List Int}:(l++m).sum=l.sum+m.sum:=by simp
def FQ{α:Type}(f:α→Int)(l:List α)(i:Int):Int:=((l.take i.toNat).map f).sum
theorem a1R{α:Type}{f:α→Int}{l:List α}:FQ f l 0=0:=by simp [FQ]
theorem VP{α:Type}{f:α→Int}{l:List α}{i:Int}{e:α}(h0:0≤i)(he:l[i.toNat]? =some e):FQ f l (i+1)=FQ f l i+f e:=by
 rw[FQ,BG h0,Df he,List.map_append,b2n,FQ];simp
theorem a1S{α:Type}{f:α→Int}{l:List α}{i:Int}(h:¬i<l.length):FQ f l i=(l.map f).sum:=by rw[FQ,List.take_of_length_le (by omega)]
theorem a1T{α:Type}{f:α→Int}{b:Int}{l:List α}{i:Int}(hb:0≤b)(h:∀x∈l,0≤f x∧f x≤b):0≤FQ f l i∧FQ f l i≤l.length*b:=by
 have h1:=Ob (l:=l.take i.toNat) (f:=f) (b:=b) fun x hx=>h x (List.mem_of_mem_take hx)
 have h2:(l.take i.toNat).length≤l.length:=by rw[List.length_take];omega
 have h3:(((l.take i.toNat).length:Nat):Int)*b≤l.length*b:=Int.mul_le_mul_of_nonneg_right (by omega) hb
 unfold FQ;omega
def ruF(p:Pc)(q:Int×Nat):Int:=q.1*(CI p q.2).cost
def snF(p:Pc)(v:List Int)(s:Sn):Int:=if snS p v s then s.cost else 0
theorem b2o{p:Pc}{v:List Int}:Cj p v=(v.zipIdx.map (ruF p)).sum+(p.spans.map (snF p v)).sum:=rfl
theorem a1U{v:List Int}{i:Int}{n:Int}(h0:0≤i)(h:v[i.toNat]? =some n):v.zipIdx[i.toNat]? =some (n,i.toNat):=by simp [List.getElem?_zipIdx,h]
theorem VQ{p:Pc}{v:List Int}(h:pcOk p)(hv:vOk p v):∀q∈v.zipIdx,0≤ruF p q∧ruF p q≤27:=by
 intro q hq
 obtain⟨n,i⟩:=q
 have hi:=List.mem_zipIdx_iff_getElem?.1 hq
 have h2:=hv.2 i n hi
 have hlt:=(Cx hi).1
 have h3:=Mn h (i:=(i:Int)) (by omega) (by have:=hv.1;omega)
 have a:0≤n*(CI p (i:Int)).cost:=Int.mul_nonneg h2.1 h3.2.1
 have b:n*(CI p (i:Int)).cost≤3*9:=Int.mul_le_mul (by omega) h3.2.2 h3.2.1 (by omega)
 exact⟨a,by show n*(CI p (i:Int)).cost≤27;omega⟩
theorem b2p{p:Pc}{v:List Int}(h:pcOk p):∀s∈p.spans,0≤snF p v s∧snF p v s≤9:=by
 intro s hs
 have:=(h.sn s hs).2
 unfold snF;split<;>omega
structure bndP (p:Pc) (v:List Int):Prop where
 ok:pcOk p
 vo:vOk p v
def bdI(p:Pc)(v:List Int)(i n:Int):Prop:=(0≤i∧i≤v.length)∧n=FQ (ruF p) v.zipIdx i
def bdJ(p:Pc)(v:List Int)(i n:Int):Prop:=(0≤i∧i≤p.spans.length)∧n=(v.zipIdx.map (ruF p)).sum+FQ (snF p v) p.spans i
theorem QK{p:Pc}{v:List Int}{i n:Int}(h:bndP p v)(hi:bdI p v i n):(0≤i∧i≤v.length)∧(0≤n∧n≤216)∧v.length≤8:=by
 have h1:=a1T (i:=i) (by omega) (VQ h.ok h.vo)
 have h2:=h.vo.1;have h3:=h.ok.rl
 rw[List.length_zipIdx,←hi.2] at h1
 exact⟨hi.1,by omega,by omega⟩
theorem QL{p:Pc}{v:List Int}{i n:Int}(h:bndP p v)(hi:bdJ p v i n):(0≤i∧i≤p.spans.length)∧(0≤n∧n≤1000):=by
 have h1:=a1T (i:=i) (by omega) (b2p (v:=v) h.ok)
 have h4:=Ob (VQ h.ok h.vo)
 rw[List.length_zipIdx] at h4
 have h2:=h.vo.1;have h3:=h.ok.rl;have h5:=h.ok.snl
 have:=hi.2
 exact⟨hi.1,by omega⟩
theorem a1V{p:Pc}{v:List Int}{i n a:Int}{r:Ru}(hi:bdI p v i n)(hlt:i<v.length)(ha:v[i.toNat]? =some a)(hr:p.rules[i.toNat]? =some r):bdI p v (i+1) (n+a*r.cost):=by
 refine⟨by have:=hi.1;omega,?_⟩
 rw[VP hi.1.1 (a1U hi.1.1 ha),hi.2]
 have:ruF p (a,i.toNat)=a*r.cost:=by rw[ruF];simp only;rw[Oe (by rw[Int.toNat_natCast];exact hr)]
 rw[this]
theorem a1W{p:Pc}{v:List Int}{i n a:Int}{r:Ru}(h:bndP p v)(hi:bdI p v i n)(ha:v[i.toNat]? =some a)(hr:p.rules[i.toNat]? =some r):0≤a*r.cost∧a*r.cost≤27:=by
 have:=VQ h.ok h.vo (a,i.toNat) (AZ (a1U hi.1.1 ha))
 have e:ruF p (a,i.toNat)=a*r.cost:=by rw[ruF];simp only;rw[Oe (by rw[Int.toNat_natCast];exact hr)]
 rwa [e] at this
theorem VR{p:Pc}{v:List Int}{i n:Int}(hi:bdI p v i n)(h:¬i<v.length):bdJ p v 0 n:=by
 refine⟨by omega,?_⟩
 rw[a1R,hi.2,a1S (by rw[List.length_zipIdx];exact h)];omega
theorem a1X{p:Pc}{v:List Int}{i n:Int}{s:Sn}(hi:bdJ p v i n)(hlt:i<p.spans.length)(hs:p.spans[i.toNat]? =some s)(h:snS p v s=true):bdJ p v (i+1) (n+s.cost):=by
 refine⟨by have:=hi.1;omega,?_⟩
 rw[VP hi.1.1 hs,hi.2,snF,h];simp;omega
theorem a1Y{p:Pc}{v:List Int}{i n:Int}{s:Sn}(hi:bdJ p v i n)(hlt:i<p.spans.length)(hs:p.spans[i.toNat]? =some s)(h:snS p v s=false):bdJ p v (i+1) n:=by
 refine⟨by have:=hi.1;omega,?_⟩
 rw[VP hi.1.1 hs,hi.2,snF,h];simp
theorem QM{p:Pc}{v:List Int}{i n:Int}(hi:bdJ p v i n)(h:¬i<p.spans.length):n=Cj p v:=by
 rw[b2o,hi.2,a1S h]
theorem a1Z{p:Pc}{v:List Int}{s:Sn}{i:Int}(h:bndP p v)(hs:p.spans[i.toNat]? =some s):spnP p v s∧0≤s.cost∧s.cost≤9:=by
 have:=h.ok.sn s (AZ hs)
 exact⟨⟨h.ok,h.vo.1,this.1⟩,this.2⟩
theorem VS{p:Pc}{v:List Int}:bdI p v 0 0:=⟨by omega,a1R.symm⟩
attribute [local irreducible] bdI bdJ Cj snS
def HA:Sig:= {X:=Pc×List Int,args:=fun x=>[.agg (pcA false x.1),Ad x.2],pre:=fun x=>bndP x.1 x.2,Y:=Unit,post:=fun x y=>True,res:=fun x y=> .int .i64 (Cj x.1 x.2),outs:=fun x y=>[.top,.top],keep:=false}
def QN(x:Pc×List Int):LS:= {ι:=Int×Int,inv:=fun i=>bdI x.1 x.2 i.1 i.2,regs:=fun i=>[(1,Ad x.2),(2,.box 0 (pcA false x.1)),(5,.int .i64 i.2),(10,Ad x.2),(11,.int .i64 x.2.length),(12,.int .i64 i.1)],als:=[],meas:=fun i=>x.2.length-i.1.toNat}
def Oj(x:Pc×List Int):LS:= {ι:=Int×Int,inv:=fun i=>bdJ x.1 x.2 i.1 i.2,regs:=fun i=>[(1,Ad x.2),(2,.box 0 (pcA false x.1)),(5,.int .i64 i.2),(29,sns x.1.spans),(30,.int .i64 x.1.spans.length),(31,.int .i64 i.1)],als:=[],meas:=fun i=>x.1.spans.length-i.1.toNat}
theorem a2a:Ah G Tryz.prog 226 HA:=
 vcFun_okP [(241,0,KH)] [] false (fun x=>[(3,QN x),(8,Oj x)]) Tryz.func226 rfl (by decide) ⟨b2g,trivial⟩ (fun(x:Pc×List Int)=>(∀(y:Unit),True→True∧True∧True∧True)∧eA (QN x) [Ad x.2,.box 0 [.int .i64 x.1.ind,AV.sl false 0 2 Ru ruA x.1.rules,AV.sl false 0 5 Ch chA x.1.chunks,AV.sl false 0 3 Sn snA x.1.spans,AV.sl false 0 2 Ti tiA x.1.ties],.int .i64 (0:Int),Ad x.2,.int .i64 (↑(List.length x.2):Int),.int .i64 (0:Int)]∧∀(i:Int×Int),bdI x.1 x.2 i.1 i.2→Ab (decide (i.1<(↑(List.length x.2):Int))) (((0:Int)≤i.1∧i.1<(↑(List.length x.2):Int))∧∀(e:Int),x.2[Int.toNat i.1]? =some e→((0:Int)≤i.1∧i.1<(↑(List.length x.1.rules):Int))∧∀(e_1:Ru),x.1.rules[Int.toNat i.1]? =some e_1→inR IntKind.i64 (e*e_1.cost)∧inR IntKind.i64 (i.2+e*e_1.cost)∧inR IntKind.i64 (i.1+(1:Int))∧eN (QN x) i [Ad x.2,.box 0 [.int .i64 x.1.ind,AV.sl false 0 2 Ru ruA x.1.rules,AV.sl false 0 5 Ch chA x.1.chunks,AV.sl false 0 3 Sn snA x.1.spans,AV.sl false 0 2 Ti tiA x.1.ties],.int .i64 (i.2+e*e_1.cost),Ad x.2,.int .i64 (↑(List.length x.2):Int),.int .i64 (i.1+(1:Int))]) (eA (Oj x) [Ad x.2,.box 0 [.int .i64 x.1.ind,AV.sl false 0 2 Ru ruA x.1.rules,AV.sl false 0 5 Ch chA x.1.chunks,AV.sl false 0 3 Sn snA x.1.spans,AV.sl false 0 2 Ti tiA x.1.ties],.int .i64 i.2,AV.sl false 0 3 Sn snA x.1.spans,.int .i64 (↑(List.length x.1.spans):Int),.int .i64 (0:Int)]∧∀(i:Int×Int),bdJ x.1 x.2 i.1 i.2→Ab (decide (i.1<(↑(List.length x.1.spans):Int))) (((0:Int)≤i.1∧i.1<(↑(List.length x.1.spans):Int))∧∀(e:Sn),x.1.spans[Int.toNat i.1]? =some e→cA KH [.agg [.int .i64 x.1.ind,AV.sl false 0 2 Ru ruA x.1.rules,AV.sl false 0 5 Ch chA x.1.chunks,AV.sl false 0 3 Sn snA x.1.spans,AV.sl false 0 2 Ti tiA x.1.ties],Ad x.2,.agg [.int .i64 e.fr,.int .i64 e.tuu,.int .i64 e.cost]] fun x_1 y=>Ab (snS x_1.1 x_1.2.1 x_1.2.2) (inR IntKind.i64 (i.2+e.cost)∧inR IntKind.i64 (i.1+(1:Int))∧eN (Oj x) i [Ad x.2,.box 0 [.int .i64 x.1.ind,AV.sl false 0 2 Ru ruA x.1.rules,AV.sl false 0 5 Ch chA x.1.chunks,AV.sl false 0 3 Sn snA x.1.spans,AV.sl false 0 2 Ti tiA x.1.ties],.int .i64 (i.2+e.cost),AV.sl false 0 3 Sn snA x.1.spans,.int .i64 (↑(List.length x.1.spans):Int),.int .i64 (i.1+(1:Int))]) (inR IntKind.i64 (i.1+(1:Int))∧eN (Oj x) i [Ad x.2,.box 0 [.int .i64 x.1.ind,AV.sl false 0 2 Ru ruA x.1.rules,AV.sl false 0 5 Ch chA x.1.chunks,AV.sl false 0 3 Sn snA x.1.spans,AV.sl false 0 2 Ti tiA x.1.ties],.int .i64 i.2,AV.sl false 0 3 Sn snA x.1.spans,.int .i64 (↑(List.length x.1.spans):Int),.int .i64 (i.1+(1:Int))])) (rA HA x [.int .i64 i.2,.top,.top]))) (fun x=>by kernel_rfl) fun(x:Pc×List Int) (hx:bndP x.1 x.2)=>(by
 dsimp only[cA,Bl,eA,eN,Oj,QN,Ad,pcA,rA,Bj,HA,KH,Bm,sns,Bn,Aq,Aw,mvL,lnL,mvE,lnE,mvG,mvH,lnG,lnH,Ba]
 obtain⟨p,v⟩:=x;dsimp only at hx ⊢
 have hx:bndP p v:=hx
 have h1:=hx.ok.rl;have h2:=hx.vo.1;have h3:=hx.ok.snl
 (repeat' first|refine Dp p ?_|(with_reducible first|rfl|exact True.intro|apply AG|apply And.intro|((first|apply Au|apply AE|apply Av|apply AF)<;>intro _))|(apply As<;>intro _)|apply AD|refine Af () ?_ ?_|((first|apply AK|apply AJ|apply AI|apply AH|apply AC|apply AB|apply AA|apply Az|apply Ax)<;>try dsimp only)|apply Af|(refine Prod.forall.2 ?_;intro _;try dsimp only)|(intro _;try dsimp only))
 all_goals first
  |rfl
  |assumption
  |omega
  |exact VS
  |exact a1V ‹_› ‹_› ‹_› ‹_›
  |exact VR ‹_› ‹_›
  |exact a1X ‹_› ‹_› ‹_› ‹_›
  |exact a1Y ‹_› ‹_› ‹_› ‹_›
  |exact QM ‹_› ‹_›
  |exact(a1Z hx ‹_›).1
  |(have hq:=QK hx (show bdI _ _ _ _ by assumption);(try simp only[Aj]);omega)
  |(have hi:=(show bdI _ _ _ _ by assumption);have hq:=QK hx hi;have hm:=a1W hx hi ‹_› ‹_›;(try simp only[Aj]);omega)
  |(have hq:=QL hx (show bdJ _ _ _ _ by assumption);(try simp only[Aj]);omega)
  |(have hi:=(show bdJ _ _ _ _ by assumption);have hq:=QL hx hi;have hm:=(a1Z hx (show p.spans[_]? =some _ by assumption)).2;(try simp only[Aj]);omega)
  |skip)
end Go.My
end
section
namespace Go.My
open Go.Eng Go.Proofs
variable {G:GInv}
def Mr:Sig:= {X:=Int×Int×Int×Int,args:=fun x=>[.agg [.int .i64 x.1,.int .i64 x.2.1],.agg [.int .i64 x.2.2.1,.int .i64 x.2.2.2]],pre:=fun x=>True,Y:=Unit,post:=fun x y=>True,res:=fun x y=> .bool (GB ⟨x.1,x.2.1⟩ ⟨x.2.2.1,x.2.2.2⟩),outs:=fun x y=>[.top,.top],keep:=false}
theorem b2q:Ah G Tryz.prog 228 Mr:=
 vcFun_okP [] [] false (fun x=>[]) Tryz.func228 rfl (by decide) trivial (fun(x:Int×Int×Int×Int)=>(∀(y:Unit),True→True∧True∧True∧True)∧Ab (decide (x.1<x.2.2.1)) (rA Mr x [.bool true,.top,.top]) (Ab (x.1==x.2.2.1) (rA Mr x [.bool (decide (x.2.1<x.2.2.2)),.top,.top]) (rA Mr x [.bool false,.top,.top]))) (fun x=>by kernel_rfl) fun(x:Int×Int×Int×Int) (hx:True)=>(by
 dsimp only[rA,Mr,Aq,Aw]
 obtain⟨a,b,c,d⟩:=x;dsimp only at hx ⊢
 (repeat' first|(with_reducible first|rfl|exact True.intro|apply AG|apply And.intro|((first|apply Au|apply AE|apply Av|apply AF)<;>intro _))|(apply As<;>intro _)|apply AD|refine Af () ?_ ?_|((first|apply AK|apply AJ|apply AI|apply AH|apply AC|apply AB|apply AA|apply Az|apply Ax)<;>try dsimp only)|apply Af|(refine Prod.forall.2 ?_;intro _;try dsimp only)|(intro _;try dsimp only))
 all_goals(simp [GB, *]<;>omega))
def Fw(a b:Int):Int:=if a<b then-1 else if b<a then 1 else 0
def KI:Sig:= {X:=Int,args:=fun x=>[.int .i64 x],pre:=fun x=>True,Y:=Unit,post:=fun x y=>True,res:=fun x y=> .bool false,outs:=fun x y=>[.top],keep:=false}
theorem b2r:Ah G Tryz.prog 258 KI:=
 vcFun_okP [] [] false (fun x=>[]) Tryz.func258 rfl (by decide) trivial (fun(x:Int)=>(∀(y:Unit),True→True∧True∧True)∧rA KI x [.bool (x != x),.top]) (fun x=>by kernel_rfl) fun(x:Int) (hx:True)=>(by
 dsimp only[rA,KI,Aq,Aw]
 (repeat' first|(with_reducible first|rfl|exact True.intro|apply AG|apply And.intro|((first|apply Au|apply AE|apply Av|apply AF)<;>intro _))|(apply As<;>intro _)|apply AD|refine Af () ?_ ?_|((first|apply AK|apply AJ|apply AI|apply AH|apply AC|apply AB|apply AA|apply Az|apply Ax)<;>try dsimp only)|apply Af|(refine Prod.forall.2 ?_;intro _;try dsimp only)|(intro _;try dsimp only))<;>(try dsimp only at*)<;>(try simp only[Aj,List.length_cons,List.length_nil])<;>(try omega)
 all_goals simp)
def Jk:Sig:= {X:=Int×Int,args:=fun x=>[.int .i64 x.1,.int .i64 x.2],pre:=fun x=>True,Y:=Unit,post:=fun x y=>True,res:=fun x y=> .int .i64 (Fw x.1 x.2),outs:=fun x y=>[.top,.top],keep:=false}
theorem b2s:Ah G Tryz.prog 250 Jk:=
 vcFun_okP [(258,0,KI)] [] false (fun x=>[]) Tryz.func250 rfl (by decide) ⟨b2r,trivial⟩ (fun(x:Int×Int)=>(∀(y:Unit),True→True∧True∧True∧True)∧cA KI [.int .i64 x.1] fun x_1 y=>cA KI [.int .i64 x.2] fun x_2 y=>Ab (decide (x.1<x.2)) (rA Jk x [.int .i64 (-1:Int),.top,.top]) (Ab (decide (x.1>x.2)) (rA Jk x [.int .i64 (1:Int),.top,.top]) (rA Jk x [.int .i64 (0:Int),.top,.top]))) (fun x=>by kernel_rfl) fun(x:Int×Int) (hx:True)=>(by
 dsimp only[cA,rA,Jk,KI,Aq,Aw,mvL,lnL,mvE,lnE,mvG,mvH,lnG,lnH]
 (repeat' first|(with_reducible first|rfl|exact True.intro|apply AG|apply And.intro|((first|apply Au|apply AE|apply Av|apply AF)<;>intro _))|(apply As<;>intro _)|apply AD|refine Af () ?_ ?_|((first|apply AK|apply AJ|apply AI|apply AH|apply AC|apply AB|apply AA|apply Az|apply Ax)<;>try dsimp only)|apply Af|(refine Prod.forall.2 ?_;intro _;try dsimp only)|(intro _;try dsimp only))<;>(try dsimp only at*)<;>(try simp only[Aj,List.length_cons,List.length_nil])<;>(try omega)
 all_goals first
  |(simp_all [Fw];done)
  |(simp_all [Fw];rw[if_neg (by omega),if_neg (by omega)])
  |(simp_all [Fw];omega))
def cmI(a b:List Int)(i:Int):Prop:=(0≤i∧i≤a.length∧i≤b.length)∧Cy a b=Cy (a.drop i.toNat) (b.drop i.toNat)
theorem a2b{a b:List Int}:cmI a b 0:=⟨by omega,rfl⟩
theorem a2c{a b:List Int}{i:Int}(h:cmI a b i)(hi:i<a.length)(hb:i≥b.length):1=Cy a b:=by
 rw[h.2,List.drop_of_length_le (l:=b) (by omega)]
 have hlt:i.toNat<a.length:=by have:=h.1;omega
 rw[List.drop_eq_getElem_cons hlt,Cy]
theorem QO{a b:List Int}{i x y:Int}(h:cmI a b i)(hx:a[i.toNat]? =some x)(hy:b[i.toNat]? =some y):Cy a b=if x<y then-1 else if y<x then 1 else Cy (a.drop (i+1).toNat) (b.drop (i+1).toNat):=by
 rw[h.2,Dm hx,Dm hy,Cy,BG h.1.1]
theorem b2t{a b:List Int}{i x y:Int}(h:cmI a b i)(hx:a[i.toNat]? =some x)(hy:b[i.toNat]? =some y)(hc:Fw x y≠0):Fw x y=Cy a b:=by
 rw[QO h hx hy]
 unfold Fw at hc ⊢
 split
 ·rfl
 ·rename_i h1
  rw[if_neg h1] at hc
  split
  ·rfl
  ·rename_i h2;rw[if_neg h2] at hc;exact(hc rfl).elim
theorem a2d{a b:List Int}{i x y:Int}(h:cmI a b i)(hi:i<a.length)(hib:¬i≥b.length)(hx:a[i.toNat]? =some x)(hy:b[i.toNat]? =some y)(hc:Fw x y=0):cmI a b (i+1):=by
 refine⟨by have:=h.1;omega,?_⟩
 rw[QO h hx hy]
 unfold Fw at hc
 split at hc
 ·cases hc
 ·rename_i h1
  split at hc
  ·cases hc
  ·rename_i h2
   rw[if_neg h1,if_neg h2]
theorem VT{a b:List Int}{i:Int}(h:cmI a b i)(hi:¬i<a.length):Cy a b=if(a.length:Int)<b.length then-1 else 0:=by
 rw[h.2,List.drop_of_length_le (l:=a) (by omega)]
 split
 ·have hlt:i.toNat<b.length:=by have:=h.1;omega
  rw[List.drop_eq_getElem_cons hlt,Cy]
 ·rw[List.drop_of_length_le (by have:=h.1;omega),Cy]
attribute [local irreducible] cmI Fw Cy
def Ii:Sig:= {X:=List Int×List Int,args:=fun x=>[Ad x.1,Ad x.2],pre:=fun x=>x.1.length<2^62∧x.2.length<2^62,Y:=Unit,post:=fun x y=>True,res:=fun x y=> .int .i64 (Cy x.1 x.2),outs:=fun x y=>[.top,.top],keep:=false}
def QP(x:List Int×List Int):LS:= {ι:=Int,inv:=fun i=>cmI x.1 x.2 i,regs:=fun i=>[(0,Ad x.1),(1,Ad x.2),(9,Ad x.1),(10,.int .i64 x.1.length),(11,.int .i64 i)],als:=[],meas:=fun i=>x.1.length-i.toNat}
theorem b2u:Ah G Tryz.prog 242 Ii:=
 vcFun_okP [(250,0,Jk)] [] false (fun x=>[(2,QP x)]) Tryz.func242 rfl (by decide) ⟨b2s,trivial⟩ (fun(x:List Int×List Int)=>(∀(y:Unit),True→True∧True∧True∧True)∧eA (QP x) [Ad x.1,Ad x.2,Ad x.1,.int .i64 (↑(List.length x.1):Int),.int .i64 (0:Int)]∧∀(i:Int),cmI x.1 x.2 i→Ab (decide (i<(↑(List.length x.1):Int))) (((0:Int)≤i∧i<(↑(List.length x.1):Int))∧∀(e:Int),x.1[Int.toNat i]? =some e→Ab (decide (i≥(↑(List.length x.2):Int))) (rA Ii x [.int .i64 (1:Int),.top,.top]) (((0:Int)≤i∧i<(↑(List.length x.2):Int))∧∀(e_1:Int),x.2[Int.toNat i]? =some e_1→cA Jk [.int .i64 e,.int .i64 e_1] fun x_1 y=>Ab (Fw x_1.1 x_1.2 != (0:Int)) (rA Ii x [.int .i64 (Fw x_1.1 x_1.2),.top,.top]) (inR IntKind.i64 (i+(1:Int))∧eN (QP x) i [Ad x.1,Ad x.2,Ad x.1,.int .i64 (↑(List.length x.1):Int),.int .i64 (i+(1:Int))]))) (Ab (decide ((↑(List.length x.1):Int)<(↑(List.length x.2):Int))) (rA Ii x [.int .i64 (-1:Int),.top,.top]) (rA Ii x [.int .i64 (0:Int),.top,.top]))) (fun x=>by kernel_rfl) fun(x:List Int×List Int) (hx:x.1.length<2^62∧x.2.length<2^62)=>(by
 dsimp only[cA,eA,eN,QP,Ad,rA,Jk,Ii,Aq,Aw,mvL,lnL,mvE,lnE,mvG,mvH,lnG,lnH,Ba]
 obtain⟨a,b⟩:=x;dsimp only at hx ⊢
 obtain⟨h1,h2⟩:=hx
 have hr:∀i,cmI a b i→0≤i∧i≤a.length∧i≤b.length:=fun i h=>by unfold cmI at h;exact h.1
 (repeat' first|(with_reducible first|rfl|exact True.intro|apply AG|apply And.intro|((first|apply Au|apply AE|apply Av|apply AF)<;>intro _))|(apply As<;>intro _)|apply AD|refine Af () ?_ ?_|((first|apply AK|apply AJ|apply AI|apply AH|apply AC|apply AB|apply AA|apply Az|apply Ax)<;>try dsimp only)|apply Af|(refine Prod.forall.2 ?_;intro _;try dsimp only)|(intro _;try dsimp only))
 all_goals first
  |rfl
  |exact a2b
  |exact a2c ‹_› ‹_› ‹_›
  |exact b2t ‹_› ‹_› ‹_› ‹_›
  |exact a2d ‹_› ‹_› ‹_› ‹_› ‹_› ‹_›
  |(have hq:=hr _ ‹_›;(try simp only[Aj]);omega)
  |(rw[VT ‹_› ‹_›,if_pos (by omega)];done)
  |(rw[VT ‹_› ‹_›,if_neg (by omega)];done)
  |skip)
def KJ:Sig:= {X:=List Int×List Int,args:=fun x=>[Ad x.1,Ad x.2],pre:=fun x=>x.1.length<2^62∧x.2.length<2^62,Y:=Unit,post:=fun x y=>True,res:=fun x y=> .int .i64 (Cy x.1 x.2),outs:=fun x y=>[.top,.top],keep:=false}
theorem a2e:Ah G Tryz.prog 229 KJ:=
 vcFun_okP [(242,0,Ii)] [] false (fun x=>[]) Tryz.func229 rfl (by decide) ⟨b2u,trivial⟩ (fun(x:List Int×List Int)=>(∀(y:Unit),True→True∧True∧True∧True)∧cA Ii [Ad x.1,Ad x.2] fun x_1 y=>rA KJ x [.int .i64 (Cy x_1.1 x_1.2),.top,.top]) (fun x=>by kernel_rfl) fun(x:List Int×List Int) (hx:x.1.length<2^62∧x.2.length<2^62)=>(by
 dsimp only[cA,Ad,rA,Ii,KJ,Aq,Aw,mvL,lnL,mvE,lnE,mvG,mvH,lnG,lnH]
 obtain⟨a,b⟩:=x;dsimp only at hx ⊢
 obtain⟨h1,h2⟩:=hx
 (repeat' first|(with_reducible first|rfl|exact True.intro|apply AG|apply And.intro|((first|apply Au|apply AE|apply Av|apply AF)<;>intro _))|(apply As<;>intro _)|apply AD|refine Af () ?_ ?_|((first|apply AK|apply AJ|apply AI|apply AH|apply AC|apply AB|apply AA|apply Az|apply Ax)<;>try dsimp only)|apply Af|(refine Prod.forall.2 ?_;intro _;try dsimp only)|(intro _;try dsimp only))
 all_goals first
  |rfl
  |assumption)
def KK:Sig:= {X:=List Int×Int×List Int×Int,args:=fun x=>[.agg [Ad x.1,.int .i64 x.2.1],.agg [Ad x.2.2.1,.int .i64 x.2.2.2]],pre:=fun x=>x.1.length<2^62∧x.2.2.1.length<2^62,Y:=Unit,post:=fun x y=>True,res:=fun x y=> .bool (Bt ⟨x.1,x.2.1⟩ ⟨x.2.2.1,x.2.2.2⟩),outs:=fun x y=>[.top,.top],keep:=false}
theorem a2f:Ah G Tryz.prog 227 KK:=
 vcFun_okP [(229,0,KJ)] [] false (fun x=>[]) Tryz.func227 rfl (by decide) ⟨a2e,trivial⟩ (fun(x:List Int×Int×List Int×Int)=>(∀(y:Unit),True→True∧True∧True∧True)∧Ab (decide (x.2.1<x.2.2.2)) (rA KK x [.bool true,.top,.top]) (Ab (x.2.1==x.2.2.2) (cA KJ [Ad x.1,Ad x.2.2.1] fun x_1 y=>rA KK x [.bool (decide (Cy x_1.1 x_1.2<(0:Int))),.top,.top]) (rA KK x [.bool false,.top,.top]))) (fun x=>by kernel_rfl) fun(x:List Int×Int×List Int×Int) (hx:x.1.length<2^62∧x.2.2.1.length<2^62)=>(by
 dsimp only[cA,Ad,rA,KJ,KK,Aq,Aw,mvL,lnL,mvE,lnE,mvG,mvH,lnG,lnH]
 obtain⟨a,b,c,d⟩:=x;dsimp only at hx ⊢
 obtain⟨h1,h2⟩:=hx
 (repeat' first|(with_reducible first|rfl|exact True.intro|apply AG|apply And.intro|((first|apply Au|apply AE|apply Av|apply AF)<;>intro _))|(apply As<;>intro _)|apply AD|refine Af () ?_ ?_|((first|apply AK|apply AJ|apply AI|apply AH|apply AC|apply AB|apply AA|apply Az|apply Ax)<;>try dsimp only)|apply Af|(refine Prod.forall.2 ?_;intro _;try dsimp only)|(intro _;try dsimp only))
 all_goals first
  |rfl
  |assumption
  |(simp [Bt, *];done)
  |(simp [Bt, *];omega)
  |skip)
def GX:Sig:= {X:=Int,args:=fun x=>[.int .i64 x],pre:=fun x=>0≤x∧x≤4611686018427387904,Y:=Unit,post:=fun x y=>True,res:=fun x y=> .int .i64 (abv x),outs:=fun x y=>[.top],keep:=false}
theorem b2v:Ah G Tryz.prog 243 GX:=
 vcFun_okP [] [] false (fun x=>[]) Tryz.func243 rfl (by decide) trivial (fun(x:Int)=>(∀(y:Unit),True→True∧True∧True)∧inR IntKind.i64 (x+(1:Int))∧(2:Int)≠(0:Int)∧inR IntKind.i64 (Int.tdiv (x+(1:Int)) (2:Int))∧inR IntKind.i64 (Int.tdiv (x+(1:Int)) (2:Int)-(1:Int))∧rA GX x [.int .i64 (Int.tdiv (x+(1:Int)) (2:Int)-(1:Int)),.top]) (fun x=>by kernel_rfl) fun(x:Int) (hx:0≤x∧x≤4611686018427387904)=>(by
 dsimp only[rA,GX,Aq,Aw]
 obtain⟨h1,h2⟩:=hx
 have e:(x+1).tdiv 2=(x+1)/2:=Int.tdiv_eq_ediv_of_nonneg (by omega)
 (repeat' first|(with_reducible first|rfl|exact True.intro|apply AG|apply And.intro|((first|apply Au|apply AE|apply Av|apply AF)<;>intro _))|(apply As<;>intro _)|apply AD|refine Af () ?_ ?_|((first|apply AK|apply AJ|apply AI|apply AH|apply AC|apply AB|apply AA|apply Az|apply Ax)<;>try dsimp only)|apply Af|(refine Prod.forall.2 ?_;intro _;try dsimp only)|(intro _;try dsimp only))
 all_goals first
  |rfl
  |omega
  |decide)
def CA(l:List StW):AV:= .sl true 0 2 StW stA l
def upI(l0:List StW)(x:StW)(l:List StW)(i:Int)(n:Nat):Prop:=((0≤i∧i<l.length)∧i<n)∧(l.length=l0.length+1∧∀s∈l,s∈l0∨s=x)∧sUp n l i=DA l0 x
theorem b2w{l0:List StW}{x:StW}:upI l0 x (l0++[x]) ((l0.length:Int)) (l0.length+1):=⟨⟨by simp;omega,by omega⟩,⟨by simp,fun s hs=>by simpa using hs⟩,rfl⟩
theorem b2x{l0:List StW}{x:StW}{l:List StW}{i:Int}{n:Nat}(h:upI l0 x l i n)(hi:i>0)(hl:Bt (AN l i) (AN l (abv i))=true):upI l0 x (swp l i (abv i)) (abv i) (n-1):=by
 obtain⟨⟨h1,h2⟩,⟨h3,h4⟩,h5⟩:=h
 have ha:=QC hi
 obtain⟨m,rfl⟩:∃m,n=m+1:=⟨n-1,by omega⟩
 refine⟨⟨by rw[KD];omega,by omega⟩,⟨by rw[KD];exact h3,fun s hs=>h4 s (QB (by omega) (by omega) (by omega) (by omega) hs)⟩,?_⟩
 rw[sUp,if_pos ⟨hi,hl⟩] at h5;exact h5
theorem VU{l0:List StW}{x:StW}{l:List StW}{i:Int}{n:Nat}(h:upI l0 x l i n)(hc:¬i>0∨Bt (AN l i) (AN l (abv i))=false):l=DA l0 x:=by
 obtain⟨⟨h1,h2⟩,_,h5⟩:=h
 obtain⟨m,rfl⟩:∃m,n=m+1:=⟨n-1,by omega⟩
 rw[sUp,if_neg (by rcases hc with hc|hc;exact fun hh=>hc hh.1;exact fun hh=>by rw[hc] at hh;cases hh.2)] at h5
 exact h5
theorem QQ{p:StW→Prop}(v:List Int)(n:Int)(h:p ⟨v,n⟩):∃s,p s:=⟨_,h⟩
theorem Ok{l0:List StW}{x:StW}{l:List StW}{i:Int}{n:Nat}(h:upI l0 x l i n):(0≤i∧i<l.length)∧l.length=l0.length+1∧∀s∈l,s∈l0∨s=x:=⟨h.1.1,h.2.1⟩
theorem a2g{l0:List StW}{v:List Int}{m:Int}{l:List StW}{i:Int}{n:Nat}(h:upI l0 ⟨v,m⟩ l i n)(h2:∀s∈l0,s.vals.length<2^62)(h3:v.length<2^62){k:Nat}{s:StW}(hk:l[k]? =some s):s.vals.length<2^62:=by
 rcases(Ok h).2.2 s (AZ hk) with h4|rfl
 ·exact h2 s h4
 ·exact h3
theorem b2y{l0:List StW}{x:StW}{l:List StW}{i:Int}{n:Nat}{a b:StW}(h:upI l0 x l i n)(hi:i>0)(ha:l[i.toNat]? =some a)(hb:l[(abv i).toNat]? =some b)(hl:Bt a b=true):upI l0 x ((l.set i.toNat b).set (abv i).toNat a) (abv i) (n-1):=by
 have h1:=b2x h hi (by rw[Ef ha,Ef hb];exact hl)
 rw[swp,Ef ha,Ef hb] at h1;exact h1
theorem VV{l0:List StW}{x:StW}{l:List StW}{i:Int}{n:Nat}{a b:StW}(h:upI l0 x l i n)(ha:l[i.toNat]? =some a)(hb:l[(abv i).toNat]? =some b)(hl:Bt a b=false):l=DA l0 x:=VU h (.inr (by rw[Ef ha,Ef hb];exact hl))
theorem a2h{l0:List StW}{x:StW}{l:List StW}{i:Int}{n:Nat}{a b c d:StW}(h:upI l0 x l i n)(hi:i>0)(hl:Bt a b=true)(ha:l[i.toNat]? =some a)(hb:l[(abv i).toNat]? =some b)(hc:l[i.toNat]? =some c)(hd:l[(abv i).toNat]? =some d):upI l0 x ((l.set i.toNat d).set (abv i).toNat c) (abv i) (n-1):=by
 rw[ha] at hc;rw[hb] at hd;cases hc;cases hd
 exact b2y h hi ha hb hl
theorem a2i{l0:List StW}{x:StW}:upI l0 x (l0++[x]) (((l0++[x]).length:Int)-1) (l0.length+1):=by
 have h:=b2w (l0:=l0) (x:=x)
 rw[show(((l0++[x]).length:Int)-1)=(l0.length:Int) by simp];exact h
def Ms(x:List StW×List Int×Int)(i:List StW×Int×Nat):LS:= {ι:=List StW×Unit,inv:=fun l=>upI x.1 ⟨x.2.1,x.2.2⟩ l.1 (abv i.2.1) (i.2.2-1)∧0<i.2.1,regs:=fun l=>[(0,CA l.1),(5,.int .i64 i.2.1)],als:=[],meas:=fun _=>0}
def lUp(x:List StW×List Int×Int):LS:= {ι:=List StW×Int×Nat,inv:=fun i=>upI x.1 ⟨x.2.1,x.2.2⟩ i.1 i.2.1 i.2.2,regs:=fun i=>[(0,CA i.1),(5,.int .i64 i.2.1)],als:=[],meas:=fun i=>i.2.1.toNat,sub:=fun i=>[(100005,Ms x i)]}
def dwI(l0 l:List StW)(i:Int)(n:Nat):Prop:=((0≤i∧i≤l0.length)∧(l.length:Int)≤i+n)∧(l.length=l0.length-1∧∀s∈l,s∈l0)∧sDn n l i=BI l0
theorem b2z{x:List StW}(h:0<x.length):dwI x (Hv x) 0 x.length:=by
 have h1:=a1l (f:=fun _=>0) h
 exact⟨⟨⟨by omega,by omega⟩,by omega⟩,⟨h1.2.1,h1.2.2⟩,rfl⟩
theorem a2j{x:List StW}{a:StW}(h:0<x.length)(ha:x[((x.length:Int)-1).toNat]? =some a):dwI x ((x.set 0 a).take ((x.length:Int)-1).toNat) 0 x.length:=by
 have h1:=b2z h
 rw[Hv,Ef ha] at h1
 rw[show((x.length:Int)-1).toNat=x.length-1 by omega];exact h1
theorem Jl{l0 l:List StW}{i:Int}{n:Nat}(h:dwI l0 l i n):(0≤i∧i≤l0.length)∧l.length=l0.length-1:=⟨h.1.1,h.2.1.1⟩
theorem a2k{l0 l:List StW}{i:Int}{n:Nat}(h:dwI l0 l i n)(h2:∀s∈l0,s.vals.length<2^62){k:Nat}{s:StW}(hk:l[k]? =some s):s.vals.length<2^62:=h2 s (h.2.1.2 s (AZ hk))
theorem b2A{l0 l:List StW}{i:Int}{n:Nat}(h:dwI l0 l i n)(hi:2*i+1<l.length)(hl:Bt (AN l (dnK l i)) (AN l i)=true):dwI l0 (swp l i (dnK l i)) (dnK l i) (n-1):=by
 obtain⟨⟨h1,h2⟩,⟨h3,h4⟩,h5⟩:=h
 have ha:=Mm h1.1 hi
 obtain⟨m,rfl⟩:∃m,n=m+1:=⟨n-1,by omega⟩
 refine⟨⟨⟨by omega,by omega⟩,by rw[KD];omega⟩,⟨by rw[KD];exact h3,fun s hs=>h4 s (QB (by omega) (by omega) (by omega) (by omega) hs)⟩,?_⟩
 rw[sDn,if_pos ⟨hi,hl⟩] at h5;exact h5
theorem VW{l0 l:List StW}{i:Int}{n:Nat}(h:dwI l0 l i n)(hc:¬2*i+1<l.length∨Bt (AN l (dnK l i)) (AN l i)=false):l=BI l0:=by
 obtain⟨⟨h1,h2⟩,_,h5⟩:=h
 match n,h5 with
 |0,h5=>exact h5
 |m+1,h5=>
  rw[sDn,if_neg (by rcases hc with hc|hc;exact fun hh=>hc hh.1;exact fun hh=>by rw[hc] at hh;cases hh.2)] at h5
  exact h5
theorem a2l{l:List StW}{i:Int}{a b:StW}(h:2*i+1+1<l.length)(hs:Bt a b=true)(ha:l[(2*i+1+1).toNat]? =some a)(hb:l[(2*i+1).toNat]? =some b):2*i+1+1=dnK l i:=by
 rw[dnK,if_pos ⟨h,by rw[Ef ha,Ef hb];exact hs⟩]
theorem a2m{l:List StW}{i:Int}{a b:StW}(hs:Bt a b=false)(ha:l[(2*i+1+1).toNat]? =some a)(hb:l[(2*i+1).toNat]? =some b):2*i+1=dnK l i:=by
 rw[dnK,if_neg (fun h=>by rw[Ef ha,Ef hb] at h;rw[hs] at h;cases h.2)]
theorem a2n{l:List StW}{i:Int}(h:¬2*i+1+1<l.length):2*i+1=dnK l i:=by rw[dnK,if_neg (fun hh=>h hh.1)]
theorem QR{l:List StW}{a:StW}(h:l[0]? =some a):AN l 0=a:=Ef (i:=0) h
theorem a2o{l0 l:List StW}{i:Int}{n:Nat}{a b c d:StW}(h:dwI l0 l i n)(hi:0≤i∧2*i+1<l.length)(hl:Bt a b=true)(ha:l[(dnK l i).toNat]? =some a)(hb:l[i.toNat]? =some b)(hc:l[(dnK l i).toNat]? =some c)(hd:l[i.toNat]? =some d):dwI l0 ((l.set i.toNat c).set (dnK l i).toNat d) (dnK l i) (n-1):=by
 rw[ha] at hc;rw[hb] at hd;cases hc;cases hd
 have h1:=b2A h hi.2 (by rw[Ef ha,Ef hb];exact hl)
 rw[swp,Ef ha,Ef hb] at h1;exact h1
theorem a2p{l0 l:List StW}{i:Int}{n:Nat}{a b:StW}(h:dwI l0 l i n)(hl:Bt a b=false)(ha:l[(dnK l i).toNat]? =some a)(hb:l[i.toNat]? =some b):l=BI l0:=VW h (.inr (by rw[Ef ha,Ef hb];exact hl))
def QS(x:List StW)(i:List StW×Int×Nat):LS:= {ι:=List StW×Unit,inv:=fun l=>dwI x l.1 (dnK i.1 i.2.1) (i.2.2-1)∧(0≤i.2.1∧2*i.2.1+1<i.1.length),regs:=fun l=>[(0,CA l.1),(3,.box 0 (stA st0)),(4,.box 0 (stA (AN x 0))),(6,.int .i64 i.2.1),(7,.int .i64 (dnK i.1 i.2.1))],als:=[],meas:=fun _=>0}
def Ol(x:List StW)(i:List StW×Int×Nat):LS:= {ι:=Unit,inv:=fun _=>0≤i.2.1∧2*i.2.1+1<i.1.length,regs:=fun _=>[(0,CA i.1),(3,.box 0 (stA st0)),(4,.box 0 (stA (AN x 0))),(6,.int .i64 i.2.1),(7,.int .i64 (dnK i.1 i.2.1))],als:=[],meas:=fun _=>0}
def lDn(x:List StW):LS:= {ι:=List StW×Int×Nat,inv:=fun i=>dwI x i.1 i.2.1 i.2.2,regs:=fun i=>[(0,CA i.1),(3,.box 0 (stA st0)),(4,.box 0 (stA (AN x 0))),(6,.int .i64 i.2.1)],als:=[],meas:=fun i=>i.1.length-i.2.1.toNat,sub:=fun i=>[(200009,Ol x i),(100010,QS x i)]}
def VX(x:List StW):LS:= {ι:=Unit,inv:=fun _=>True,regs:=fun _=>[(2,CA (BI x)),(3,.box 0 (stA (AN x 0)))],als:=[],meas:=fun _=>0}
attribute [local irreducible] upI dwI Bt abv DA BI dnK
def KL:Sig:= {X:=List StW×List Int×Int,args:=fun x=>[CA x.1,.agg [Ad x.2.1,.int .i64 x.2.2]],pre:=fun x=>x.1.length<2^40∧(∀s∈x.1,s.vals.length<2^62)∧x.2.1.length<2^62,Y:=Unit,post:=fun x y=>True,res:=fun x y=>CA (DA x.1 ⟨x.2.1,x.2.2⟩),outs:=fun x y=>[.top,.top],keep:=true}
theorem b2B:Ah G Tryz.prog 232 KL:=
 vcFun_okP [(243,0,GX),(227,0,KK)] [(174,⟨StW,stA⟩)] false (fun x=>[(3,lUp x)]) Tryz.func232 rfl (by decide) ⟨b2v,a2f,trivial⟩ (fun(x:List StW×List Int×Int)=>True∧∃(x_1:StW),Ad x.2.1=Ad x_1.vals∧x.2.2=x_1.sum∧∃(zs:List StW),AV.sl true 0 2 StW stA [x_1]=AV.sl true 0 2 StW stA zs∧Bg stA∧AY (List.length x.1+List.length zs) (32:Nat)∧inR IntKind.i64 ((↑(List.length (x.1++zs)):Int)-(1:Int))∧eA (lUp x) [AV.sl true 0 2 StW stA (x.1++zs),.int .i64 ((↑(List.length (x.1++zs)):Int)-(1:Int))]∧∀(i:List StW×Int×Nat),upI x.1 {vals:=x.2.1,sum:=x.2.2} i.1 i.2.1 i.2.2→true=true∧true=true∧Ab (decide (i.2.1>(0:Int))) (((0:Int)≤i.2.1∧i.2.1<(↑(List.length i.1):Int))∧Int.toNat i.2.1<List.length i.1∧∀(x_2:StW),i.1[Int.toNat i.2.1]? =some x_2→∃(x_3:Int),((0:Int)≤x_3∧x_3≤(4611686018427387904:Int))∧i.2.1=x_3∧∃(y0:Unit),(∀(y:Unit),True→AV.int IntKind.i64 (abv x_3)=AV.int IntKind.i64 (abv x_3))∧true=true∧((0:Int)≤abv x_3∧abv x_3<(↑(List.length i.1):Int))∧Int.toNat (abv x_3)<List.length i.1∧∀(x_4:StW),i.1[Int.toNat (abv x_3)]? =some x_4→∃(x_5:List Int×Int×List Int×Int),(List.length x_5.1<(4611686018427387904:Nat)∧List.length x_5.2.2.1<(4611686018427387904:Nat))∧Ad x_2.vals=Ad x_5.1∧x_2.sum=x_5.2.1∧Ad x_4.vals=Ad x_5.2.2.1∧x_4.sum=x_5.2.2.2∧∃(y0:Unit),(∀(y:Unit),True→AV.bool (Bt {vals:=x_5.1,sum:=x_5.2.1} {vals:=x_5.2.2.1,sum:=x_5.2.2.2})=AV.bool (Bt {vals:=x_5.1,sum:=x_5.2.1} {vals:=x_5.2.2.1,sum:=x_5.2.2.2}))∧true=true∧Ab (Bt {vals:=x_5.1,sum:=x_5.2.1} {vals:=x_5.2.2.1,sum:=x_5.2.2.2}) (true=true∧(((0:Int)≤i.2.1∧i.2.1<(↑(List.length i.1):Int))∧(cA GX [.int .i64 i.2.1] fun x_6 y=>(cA GX [.int .i64 i.2.1] fun x_7 y=>((0:Int)≤abv x_7∧abv x_7<(↑(List.length i.1):Int))∧(Int.toNat (abv x_7)<List.length i.1∧∀(x_8:StW),i.1[Int.toNat (abv x_7)]? =some x_8→Int.toNat i.2.1<List.length i.1∧∀(x_9:StW),i.1[Int.toNat i.2.1]? =some x_9→((0:Int)≤i.2.1∧i.2.1<(↑(List.length i.1):Int))∧Int.toNat i.2.1<List.length i.1∧∀(x_10:StW),i.1[Int.toNat i.2.1]? =some x_10→∃(x':StW),((@List.nil AV)=[]∧(@List.nil AV)=[])∧Ad x_8.vals=Ad x'.vals∧x_8.sum=x'.sum∧((0:Int)≤abv x_6∧abv x_6<(↑(List.length (List.set i.1 (Int.toNat i.2.1) x')):Int))∧Int.toNat (abv x_6)<List.length (List.set i.1 (Int.toNat i.2.1) x')∧∀(x_11:StW),(List.set i.1 (Int.toNat i.2.1) x')[Int.toNat (abv x_6)]? =some x_11→∃(x'_1:StW),((@List.nil AV)=[]∧(@List.nil AV)=[])∧Ad x_9.vals=Ad x'_1.vals∧x_9.sum=x'_1.sum∧(true=true∧(eA (Ms x i) [AV.sl true 0 2 StW stA (List.set (List.set i.1 (Int.toNat i.2.1) x') (Int.toNat (abv x_6)) x'_1),.int .i64 i.2.1])))∧Int.toNat i.2.1<List.length i.1∧∀(x_8:StW),i.1[Int.toNat i.2.1]? =some x_8→Int.toNat (abv x_7)<List.length i.1∧∀(x_9:StW),i.1[Int.toNat (abv x_7)]? =some x_9→((0:Int)≤i.2.1∧i.2.1<(↑(List.length i.1):Int))∧Int.toNat i.2.1<List.length i.1∧∀(x_10:StW),i.1[Int.toNat i.2.1]? =some x_10→∃(x':StW),((@List.nil AV)=[]∧(@List.nil AV)=[])∧Ad x_9.vals=Ad x'.vals∧x_9.sum=x'.sum∧((0:Int)≤abv x_6∧abv x_6<(↑(List.length (List.set i.1 (Int.toNat i.2.1) x')):Int))∧Int.toNat (abv x_6)<List.length (List.set i.1 (Int.toNat i.2.1) x')∧∀(x_11:StW),(List.set i.1 (Int.toNat i.2.1) x')[Int.toNat (abv x_6)]? =some x_11→∃(x'_1:StW),((@List.nil AV)=[]∧(@List.nil AV)=[])∧Ad x_8.vals=Ad x'_1.vals∧x_8.sum=x'_1.sum∧(true=true∧(eA (Ms x i) [AV.sl true 0 2 StW stA (List.set (List.set i.1 (Int.toNat i.2.1) x') (Int.toNat (abv x_6)) x'_1),.int .i64 i.2.1])))∧Int.toNat i.2.1<List.length i.1∧∀(x_7:StW),i.1[Int.toNat i.2.1]? =some x_7→cA GX [.int .i64 i.2.1] fun x_8 y=>((0:Int)≤abv x_8∧abv x_8<(↑(List.length i.1):Int))∧Int.toNat (abv x_8)<List.length i.1∧∀(x_9:StW),i.1[Int.toNat (abv x_8)]? =some x_9→((0:Int)≤i.2.1∧i.2.1<(↑(List.length i.1):Int))∧Int.toNat i.2.1<List.length i.1∧∀(x_10:StW),i.1[Int.toNat i.2.1]? =some x_10→∃(x':StW),((@List.nil AV)=[]∧(@List.nil AV)=[])∧Ad x_9.vals=Ad x'.vals∧x_9.sum=x'.sum∧((0:Int)≤abv x_6∧abv x_6<(↑(List.length (List.set i.1 (Int.toNat i.2.1) x')):Int))∧Int.toNat (abv x_6)<List.length (List.set i.1 (Int.toNat i.2.1) x')∧∀(x_11:StW),(List.set i.1 (Int.toNat i.2.1) x')[Int.toNat (abv x_6)]? =some x_11→∃(x'_1:StW),((@List.nil AV)=[]∧(@List.nil AV)=[])∧Ad x_7.vals=Ad x'_1.vals∧x_7.sum=x'_1.sum∧(true=true∧(eA (Ms x i) [AV.sl true 0 2 StW stA (List.set (List.set i.1 (Int.toNat i.2.1) x') (Int.toNat (abv x_6)) x'_1),.int .i64 i.2.1])))∧Int.toNat i.2.1<List.length i.1∧∀(x_6:StW),i.1[Int.toNat i.2.1]? =some x_6→cA GX [.int .i64 i.2.1] fun x_7 y=>cA GX [.int .i64 i.2.1] fun x_8 y=>((0:Int)≤abv x_8∧abv x_8<(↑(List.length i.1):Int))∧Int.toNat (abv x_8)<List.length i.1∧∀(x_9:StW),i.1[Int.toNat (abv x_8)]? =some x_9→((0:Int)≤i.2.1∧i.2.1<(↑(List.length i.1):Int))∧Int.toNat i.2.1<List.length i.1∧∀(x_10:StW),i.1[Int.toNat i.2.1]? =some x_10→∃(x':StW),((@List.nil AV)=[]∧(@List.nil AV)=[])∧Ad x_9.vals=Ad x'.vals∧x_9.sum=x'.sum∧((0:Int)≤abv x_7∧abv x_7<(↑(List.length (List.set i.1 (Int.toNat i.2.1) x')):Int))∧Int.toNat (abv x_7)<List.length (List.set i.1 (Int.toNat i.2.1) x')∧∀(x_11:StW),(List.set i.1 (Int.toNat i.2.1) x')[Int.toNat (abv x_7)]? =some x_11→∃(x'_1:StW),((@List.nil AV)=[]∧(@List.nil AV)=[])∧Ad x_6.vals=Ad x'_1.vals∧x_6.sum=x'_1.sum∧true=true∧eA (Ms x i) [AV.sl true 0 2 StW stA (List.set (List.set i.1 (Int.toNat i.2.1) x') (Int.toNat (abv x_7)) x'_1),.int .i64 i.2.1])∧∀(i_1:List StW×Unit),upI x.1 {vals:=x.2.1,sum:=x.2.2} i_1.1 (abv i.2.1) (i.2.2-(1:Nat))∧(0:Int)<i.2.1→cA GX [.int .i64 i.2.1] fun x_6 y=>eN (lUp x) i [AV.sl true 0 2 StW stA i_1.1,.int .i64 (abv x_6)]) (rA KL x [AV.sl true 0 2 StW stA i.1,.top,.top])) (rA KL x [AV.sl true 0 2 StW stA i.1,.top,.top])) (fun x=>by kernel_rfl) fun(x:List StW×List Int×Int) (hx:x.1.length<2^40∧(∀s∈x.1,s.vals.length<2^62)∧x.2.1.length<2^62)=>(by
 dsimp only[cA,eA,eN,Ad,lUp,Ms,CA,rA,GX,KL,Ht,Aq,Aw,mvL,lnL,mvE,lnE,mvG,mvH,lnG,lnH,Ba]
 obtain⟨l0,v,n⟩:=x;dsimp only at hx ⊢
 obtain⟨h1,h2,h3⟩:=hx
 (repeat' first|(apply QQ<;>try dsimp only)|(with_reducible first|rfl|exact True.intro|apply AG|apply And.intro|((first|apply Au|apply AE|apply Av|apply AF)<;>intro _))|(apply As<;>intro _)|apply AD|refine Af () ?_ ?_|((first|apply AK|apply AJ|apply AI|apply AH|apply AC|apply AB|apply AA|apply Az|apply Ax)<;>try dsimp only)|apply Af|(refine Prod.forall.2 ?_;intro _;try dsimp only)|(intro _;try dsimp only))
 all_goals(try(repeat(rename(_:List StW)[_]? =some _=>hq;revert hq;rename(_:List StW)[_]? =some _=>hr;intro hq;rw[hr] at hq;cases hq)))
 all_goals first
  |rfl
  |assumption
  |omega
  |(unfold AY;simp only[List.length_append,List.length_singleton];omega)
  |(simp only[List.length_append,List.length_singleton];omega)
  |(have hb:=Ok (show upI _ _ _ _ _ by assumption);have ha:=QC ‹_›;(try rw[List.length_set]);omega)
  |(have hb:=Ok (show upI _ _ _ _ _ by assumption);omega)
  |exact a2g ‹_› h2 h3 ‹_›
  |exact a2i
  |exact(show upI _ _ _ _ _∧_ by assumption).1
  |exact a2h ‹_› ‹_› (show Bt _ _=true by assumption) ‹_› ‹_› ‹_› ‹_›
  |exact congrArg CA (VV ‹_› ‹_› ‹_› ‹_›)
  |exact VV ‹_› ‹_› ‹_› ‹_›
  |exact(VU ‹_› (.inl ‹_›))
  |exact()
  |skip)
def QT:Sig:= {X:=List StW×Unit,args:=fun x=>[CA x.1],pre:=fun x=>0<x.1.length∧x.1.length<2^40∧(∀s∈x.1,s.vals.length<2^62),Y:=Unit,post:=fun x y=>True,res:=fun x y=> .tup [CA (BI x.1),.agg (stA (AN x.1 0))],outs:=fun x y=>[.top],keep:=true}
def VY(x:List StW×Unit)(i:List StW×Int×Nat):Prop:=true=true∧((true=true∧(eA (VX x.1) [AV.sl true 0 2 StW stA i.1,.box 0 [Ad (AN x.1 (0:Int)).vals,.int .i64 (AN x.1 (0:Int)).sum]]))∧(∀(i:Unit),True→∃(y:Unit),True∧AV.sl true 0 2 StW stA (BI x.1)=AV.sl true 0 2 StW stA (BI x.1)∧Ad (AN x.1 (0:Int)).vals=Ad (AN x.1 (0:Int)).vals∧(AN x.1 (0:Int)).sum=(AN x.1 (0:Int)).sum∧True))
theorem b2C:Ah G Tryz.prog 217 QT:=
 vcFun_okP [(227,0,KK)] [(174,⟨StW,stA⟩)] false (fun x=>[(5,lDn x.1),(100012,VX x.1)]) Tryz.func217 rfl (by decide) ⟨a2f,trivial⟩ (fun(x:List StW×Unit)=>True∧((0:Int)≤(0:Int)∧(0:Int)<(↑(List.length x.1):Int))∧(0:Nat)<List.length x.1∧∀(x_1:StW),x.1[(0:Nat)]? =some x_1→inR IntKind.i64 ((↑(List.length x.1):Int)-(1:Int))∧((0:Int)≤(↑(List.length x.1):Int)-(1:Int)∧(↑(List.length x.1):Int)-(1:Int)<(↑(List.length x.1):Int))∧Int.toNat ((↑(List.length x.1):Int)-(1:Int))<List.length x.1∧∀(x_2:StW),x.1[Int.toNat ((↑(List.length x.1):Int)-(1:Int))]? =some x_2→((0:Int)≤(0:Int)∧(0:Int)<(↑(List.length x.1):Int))∧(0:Nat)<List.length x.1∧∀(x_3:StW),x.1[(0:Nat)]? =some x_3→∃(x':StW),((@List.nil AV)=[]∧(@List.nil AV)=[])∧Ad x_2.vals=Ad x'.vals∧x_2.sum=x'.sum∧((0:Int)≤(0:Int)∧(0:Int)≤(↑(List.length x.1):Int)-(1:Int)∧(↑(List.length x.1):Int)-(1:Int)≤(↑(List.length (List.set x.1 (0:Nat) x')):Int))∧eA (lDn x.1) [AV.sl true 0 2 StW stA (List.take (Int.toNat ((↑(List.length x.1):Int)-(1:Int))) (List.set x.1 (0:Nat) x')),.box 0 [.nil,.int .i64 (0:Int)],.box 0 [Ad x_1.vals,.int .i64 x_1.sum],.int .i64 (0:Int)]∧∀(i:List StW×Int×Nat),dwI x.1 i.1 i.2.1 i.2.2→inR IntKind.i64 ((2:Int)*i.2.1)∧inR IntKind.i64 ((2:Int)*i.2.1+(1:Int))∧Ab (decide ((2:Int)*i.2.1+(1:Int)<(↑(List.length i.1):Int))) (inR IntKind.i64 ((2:Int)*i.2.1)∧inR IntKind.i64 ((2:Int)*i.2.1+(1:Int))∧(true=true∧true=true∧inR IntKind.i64 ((2:Int)*i.2.1+(1:Int)+(1:Int))∧Ab (decide ((2:Int)*i.2.1+(1:Int)+(1:Int)<(↑(List.length i.1):Int))) (inR IntKind.i64 ((2:Int)*i.2.1+(1:Int)+(1:Int))∧((0:Int)≤(2:Int)*i.2.1+(1:Int)+(1:Int)∧(2:Int)*i.2.1+(1:Int)+(1:Int)<(↑(List.length i.1):Int))∧Int.toNat ((2:Int)*i.2.1+(1:Int)+(1:Int))<List.length i.1∧∀(x_4:StW),i.1[Int.toNat ((2:Int)*i.2.1+(1:Int)+(1:Int))]? =some x_4→((0:Int)≤(2:Int)*i.2.1+(1:Int)∧(2:Int)*i.2.1+(1:Int)<(↑(List.length i.1):Int))∧Int.toNat ((2:Int)*i.2.1+(1:Int))<List.length i.1∧∀(x_5:StW),i.1[Int.toNat ((2:Int)*i.2.1+(1:Int))]? =some x_5→∃(x_6:List Int×Int×List Int×Int),(List.length x_6.1<(4611686018427387904:Nat)∧List.length x_6.2.2.1<(4611686018427387904:Nat))∧Ad x_4.vals=Ad x_6.1∧x_4.sum=x_6.2.1∧Ad x_5.vals=Ad x_6.2.2.1∧x_5.sum=x_6.2.2.2∧∃(y0:Unit),(∀(y:Unit),True→AV.bool (Bt {vals:=x_6.1,sum:=x_6.2.1} {vals:=x_6.2.2.1,sum:=x_6.2.2.2})=AV.bool (Bt {vals:=x_6.1,sum:=x_6.2.1} {vals:=x_6.2.2.1,sum:=x_6.2.2.2}))∧true=true∧Ab (Bt {vals:=x_6.1,sum:=x_6.2.1} {vals:=x_6.2.2.1,sum:=x_6.2.2.2}) (inR IntKind.i64 ((2:Int)*i.2.1+(1:Int)+(1:Int))∧eA (Ol x.1 i) [AV.sl true 0 2 StW stA i.1,.box 0 [Ad st0.vals,.int .i64 st0.sum],.box 0 [Ad (AN x.1 (0:Int)).vals,.int .i64 (AN x.1 (0:Int)).sum],.int .i64 i.2.1,.int .i64 ((2:Int)*i.2.1+(1:Int)+(1:Int))]) (eA (Ol x.1 i) [AV.sl true 0 2 StW stA i.1,.box 0 [Ad st0.vals,.int .i64 st0.sum],.box 0 [Ad (AN x.1 (0:Int)).vals,.int .i64 (AN x.1 (0:Int)).sum],.int .i64 i.2.1,.int .i64 ((2:Int)*i.2.1+(1:Int))])) (eA (Ol x.1 i) [AV.sl true 0 2 StW stA i.1,.box 0 [Ad st0.vals,.int .i64 st0.sum],.box 0 [Ad (AN x.1 (0:Int)).vals,.int .i64 (AN x.1 (0:Int)).sum],.int .i64 i.2.1,.int .i64 ((2:Int)*i.2.1+(1:Int))]))∧∀(i_1:Unit),(0:Int)≤i.2.1∧(2:Int)*i.2.1+(1:Int)<(↑(List.length i.1):Int)→true=true∧true=true∧((0:Int)≤dnK i.1 i.2.1∧dnK i.1 i.2.1<(↑(List.length i.1):Int))∧Int.toNat (dnK i.1 i.2.1)<List.length i.1∧∀(x_4:StW),i.1[Int.toNat (dnK i.1 i.2.1)]? =some x_4→((0:Int)≤i.2.1∧i.2.1<(↑(List.length i.1):Int))∧Int.toNat i.2.1<List.length i.1∧∀(x_5:StW),i.1[Int.toNat i.2.1]? =some x_5→∃(x_6:List Int×Int×List Int×Int),(List.length x_6.1<(4611686018427387904:Nat)∧List.length x_6.2.2.1<(4611686018427387904:Nat))∧Ad x_4.vals=Ad x_6.1∧x_4.sum=x_6.2.1∧Ad x_5.vals=Ad x_6.2.2.1∧x_5.sum=x_6.2.2.2∧∃(y0:Unit),(∀(y:Unit),True→AV.bool (Bt {vals:=x_6.1,sum:=x_6.2.1} {vals:=x_6.2.2.1,sum:=x_6.2.2.2})=AV.bool (Bt {vals:=x_6.1,sum:=x_6.2.1} {vals:=x_6.2.2.1,sum:=x_6.2.2.2}))∧true=true∧Ab (!Bt {vals:=x_6.1,sum:=x_6.2.1} {vals:=x_6.2.2.1,sum:=x_6.2.2.2}) (VY x i) (true=true∧(((0:Int)≤dnK i.1 i.2.1∧dnK i.1 i.2.1<(↑(List.length i.1):Int))∧((0:Int)≤i.2.1∧i.2.1<(↑(List.length i.1):Int))∧(Int.toNat (dnK i.1 i.2.1)<List.length i.1∧∀(x_7:StW),i.1[Int.toNat (dnK i.1 i.2.1)]? =some x_7→Int.toNat i.2.1<List.length i.1∧∀(x_8:StW),i.1[Int.toNat i.2.1]? =some x_8→((0:Int)≤i.2.1∧i.2.1<(↑(List.length i.1):Int))∧Int.toNat i.2.1<List.length i.1∧∀(x_9:StW),i.1[Int.toNat i.2.1]? =some x_9→∃(x':StW),((@List.nil AV)=[]∧(@List.nil AV)=[])∧Ad x_7.vals=Ad x'.vals∧x_7.sum=x'.sum∧((0:Int)≤dnK i.1 i.2.1∧dnK i.1 i.2.1<(↑(List.length (List.set i.1 (Int.toNat i.2.1) x')):Int))∧Int.toNat (dnK i.1 i.2.1)<List.length (List.set i.1 (Int.toNat i.2.1) x')∧∀(x_10:StW),(List.set i.1 (Int.toNat i.2.1) x')[Int.toNat (dnK i.1 i.2.1)]? =some x_10→∃(x'_1:StW),((@List.nil AV)=[]∧(@List.nil AV)=[])∧Ad x_8.vals=Ad x'_1.vals∧x_8.sum=x'_1.sum∧(true=true∧(eA (QS x.1 i) [AV.sl true 0 2 StW stA (List.set (List.set i.1 (Int.toNat i.2.1) x') (Int.toNat (dnK i.1 i.2.1)) x'_1),.box 0 [Ad st0.vals,.int .i64 st0.sum],.box 0 [Ad (AN x.1 (0:Int)).vals,.int .i64 (AN x.1 (0:Int)).sum],.int .i64 i.2.1,.int .i64 (dnK i.1 i.2.1)])))∧Int.toNat i.2.1<List.length i.1∧∀(x_7:StW),i.1[Int.toNat i.2.1]? =some x_7→Int.toNat (dnK i.1 i.2.1)<List.length i.1∧∀(x_8:StW),i.1[Int.toNat (dnK i.1 i.2.1)]? =some x_8→((0:Int)≤i.2.1∧i.2.1<(↑(List.length i.1):Int))∧Int.toNat i.2.1<List.length i.1∧∀(x_9:StW),i.1[Int.toNat i.2.1]? =some x_9→∃(x':StW),((@List.nil AV)=[]∧(@List.nil AV)=[])∧Ad x_8.vals=Ad x'.vals∧x_8.sum=x'.sum∧((0:Int)≤dnK i.1 i.2.1∧dnK i.1 i.2.1<(↑(List.length (List.set i.1 (Int.toNat i.2.1) x')):Int))∧Int.toNat (dnK i.1 i.2.1)<List.length (List.set i.1 (Int.toNat i.2.1) x')∧∀(x_10:StW),(List.set i.1 (Int.toNat i.2.1) x')[Int.toNat (dnK i.1 i.2.1)]? =some x_10→∃(x'_1:StW),((@List.nil AV)=[]∧(@List.nil AV)=[])∧Ad x_7.vals=Ad x'_1.vals∧x_7.sum=x'_1.sum∧(true=true∧(eA (QS x.1 i) [AV.sl true 0 2 StW stA (List.set (List.set i.1 (Int.toNat i.2.1) x') (Int.toNat (dnK i.1 i.2.1)) x'_1),.box 0 [Ad st0.vals,.int .i64 st0.sum],.box 0 [Ad (AN x.1 (0:Int)).vals,.int .i64 (AN x.1 (0:Int)).sum],.int .i64 i.2.1,.int .i64 (dnK i.1 i.2.1)])))∧∀(i_2:List StW×Unit),dwI x.1 i_2.1 (dnK i.1 i.2.1) (i.2.2-(1:Nat))∧(0:Int)≤i.2.1∧(2:Int)*i.2.1+(1:Int)<(↑(List.length i.1):Int)→eN (lDn x.1) i [AV.sl true 0 2 StW stA i_2.1,.box 0 [Ad st0.vals,.int .i64 st0.sum],.box 0 [Ad (AN x.1 (0:Int)).vals,.int .i64 (AN x.1 (0:Int)).sum],.int .i64 (dnK i.1 i.2.1)])) (VY x i)) (fun x=>by kernel_rfl) fun(x:List StW×Unit) (hx:0<x.1.length∧x.1.length<2^40∧(∀s∈x.1,s.vals.length<2^62))=>(by
 dsimp only[VY,eA,eN,Ad,lDn,QS,VX,Ol,CA,Ht,Aq,Aw,Ba]
 obtain⟨x,_⟩:=x;dsimp only at hx ⊢
 obtain⟨h1,h2,h3⟩:=hx
 have h64:(x.length:Int)<2^40:=by omega
 (repeat' first|(apply QQ<;>try dsimp only)|(with_reducible first|rfl|exact True.intro|apply AG|apply And.intro|((first|apply Au|apply AE|apply Av|apply AF)<;>intro _))|(apply As<;>intro _)|apply AD|refine Af () ?_ ?_|((first|apply AK|apply AJ|apply AI|apply AH|apply AC|apply AB|apply AA|apply Az|apply Ax)<;>try dsimp only)|apply Af|(refine Prod.forall.2 ?_;intro _;try dsimp only)|(intro _;try dsimp only))
 all_goals first
  |with_reducible rfl
  |with_reducible assumption
  |omega
  |(simp only[Aj,List.length_set] at*;omega)
  |exact()
  |exact a2j h1 (by with_reducible assumption)
  |exact(show st0.vals=[] from rfl)
  |exact(show(0:Int)=st0.sum from rfl)
  |exact congrArg StW.vals (QR (by with_reducible assumption)).symm
  |exact congrArg StW.sum (QR (by with_reducible assumption)).symm
  |exact a2l (by with_reducible assumption) (show Bt _ _=true by with_reducible assumption) (by with_reducible assumption) (by with_reducible assumption)
  |exact a2m (show Bt _ _=false by with_reducible assumption) (by with_reducible assumption) (by with_reducible assumption)
  |exact a2n (by with_reducible assumption)
  |(rename 0≤_∧2*_+1<_=>hq;have ha:=Mm hq.1 hq.2;(try rw[List.length_set]);omega)
  |exact a2o (by with_reducible assumption) (by with_reducible assumption) (show Bt _ _=true by with_reducible assumption) (by with_reducible assumption) (by with_reducible assumption) (by with_reducible assumption) (by with_reducible assumption)
  |exact(show dwI _ _ _ _∧_ by with_reducible assumption).1
  |exact a2p (by with_reducible assumption) (show Bt _ _=false by with_reducible assumption) (by with_reducible assumption) (by with_reducible assumption)
  |exact VW (by with_reducible assumption) (.inl (by with_reducible assumption))
  |(have hb:=Jl (show dwI _ _ _ _ by with_reducible assumption);(try simp only[Aj]);omega)
  |exact a2k (by with_reducible assumption) h3 (by with_reducible assumption)
  |(rename dwI _ _ _ _∧_=>hq;have hb:=Jl hq.1;have hc:=Jl (show dwI _ _ _ _ by with_reducible assumption);have ha:=Mm hq.2.1 hq.2.2;omega)
  |skip)
end Go.My
end
section
namespace Go.My
open Go.Eng Go.Proofs
variable {G:GInv}
theorem a2q{v:List Int}{t:Ti}(h:inn t.kid 0 ((v.length:Int)-1)=false):Ff v t=true:=by simp [Ff,h]
theorem a2r{v:List Int}{t:Ti}(h:inn t.up 0 ((v.length:Int)-1)=false):Ff v t=true:=by simp [Ff,h]
theorem a2s{v:List Int}{t:Ti}{a:Int}(ha:v[t.kid.toNat]? =some a)(h:¬a>0):Ff v t=true:=by
 have:vAt v t.kid=a:=by simp [vAt,List.getD,ha]
 simp [Ff,this];omega
theorem a2t{v:List Int}{t:Ti}{a:Int}(ha:v[t.up.toNat]? =some a)(h:¬a=0):Ff v t=true:=by
 have:vAt v t.up=a:=by simp [vAt,List.getD,ha]
 simp [Ff,this];omega
theorem a2u{v:List Int}{t:Ti}{a b:Int}(h1:inn t.kid 0 ((v.length:Int)-1)=true)(h2:inn t.up 0 ((v.length:Int)-1)=true)(ha:v[t.kid.toNat]? =some a)(hb:v[t.up.toNat]? =some b)(h:a>0)(h0:b=0):Ff v t=false:=by
 have e1:vAt v t.kid=a:=by simp [vAt,List.getD,ha]
 have e2:vAt v t.up=b:=by simp [vAt,List.getD,hb]
 simp [Ff,h1,h2,e1,e2,h0];omega
theorem QU{v:List Int}{k:Int}(h:inn k 0 ((v.length:Int)-1)=true):(0≤k∧k<v.length)∧k.toNat<v.length:=by
 have:=BA.1 h;exact⟨by omega,by omega⟩
def KM:Sig:= {X:=Pc×List Int,args:=fun x=>[.agg (pcA false x.1),Ad x.2],pre:=fun x=>x.1.ties.length≤2^40∧x.2.length≤2^40,Y:=Unit,post:=fun x y=>True,res:=fun x y=> .bool (KB x.1 x.2),outs:=fun x y=>[.top,.top],keep:=false}
def KN(x:Pc×List Int):LS:= {ι:=Int,inv:=fun i=>Bx (Ff x.2) x.1.ties i,regs:=fun i=>[(1,Ad x.2),(8,tis x.1.ties),(9,.int .i64 x.1.ties.length),(10,.int .i64 i)],als:=[],meas:=fun i=>x.1.ties.length-i.toNat}
theorem b2D:Ah G Tryz.prog 231 KM:=
 vcFun_okP [(36,0,BN)] [] false (fun x=>[(2,KN x)]) Tryz.func231 rfl (by decide) ⟨GM,trivial⟩ (fun(x:Pc×List Int)=>(∀(y:Unit),True→True∧True∧True∧True)∧eA (KN x) [Ad x.2,AV.sl false 0 2 Ti tiA x.1.ties,.int .i64 (↑(List.length x.1.ties):Int),.int .i64 (0:Int)]∧∀(i:Int),Bx (Ff x.2) x.1.ties i→Ab (decide (i<(↑(List.length x.1.ties):Int))) (((0:Int)≤i∧i<(↑(List.length x.1.ties):Int))∧∀(e:Ti),x.1.ties[Int.toNat i]? =some e→inR IntKind.i64 ((↑(List.length x.2):Int)-(1:Int))∧cA BN [.int .i64 e.kid,.int .i64 (0:Int),.int .i64 ((↑(List.length x.2):Int)-(1:Int))] fun x_1 y=>Ab (!inn x_1.1 x_1.2.1 x_1.2.2) (inR IntKind.i64 (i+(1:Int))∧(eN (KN x) i [Ad x.2,AV.sl false 0 2 Ti tiA x.1.ties,.int .i64 (↑(List.length x.1.ties):Int),.int .i64 (i+(1:Int))])) (inR IntKind.i64 ((↑(List.length x.2):Int)-(1:Int))∧cA BN [.int .i64 e.up,.int .i64 (0:Int),.int .i64 ((↑(List.length x.2):Int)-(1:Int))] fun x_2 y=>Ab (!inn x_2.1 x_2.2.1 x_2.2.2) (inR IntKind.i64 (i+(1:Int))∧(eN (KN x) i [Ad x.2,AV.sl false 0 2 Ti tiA x.1.ties,.int .i64 (↑(List.length x.1.ties):Int),.int .i64 (i+(1:Int))])) (((0:Int)≤e.kid∧e.kid<(↑(List.length x.2):Int))∧∀(e_1:Int),x.2[Int.toNat e.kid]? =some e_1→Ab (decide (e_1>(0:Int))) (((0:Int)≤e.up∧e.up<(↑(List.length x.2):Int))∧∀(e_2:Int),x.2[Int.toNat e.up]? =some e_2→Ab (e_2==(0:Int)) (rA KM x [.bool false,.top,.top]) (inR IntKind.i64 (i+(1:Int))∧(eN (KN x) i [Ad x.2,AV.sl false 0 2 Ti tiA x.1.ties,.int .i64 (↑(List.length x.1.ties):Int),.int .i64 (i+(1:Int))]))) (inR IntKind.i64 (i+(1:Int))∧(eN (KN x) i [Ad x.2,AV.sl false 0 2 Ti tiA x.1.ties,.int .i64 (↑(List.length x.1.ties):Int),.int .i64 (i+(1:Int))]))))) (rA KM x [.bool true,.top,.top])) (fun x=>by kernel_rfl) fun(x:Pc×List Int) (hx:x.1.ties.length≤2^40∧x.2.length≤2^40)=>(by
 dsimp only[cA,Bl,eA,eN,KN,Ad,pcA,rA,Bj,BN,KM,Bm,Bn,tis,Aq,Aw,mvL,lnL,mvE,lnE,mvG,mvH,lnG,lnH,Ba]
 obtain⟨p,v⟩:=x;dsimp only at hx ⊢
 obtain⟨h1,h2⟩:=hx
 (repeat' first|refine Dp p ?_|(with_reducible first|rfl|exact True.intro|apply AG|apply And.intro|((first|apply Au|apply AE|apply Av|apply AF)<;>intro _))|(apply As<;>intro _)|apply AD|refine Af () ?_ ?_|((first|apply AK|apply AJ|apply AI|apply AH|apply AC|apply AB|apply AA|apply Az|apply Ax)<;>try dsimp only)|apply Af|(refine Prod.forall.2 ?_;intro _;try dsimp only)|(intro _;try dsimp only))
 all_goals first
  |with_reducible rfl
  |with_reducible assumption
  |omega
  |exact Mo
  |(have hq:=(show Bx _ _ _ by assumption).1;(try simp only[Aj]);omega)
  |(have hq:=QU (show inn (Ti.kid _) _ _=true by assumption);omega)
  |(have hq:=QU (show inn (Ti.up _) _ _=true by assumption);omega)
  |exact Fh ‹_› ‹_› ‹_› (a2q ‹_›)
  |exact Fh ‹_› ‹_› ‹_› (a2r ‹_›)
  |exact Fh ‹_› ‹_› ‹_› (a2t ‹_› ‹_›)
  |exact Fh ‹_› ‹_› ‹_› (a2s ‹_› ‹_›)
  |exact(Fv ‹_› (a2u ‹_› ‹_› ‹_› ‹_› ‹_› ‹_›)).symm
  |exact(GW ‹_› ‹_›).symm
  |skip)
structure coP (p:Pc) (v:List Int):Prop where
 re:renP p v
 vo:vOk p v
theorem a2v{p:Pc}{v:List Int}(h:coP p v):bndP p v:=⟨h.re.ok,h.vo⟩
def ovI(p:Pc)(v:List Int)(w:Int)(i n:Int):Prop:=(0≤i∧i≤(BF p v).length)∧n=ovL (wdF w) ((BF p v).take i.toNat)
theorem b2E{p:Pc}{v:List Int}{w:Int}:ovI p v w 0 0:=⟨by omega,by simp [ovL]⟩
theorem b2F{p:Pc}{v:List Int}{w i n:Int}{s:List UInt8}(h:ovI p v w i n)(hs:(BF p v)[i.toNat]? =some s):ovI p v w (i+1) (n+max ((s.length:Int)-wdF w) 0):=by
 have hl:=(Cx hs).1
 refine⟨by have:=h.1;omega,?_⟩
 rw[h.2,BG h.1.1,Df hs,b1T];simp [ovL]
theorem a2w{p:Pc}{v:List Int}{w i n:Int}(h:ovI p v w i n)(hi:¬i<((BF p v).length:Int)):n=(Bh p v w).over:=by
 rw[h.2,List.take_of_length_le (by omega)];rfl
theorem a2x{w:Int}:0≤wdF w∧wdF w≤100000:=by unfold wdF;omega
theorem b2G{p:Pc}{v:List Int}{w i n:Int}(h:coP p v)(hi:ovI p v w i n):(0≤i∧i≤81)∧0≤n∧n≤2^61+8200:=by
 have h1:=VD (w:=wdF w) a2x.1 (l:=(BF p v).take i.toNat)
 have h2:=Oa (v:=v) h.re.ok
 have h3:lnS ((BF p v).take i.toNat)≤lnS (BF p v):=by
  have:=a1h (l:=(BF p v).take i.toNat) (m:=(BF p v).drop i.toNat)
  rw[List.take_append_drop] at this;omega
 have h4:=h.re.ct
 have h5:=hi.1;have h6:=hi.2
 omega
theorem b2H{p:Pc}{v:List Int}(h:coP p v){i:Nat}{s:List UInt8}(hs:(BF p v)[i]? =some s):(s.length:Int)≤2^61+8200:=by
 have h1:=b1S (AZ hs)
 have h2:=Oa (v:=v) h.re.ok
 have h4:=h.re.ct
 omega
def KO:Sig:= {X:=Pc×List Int×Int,args:=fun x=>[.agg (pcA false x.1),Ad x.2.1,.int .i64 x.2.2],pre:=fun x=>coP x.1 x.2.1,Y:=Unit,post:=fun x y=>True,res:=fun x y=> .agg [.int .i64 (Bh x.1 x.2.1 x.2.2).over,.int .i64 (Bh x.1 x.2.1 x.2.2).sum],outs:=fun x y=>[.top,.top,.top],keep:=false}
def QV(x:Pc×List Int×Int):LS:= {ι:=Int×Int,inv:=fun i=>ovI x.1 x.2.1 x.2.2 i.1 i.2,regs:=fun i=>[(2,.int .i64 (wdF x.2.2)),(6,.box 0 [.int .i64 0,.int .i64 0]),(7,.box 0 [.int .i64 i.2,.int .i64 (Cj x.1 x.2.1)]),(19,Cu (BF x.1 x.2.1)),(20,.int .i64 (BF x.1 x.2.1).length),(21,.int .i64 i.1)],als:=[],meas:=fun i=>(BF x.1 x.2.1).length-i.1.toNat}
theorem a2y:Ah G Tryz.prog 216 KO:=
 vcFun_okP [(226,0,HA),(165,0,Hz)] [] false (fun x=>[(4,QV x)]) Tryz.func216 rfl (by decide) ⟨a2a,a1Q,trivial⟩ (fun(x:Pc×List Int×Int)=>(∀(y:Unit),True→(True∧True∧True)∧True∧True∧True∧True)∧cA HA [.agg [.int .i64 x.1.ind,AV.sl false 0 2 Ru ruA x.1.rules,AV.sl false 0 5 Ch chA x.1.chunks,AV.sl false 0 3 Sn snA x.1.spans,AV.sl false 0 2 Ti tiA x.1.ties],Ad x.2.1] fun x_1 y=>cA Hz [.agg [.int .i64 x.1.ind,AV.sl false 0 2 Ru ruA x.1.rules,AV.sl false 0 5 Ch chA x.1.chunks,AV.sl false 0 3 Sn snA x.1.spans,AV.sl false 0 2 Ti tiA x.1.ties],Ad x.2.1] fun x_2 y=>eA (QV x) [.int .i64 (max (0:Int) (min x.2.2 (100000:Int))),.box 0 [.int .i64 (0:Int),.int .i64 (0:Int)],.box 0 [.int .i64 (0:Int),.int .i64 (Cj x_1.1 x_1.2)],AV.sl true 0 1 (List UInt8) Ag (BF x_2.1 x_2.2),.int .i64 (↑(List.length (BF x_2.1 x_2.2)):Int),.int .i64 (0:Int)]∧∀(i:Int×Int),ovI x.1 x.2.1 x.2.2 i.1 i.2→Ab (decide (i.1<(↑(List.length (BF x.1 x.2.1)):Int))) (((0:Int)≤i.1∧i.1<(↑(List.length (BF x.1 x.2.1)):Int))∧Int.toNat i.1<List.length (BF x.1 x.2.1)∧∀(x_3:List UInt8),(BF x.1 x.2.1)[Int.toNat i.1]? =some x_3→inR IntKind.i64 ((↑(List.length x_3):Int)-wdF x.2.2)∧inR IntKind.i64 (i.2+max ((↑(List.length x_3):Int)-wdF x.2.2) (0:Int))∧inR IntKind.i64 (i.1+(1:Int))∧eN (QV x) i [.int .i64 (wdF x.2.2),.box 0 [.int .i64 (0:Int),.int .i64 (0:Int)],.box 0 [.int .i64 (i.2+max ((↑(List.length x_3):Int)-wdF x.2.2) (0:Int)),.int .i64 (Cj x.1 x.2.1)],AV.sl true 0 1 (List UInt8) Ag (BF x.1 x.2.1),.int .i64 (↑(List.length (BF x.1 x.2.1)):Int),.int .i64 (i.1+(1:Int))]) (∃(y:Unit),True∧i.2=(Bh x.1 x.2.1 x.2.2).over∧Cj x.1 x.2.1=(Bh x.1 x.2.1 x.2.2).sum∧True)) (fun x=>by kernel_rfl) fun(x:Pc×List Int×Int) (hx:coP x.1 x.2.1)=>(by
 dsimp only[cA,Bl,chs,eA,eN,QV,Ad,Cu,pcA,Bj,HA,Hz,Bm,sns,Bn,Aq,Aw,mvL,lnL,mvE,lnE,mvG,mvH,lnG,lnH,Ba]
 obtain⟨p,v,w⟩:=x;dsimp only at hx ⊢
 have hx:coP p v:=hx
 (repeat' first|refine Dp p ?_|(with_reducible first|rfl|exact True.intro|apply AG|apply And.intro|((first|apply Au|apply AE|apply Av|apply AF)<;>intro _))|(apply As<;>intro _)|apply AD|refine Af () ?_ ?_|((first|apply AK|apply AJ|apply AI|apply AH|apply AC|apply AB|apply AA|apply Az|apply Ax)<;>try dsimp only)|apply Af|(refine Prod.forall.2 ?_;intro _;try dsimp only)|(intro _;try dsimp only))
 all_goals first
  |with_reducible rfl
  |with_reducible assumption
  |exact a2v hx
  |exact hx.re
  |exact b2E
  |exact b2F ‹_› ‹_›
  |exact a2w ‹_› ‹_›
  |exact(a2w ‹_› ‹_›).symm
  |exact(show max 0 (min w 100000)=wdF w from rfl)
  |exact(show Cj p v=(Bh p v w).sum from rfl)
  |(have hq:=b2G hx (show ovI _ _ _ _ _ by assumption);have hw:= @a2x w;(try have hl:=b2H hx ‹_›);(try simp only[Aj]);omega)
  |skip)
def huA(p:Pc)(w:Int)(h:Hu):AV:= .box 0 [.int .i64 p.ind,.sl false 0 2 Ru ruA p.rules,.sl false 0 5 Ch chA p.chunks,.sl false 0 3 Sn snA p.spans,.sl false 0 2 Ti tiA p.ties,.int .i64 w,Ad h.best,.int .i64 h.cost.over,.int .i64 h.cost.sum,CA h.heap,.int .i64 h.pops]
theorem a2z{c d:Co}{v b:List Int}(h:GB c d=true):Fg c d v b=true:=by simp [Fg,h]
theorem a2A{c d:Co}{v b:List Int}(h:(true&&c.over==d.over&&c.sum==d.sum)=true)(hc:Cy v b<0):Fg c d v b=true:=by
 simp at h;simp [Fg,h.1,h.2,hc]
theorem a2B{c d:Co}{v b:List Int}(h1:GB c d=false)(h:(true&&c.over==d.over&&c.sum==d.sum)=false):Fg c d v b=false:=by
 simp only[Fg,h1,Bool.false_or,Bool.and_eq_false_iff,decide_eq_false_iff_not]
 left;simp at h;by_cases e:c.over=d.over
 ·exact .inr (h e)
 ·exact .inl e
theorem a2C{c d:Co}{v b:List Int}(h1:GB c d=false)(hc:¬Cy v b<0):Fg c d v b=false:=by
 simp [Fg,h1,hc]
theorem VZ{p:Pc}{w:Int}{v:List Int}{h:Hu}(hb:Fg (Bh p v w) h.cost v h.best=true):EG p w v h=⟨v,Bh p v w,h.heap,h.pops⟩:=by rw[EG,if_pos hb]
theorem Wa{p:Pc}{w:Int}{v:List Int}{h:Hu}(hb:Fg (Bh p v w) h.cost v h.best=false):EG p w v h=h:=by rw[EG,if_neg (by rw[hb];simp)]
def Om:Sig:= {X:=Pc×Int×Hu×List Int,args:=fun x=>[huA x.1 x.2.1 x.2.2.1,Ad x.2.2.2],pre:=fun x=>coP x.1 x.2.2.2∧x.2.2.1.best.length≤8,Y:=Unit,post:=fun x y=>True,res:=fun x y=> .tup [],outs:=fun x y=>[huA x.1 x.2.1 (EG x.1 x.2.1 x.2.2.2 x.2.2.1),.top],keep:=true}
def Wb(x:Pc×Int×Hu×List Int):LS:= {ι:=Unit,inv:=fun _=>True,regs:=fun _=>[(0,huA x.1 x.2.1 x.2.2.1),(1,Ad x.2.2.2),(4,.box 0 [.int .i64 (Bh x.1 x.2.2.2 x.2.1).over,.int .i64 (Bh x.1 x.2.2.2 x.2.1).sum])],als:=[],meas:=fun _=>0}
def Wc(x:Pc×Int×Hu×List Int):LS:= {ι:=Unit,inv:=fun _=>Fg (Bh x.1 x.2.2.2 x.2.1) x.2.2.1.cost x.2.2.2 x.2.2.1.best=true,regs:=fun _=>[(0,huA x.1 x.2.1 ⟨x.2.2.2,Bh x.1 x.2.2.2 x.2.1,x.2.2.1.heap,x.2.2.1.pops⟩)],als:=[],meas:=fun _=>0}
def Ij(x:Pc×Int×Hu×List Int):Prop:=cA KO [.agg [.int .i64 x.1.ind,AV.sl false 0 2 Ru ruA x.1.rules,AV.sl false 0 5 Ch chA x.1.chunks,AV.sl false 0 3 Sn snA x.1.spans,AV.sl false 0 2 Ti tiA x.1.ties],Ad x.2.2.2,.int .i64 x.2.1] fun x_1 y=>true=true∧(eA (Wb x) [.box 0 [.int .i64 x.1.ind,AV.sl false 0 2 Ru ruA x.1.rules,AV.sl false 0 5 Ch chA x.1.chunks,AV.sl false 0 3 Sn snA x.1.spans,AV.sl false 0 2 Ti tiA x.1.ties,.int .i64 x.2.1,Ad x.2.2.1.best,.int .i64 x.2.2.1.cost.over,.int .i64 x.2.2.1.cost.sum,AV.sl true 0 2 StW stA x.2.2.1.heap,.int .i64 x.2.2.1.pops],Ad x.2.2.2,.box 0 [.int .i64 (Bh x_1.1 x_1.2.1 x_1.2.2).over,.int .i64 (Bh x_1.1 x_1.2.1 x_1.2.2).sum]])
def Wd(x:Pc×Int×Hu×List Int):Prop:=true=true∧(eA (Wc x) [.box 0 [.int .i64 x.1.ind,AV.sl false 0 2 Ru ruA x.1.rules,AV.sl false 0 5 Ch chA x.1.chunks,AV.sl false 0 3 Sn snA x.1.spans,AV.sl false 0 2 Ti tiA x.1.ties,.int .i64 x.2.1,Ad x.2.2.2,.int .i64 (Bh x.1 x.2.2.2 x.2.1).over,.int .i64 (Bh x.1 x.2.2.2 x.2.1).sum,AV.sl true 0 2 StW stA x.2.2.1.heap,.int .i64 x.2.2.1.pops]])
def We(x:Pc×Int×Hu×List Int):Prop:=true=true∧(((Wd x)∧(Wd x))∧(∀(i:Unit),Fg (Bh x.1 x.2.2.2 x.2.1) x.2.2.1.cost x.2.2.2 x.2.2.1.best=true→rA Om x [.tup [],.box 0 [.int .i64 x.1.ind,AV.sl false 0 2 Ru ruA x.1.rules,AV.sl false 0 5 Ch chA x.1.chunks,AV.sl false 0 3 Sn snA x.1.spans,AV.sl false 0 2 Ti tiA x.1.ties,.int .i64 x.2.1,Ad x.2.2.2,.int .i64 (Bh x.1 x.2.2.2 x.2.1).over,.int .i64 (Bh x.1 x.2.2.2 x.2.1).sum,AV.sl true 0 2 StW stA x.2.2.1.heap,.int .i64 x.2.2.1.pops],.top]))
def Wf(x:Pc×Int×Hu×List Int):Prop:=rA Om x [.tup [],.box 0 [.int .i64 x.1.ind,AV.sl false 0 2 Ru ruA x.1.rules,AV.sl false 0 5 Ch chA x.1.chunks,AV.sl false 0 3 Sn snA x.1.spans,AV.sl false 0 2 Ti tiA x.1.ties,.int .i64 x.2.1,Ad x.2.2.1.best,.int .i64 x.2.2.1.cost.over,.int .i64 x.2.2.1.cost.sum,AV.sl true 0 2 StW stA x.2.2.1.heap,.int .i64 x.2.2.1.pops],.top]
theorem b2I:Ah G Tryz.prog 218 Om:=
 vcFun_okP [(216,0,KO),(228,0,Mr),(229,0,KJ)] [] false (fun x=>[(100000,Wb x),(100002,Wc x)]) Tryz.func218 rfl (by decide) ⟨a2y,b2q,a2e,trivial⟩ (fun(x:Pc×Int×Hu×List Int)=>True∧true=true∧((((Ij x)∧(Ij x))∧(Ij x))∧(((Ij x)∧(Ij x))∧(Ij x))∧((Ij x)∧(Ij x)))∧∀(i:Unit),True→true=true∧true=true∧∃(x_1:Int×Int×Int×Int),True∧(Bh x.1 x.2.2.2 x.2.1).over=x_1.1∧(Bh x.1 x.2.2.2 x.2.1).sum=x_1.2.1∧x.2.2.1.cost.over=x_1.2.2.1∧x.2.2.1.cost.sum=x_1.2.2.2∧∃(y0:Unit),(∀(y:Unit),True→AV.bool (GB {over:=x_1.1,sum:=x_1.2.1} {over:=x_1.2.2.1,sum:=x_1.2.2.2})=AV.bool (GB {over:=x_1.1,sum:=x_1.2.1} {over:=x_1.2.2.1,sum:=x_1.2.2.2}))∧true=true∧Ab (GB {over:=x_1.1,sum:=x_1.2.1} {over:=x_1.2.2.1,sum:=x_1.2.2.2}) (We x) (Ab (true&&(Bh x.1 x.2.2.2 x.2.1).over==x.2.2.1.cost.over&&(Bh x.1 x.2.2.2 x.2.1).sum==x.2.2.1.cost.sum) (∃(x_2:List Int×List Int),(List.length x_2.1<(4611686018427387904:Nat)∧List.length x_2.2<(4611686018427387904:Nat))∧Ad x.2.2.2=Ad x_2.1∧Ad x.2.2.1.best=Ad x_2.2∧∃(y0:Unit),(∀(y:Unit),True→AV.int IntKind.i64 (Cy x_2.1 x_2.2)=AV.int IntKind.i64 (Cy x_2.1 x_2.2))∧true=true∧Ab (decide (Cy x_2.1 x_2.2<(0:Int))) (We x) (Wf x)) (Wf x))) (fun x=>by kernel_rfl) fun(x:Pc×Int×Hu×List Int) (hx:coP x.1 x.2.2.2∧x.2.2.1.best.length≤8)=>(by
 dsimp only[Wf,We,Wd,Ij,cA,Bl,eA,huA,Wc,Wb,Ad,Cu,CA,pcA,rA,Bj,Om,KO,Bm,Ht,Bn,Aq,Aw,mvL,lnL,mvE,lnE,mvG,mvH,lnG,lnH,Ba]
 obtain⟨p,w,h,v⟩:=x;dsimp only at hx ⊢
 obtain⟨h1,h2⟩:=hx
 (repeat' first|refine Dp p ?_|(with_reducible first|rfl|exact True.intro|apply AG|apply And.intro|((first|apply Au|apply AE|apply Av|apply AF)<;>intro _))|(apply As<;>intro _)|apply AD|refine Af () ?_ ?_|((first|apply AK|apply AJ|apply AI|apply AH|apply AC|apply AB|apply AA|apply Az|apply Ax)<;>try dsimp only)|apply Af|(refine Prod.forall.2 ?_;intro _;try dsimp only)|(intro _;try dsimp only))
 all_goals first
  |with_reducible rfl
  |exact h1
  |(have:=h1.vo.1;have:=h1.re.ok.rl;omega)
  |exact a2z ‹_›
  |exact a2A ‹_› ‹_›
  |(rw[VZ ‹_›];done)
  |(rw[Wa (a2B ‹_› ‹_›)];done)
  |(rw[Wa (a2C ‹_› ‹_›)];done)
  |(rw[VZ ‹_›];rfl)
  |skip)
def opC(p:Pc)(x:StW):Int:=(CI p x.vals.length).vals
def opI(p:Pc)(c:Co)(x:StW)(l0 l:List StW)(i:Int):Prop:=
 (0≤i∧i≤opC p x)∧(opN p c x.vals (opC p x-i).toNat i l=opN p c x.vals (opC p x).toNat 0 l0)∧((l.length:Int)≤l0.length+i∧GV p l)
structure opP (p:Pc) (h:Hu) (x:StW):Prop where
 ok:pcOk p
 vo:vOk p x.vals
 vl:x.vals.length<p.rules.length
 hl:h.heap.length≤2^39
 hk:GV p h.heap
theorem a2D{p:Pc}{h:Hu}{x:StW}(hx:opP p h x):opI p h.cost x h.heap h.heap 0:=by
 have:=Mn hx.ok (i:=(x.vals.length:Int)) (by omega) (by have:=hx.vl;omega)
 exact⟨⟨by omega,by unfold opC;omega⟩,by simp,by omega,hx.hk⟩
theorem On{p:Pc}{h:Hu}{x:StW}{l:List StW}{i:Int}(hx:opP p h x)(hi:opI p h.cost x h.heap l i)(hl:i<opC p x):
 (GU p h.cost (x.vals++[i])=true→opI p h.cost x h.heap l (i+1))∧(GU p h.cost (x.vals++[i])=false→opI p h.cost x h.heap (DA l ⟨x.vals++[i],Cj p (x.vals++[i])⟩) (i+1)):=by
 obtain⟨h1,h2,h3,h4⟩:=hi
 have e:(opC p x-i).toNat=(opC p x-(i+1)).toNat+1:=by omega
 rw[e,opN] at h2
 have hv:=VI hx.vo hx.vl h1.1 (by unfold opC at hl;exact hl)
 refine⟨fun hb=>⟨by omega,?_,by omega,h4⟩,fun hb=>⟨by omega,?_,?_,a1n h4 ⟨hv,a1p hx.ok hv⟩⟩⟩
 ·rw[hb,if_pos rfl] at h2;exact h2
 ·rw[hb,if_neg (by simp)] at h2;exact h2
 ·have:=(VE (f:=fun _=>0) (l:=l) (x:=⟨x.vals++[i],Cj p (x.vals++[i])⟩)).2.1
  rw[this];omega
theorem a2E{p:Pc}{c:Co}{x:StW}{l0 l:List StW}{i:Int}(hi:opI p c x l0 l i)(hl:¬i<opC p x):l=opN p c x.vals (opC p x).toNat 0 l0:=by
 obtain⟨h1,h2,_⟩:=hi
 rw[show(opC p x-i).toNat=0 by omega,opN] at h2;exact h2
def Jm:Sig:= {X:=List Int×Unit,args:=fun x=>[Ad x.1],pre:=fun x=>x.1.length≤2^40,Y:=Unit,post:=fun x y=>True,res:=fun x y=>AW x.1,outs:=fun x y=>[.top],keep:=false}
theorem b2J:Ah G Tryz.prog 230 Jm:=
 vcFun_okP [] [(38,⟨Int,Cw⟩)] false (fun x=>[]) Tryz.func230 rfl (by decide) trivial (fun(x:List Int×Unit)=>(∀(y:Unit),True→(∀(x:Int),True∧True)∧True∧True)∧∀(b:Bool),(b=true→x.1=[])→Ab b (rA Jm x [.nil,.top]) (∃(zs:List Int),Ad x.1=Ad zs∧Bg Cw∧AY ((0:Nat)+List.length zs) (8:Nat)∧rA Jm x [AW ([]++zs),.top])) (fun x=>by kernel_rfl) fun(x:List Int×Unit) (hx:x.1.length≤2^40)=>(by
 dsimp only[Ad,AW,rA,Jm,Aq,Aw]
 obtain⟨x,_⟩:=x;dsimp only at hx ⊢
 have hx:x.length≤2^40:=hx
 (repeat' first|(with_reducible first|rfl|exact True.intro|apply AG|apply And.intro|((first|apply Au|apply AE|apply Av|apply AF)<;>intro _))|(apply As<;>intro _)|apply AD|refine Af () ?_ ?_|((first|apply AK|apply AJ|apply AI|apply AH|apply AC|apply AB|apply AA|apply Az|apply Ax)<;>try dsimp only)|apply Af|(refine Prod.forall.2 ?_;intro _;try dsimp only)|(intro _;try dsimp only))
 all_goals first
  |rfl
  |(rename_i h0 hb;rw[h0 hb];done)
  |((try simp only[AY,List.length_nil]);omega)
  |skip)
theorem QW{p:Pc}{c:Co}{v:List Int}(h:KB p v=false∨(c.over=0∧Cj p v>c.sum)):GU p c v=true:=by
 unfold GU
 rcases h with h|h
 ·rw[h];rfl
 ·rw[decide_eq_true h.1,decide_eq_true (show c.sum<Cj p v by omega)];simp
theorem QX{p:Pc}{c:Co}{v:List Int}(h:KB p v=true)(h2:¬c.over=0∨¬Cj p v>c.sum):GU p c v=false:=by
 unfold GU
 rw[h]
 rcases h2 with h2|h2
 ·rw[decide_eq_false h2];rfl
 ·rw[decide_eq_false (show¬c.sum<Cj p v by omega)];simp
theorem a2F{p:Pc}{h:Hu}{x:StW}(hx:opP p h x):2≤opC p x∧opC p x≤3:=(Mn hx.ok (i:=(x.vals.length:Int)) (by omega) (by have:=hx.vl;omega)).1
theorem Wg{p:Pc}{v:List Int}{n:Int}{e:Ru}(h:p.rules[(v.length:Int).toNat]? =some e):e.vals=opC p ⟨v,n⟩:=by unfold opC;rw[Oe h]
theorem a2G{p:Pc}{h:Hu}{x:StW}{l:List StW}{i:Int}(hx:opP p h x)(hi:opI p h.cost x h.heap l i):(0≤i∧i≤3)∧l.length≤2^39+3∧GV p l:=by
 have h1:=a2F hx;have h2:=hi.1;have h3:=hi.2.2;have h4:=hx.hl
 exact⟨by omega,by omega,h3.2⟩
theorem a2H{p:Pc}{h:Hu}{v:List Int}{n:Int}{l:List StW}{i:Int}(hx:opP p h ⟨v,n⟩)(hi:opI p h.cost ⟨v,n⟩ h.heap l i)(hl:i<opC p ⟨v,n⟩):bndP p (v++[i]):=
 ⟨hx.ok,VI hx.vo hx.vl hi.1.1 (by unfold opC at hl;exact hl)⟩
theorem Wh{p:Pc}{l:List StW}(hp:pcOk p)(h:GV p l):∀s∈l,s.vals.length<2^62:=fun s hs=>by
 have h1:=(h s hs).1.1;have h2:=hp.rl
 omega
def QY:Sig:= {X:=Pc×Int×Hu×List Int×Int,args:=fun x=>[huA x.1 x.2.1 x.2.2.1,.agg [Ad x.2.2.2.1,.int .i64 x.2.2.2.2]],pre:=fun x=>opP x.1 x.2.2.1 ⟨x.2.2.2.1,x.2.2.2.2⟩,Y:=Unit,post:=fun x y=>True,res:=fun x y=> .tup [],outs:=fun x y=>[huA x.1 x.2.1 ⟨x.2.2.1.best,x.2.2.1.cost,opN x.1 x.2.2.1.cost x.2.2.2.1 (opC x.1 ⟨x.2.2.2.1,x.2.2.2.2⟩).toNat 0 x.2.2.1.heap,x.2.2.1.pops⟩,.top],keep:=true}
def QZ(x:Pc×Int×Hu×List Int×Int):LS:= {ι:=List StW×Int,inv:=fun i=>opI x.1 x.2.2.1.cost ⟨x.2.2.2.1,x.2.2.2.2⟩ x.2.2.1.heap i.1 i.2,regs:=fun i=>[(0,huA x.1 x.2.1 ⟨x.2.2.1.best,x.2.2.1.cost,i.1,x.2.2.1.pops⟩),(3,.box 0 [Ad x.2.2.2.1,.int .i64 x.2.2.2.2]),(17,.int .i64 (opC x.1 ⟨x.2.2.2.1,x.2.2.2.2⟩)),(18,.int .i64 i.2)],als:=[],meas:=fun i=>(opC x.1 ⟨x.2.2.2.1,x.2.2.2.2⟩-i.2).toNat}
def Wi(x:Pc×Int×Hu×List Int×Int)(i:List StW×Int)(x_1:Jm.X)(x_3:HA.X)(zs:List Int):Prop:=cA KL [AV.sl true 0 2 StW stA i.1,.agg [AW (x_1.1++zs),.int .i64 (Cj x_3.1 x_3.2)]] fun x_5 y=>inR IntKind.i64 (i.2+(1:Int))∧(∃(i':List StW×Int),opI x.1 x.2.2.1.cost {vals:=x.2.2.2.1,sum:=x.2.2.2.2} x.2.2.1.heap i'.1 i'.2∧Int.toNat (opC x.1 {vals:=x.2.2.2.1,sum:=x.2.2.2.2}-i'.2)<Int.toNat (opC x.1 {vals:=x.2.2.2.1,sum:=x.2.2.2.2}-i.2)∧((x.1.ind=x.1.ind∧AV.sl false 0 2 Ru ruA x.1.rules=AV.sl false 0 2 Ru ruA x.1.rules∧AV.sl false 0 5 Ch chA x.1.chunks=AV.sl false 0 5 Ch chA x.1.chunks∧AV.sl false 0 3 Sn snA x.1.spans=AV.sl false 0 3 Sn snA x.1.spans∧AV.sl false 0 2 Ti tiA x.1.ties=AV.sl false 0 2 Ti tiA x.1.ties∧x.2.1=x.2.1∧Ad x.2.2.1.best=Ad x.2.2.1.best∧x.2.2.1.cost.over=x.2.2.1.cost.over∧x.2.2.1.cost.sum=x.2.2.1.cost.sum∧AV.sl true 0 2 StW stA (DA x_5.1 {vals:=x_5.2.1,sum:=x_5.2.2})=AV.sl true 0 2 StW stA i'.1∧x.2.2.1.pops=x.2.2.1.pops∧Ad x.2.2.2.1=Ad x.2.2.2.1∧x.2.2.2.2=x.2.2.2.2∧opC x.1 {vals:=x.2.2.2.1,sum:=x.2.2.2.2}=opC x.1 {vals:=x.2.2.2.1,sum:=x.2.2.2.2}∧i.2+(1:Int)=i'.2∧True)∧True))
def Wj(x:Pc×Int×Hu×List Int×Int)(i:List StW×Int):Prop:=eN (QZ x) i [.box 0 [.int .i64 x.1.ind,AV.sl false 0 2 Ru ruA x.1.rules,AV.sl false 0 5 Ch chA x.1.chunks,AV.sl false 0 3 Sn snA x.1.spans,AV.sl false 0 2 Ti tiA x.1.ties,.int .i64 x.2.1,Ad x.2.2.1.best,.int .i64 x.2.2.1.cost.over,.int .i64 x.2.2.1.cost.sum,AV.sl true 0 2 StW stA i.1,.int .i64 x.2.2.1.pops],.box 0 [Ad x.2.2.2.1,.int .i64 x.2.2.2.2],.int .i64 (opC x.1 {vals:=x.2.2.2.1,sum:=x.2.2.2.2}),.int .i64 (i.2+(1:Int))]
theorem b2K:Ah G Tryz.prog 219 QY:=
 vcFun_okP [(230,0,Jm),(226,0,HA),(231,0,KM),(232,0,KL)] [(38,⟨Int,Cw⟩)] false (fun x=>[(2,QZ x)]) Tryz.func219 rfl (by decide) ⟨b2J,a2a,b2D,b2B,trivial⟩ (fun(x:Pc×Int×Hu×List Int×Int)=>True∧true=true∧true=true∧((0:Int)≤(↑(List.length x.2.2.2.1):Int)∧(↑(List.length x.2.2.2.1):Int)<(↑(List.length x.1.rules):Int))∧∀(e:Ru),x.1.rules[Int.toNat (↑(List.length x.2.2.2.1):Int)]? =some e→eA (QZ x) [.box 0 [.int .i64 x.1.ind,AV.sl false 0 2 Ru ruA x.1.rules,AV.sl false 0 5 Ch chA x.1.chunks,AV.sl false 0 3 Sn snA x.1.spans,AV.sl false 0 2 Ti tiA x.1.ties,.int .i64 x.2.1,Ad x.2.2.1.best,.int .i64 x.2.2.1.cost.over,.int .i64 x.2.2.1.cost.sum,AV.sl true 0 2 StW stA x.2.2.1.heap,.int .i64 x.2.2.1.pops],.box 0 [Ad x.2.2.2.1,.int .i64 x.2.2.2.2],.int .i64 e.vals,.int .i64 (0:Int)]∧∀(i:List StW×Int),opI x.1 x.2.2.1.cost {vals:=x.2.2.2.1,sum:=x.2.2.2.2} x.2.2.1.heap i.1 i.2→Ab (decide (i.2<opC x.1 {vals:=x.2.2.2.1,sum:=x.2.2.2.2})) (cA Jm [Ad x.2.2.2.1] fun x_1 y=>∃(x_2:Int),i.2=x_2∧∃(zs:List Int),AW [x_2]=AW zs∧Bg Cw∧AY (List.length x_1.1+List.length zs) (8:Nat)∧cA HA [.agg [.int .i64 x.1.ind,AV.sl false 0 2 Ru ruA x.1.rules,AV.sl false 0 5 Ch chA x.1.chunks,AV.sl false 0 3 Sn snA x.1.spans,AV.sl false 0 2 Ti tiA x.1.ties],AW (x_1.1++zs)] fun x_3 y=>cA KM [.agg [.int .i64 x.1.ind,AV.sl false 0 2 Ru ruA x.1.rules,AV.sl false 0 5 Ch chA x.1.chunks,AV.sl false 0 3 Sn snA x.1.spans,AV.sl false 0 2 Ti tiA x.1.ties],AW (x_1.1++zs)] fun x_4 y=>Ab (!KB x_4.1 x_4.2) (inR IntKind.i64 (i.2+(1:Int))∧(Wj x i)) (Ab (x.2.2.1.cost.over==(0:Int)) (Ab (decide (Cj x_3.1 x_3.2>x.2.2.1.cost.sum)) (inR IntKind.i64 (i.2+(1:Int))∧(Wj x i)) (Wi x i x_1 x_3 zs)) (Wi x i x_1 x_3 zs))) (rA QY x [.tup [],.box 0 [.int .i64 x.1.ind,AV.sl false 0 2 Ru ruA x.1.rules,AV.sl false 0 5 Ch chA x.1.chunks,AV.sl false 0 3 Sn snA x.1.spans,AV.sl false 0 2 Ti tiA x.1.ties,.int .i64 x.2.1,Ad x.2.2.1.best,.int .i64 x.2.2.1.cost.over,.int .i64 x.2.2.1.cost.sum,AV.sl true 0 2 StW stA i.1,.int .i64 x.2.2.1.pops],.top])) (fun x=>by kernel_rfl) fun(x:Pc×Int×Hu×List Int×Int) (hx:opP x.1 x.2.2.1 ⟨x.2.2.2.1,x.2.2.2.2⟩)=>(by
 dsimp only[Wj,Wi,cA,Bl,eA,eN,huA,QZ,Ad,AW,CA,pcA,rA,Bj,Jm,QY,HA,KL,KM,Bm,sns,Ht,Bn,tis,Aq,Aw,mvL,lnL,mvE,lnE,mvG,mvH,lnG,lnH,Ba]
 obtain⟨p,w,h,v,n⟩:=x;dsimp only at hx ⊢
 have h1:=hx.vl;have h2:=hx.ok.rl;have h3:=a2F hx;have h4:=hx.ok.til;dsimp only at h1
 (repeat' first|refine Dp p ?_|(with_reducible first|rfl|exact True.intro|apply AG|apply And.intro|((first|apply Au|apply AE|apply Av|apply AF)<;>intro _))|(apply As<;>intro _)|apply AD|refine Af () ?_ ?_|((first|apply AK|apply AJ|apply AI|apply AH|apply AC|apply AB|apply AA|apply Az|apply Ax)<;>try dsimp only)|apply Af|(refine Prod.forall.2 ?_;intro _;try dsimp only)|(intro _;try dsimp only))
 all_goals try(have hb:=a2G hx (show opI _ _ _ _ _ _ by assumption))
 all_goals first
  |with_reducible rfl
  |rfl
  |exact()
  |omega
  |exact Wg ‹_›
  |exact a2D hx
  |(simp only[AY,Aj,List.length_append,List.length_cons,List.length_nil];omega)
  |exact a2H hx ‹_› ‹_›
  |exact Wh hx.ok hb.2.2 _ ‹_›
  |exact(On hx ‹_› ‹_›).1 (QW (.inl ‹_›))
  |exact(On hx ‹_› ‹_›).1 (QW (.inr ⟨by assumption,by assumption⟩))
  |exact(On hx ‹_› ‹_›).2 (QX ‹_› (.inl ‹_›))
  |exact(On hx ‹_› ‹_›).2 (QX ‹_› (.inr ‹_›))
  |exact a2E ‹_› ‹_›
  |skip)
theorem a2I{p:Pc}{c:Co}{x:List Int}:∀ {r:Nat} {i:Int} {l:List StW},hM p (opN p c x r i l)≤hM p l+r*wt (p.rules.length-(x.length+1))
 |0,i,l=>by simp [opN]
 |r+1,i,l=>by
  rw[opN]
  have h:=a2I (p:=p) (c:=c) (x:=x) (r:=r) (i:=i+1) (l:=if GU p c (x++[i]) then l else DA l ⟨x++[i],Cj p (x++[i])⟩)
  have h2:hM p (if GU p c (x++[i]) then l else DA l ⟨x++[i],Cj p (x++[i])⟩)≤hM p l+wt (p.rules.length-(x.length+1)):=by
   split
   ·omega
   ·have:=(VE (f:=wtS p) (l:=l) (x:=⟨x++[i],Cj p (x++[i])⟩)).1
    have e:wtS p ⟨x++[i],Cj p (x++[i])⟩=wt (p.rules.length-(x.length+1)):=by simp [wtS]
    unfold hM;omega
  rw[Nat.succ_mul];omega
theorem a2J{p:Pc}{c:Co}{x:List Int}(hp:pcOk p)(hv:vOk p x)(hl:x.length<p.rules.length):∀ {r:Nat} {i:Int} {l:List StW},0≤i→i+r≤(CI p x.length).vals→GV p l→GV p (opN p c x r i l)
 |0,i,l,_,_,h=>h
 |r+1,i,l,h0,hi,h=>by
  rw[opN]
  refine a2J hp hv hl (by omega) (by omega) ?_
  split
  ·exact h
  ·have hs:=VI hv hl h0 (by omega)
   exact a1n h ⟨hs,a1p hp hs⟩
structure huP (p:Pc) (w:Int) (h:Hu):Prop where
 bv:vOk p h.best
 bl:h.best.length=p.rules.length
 co:h.cost=Bh p h.best w
 hk:GV p h.heap
theorem b2L{p:Pc}{w:Int}{v:List Int}{h:Hu}(hh:huP p w h)(hv:vOk p v)(hl:v.length=p.rules.length):huP p w (EG p w v h)∧(EG p w v h).heap=h.heap∧(EG p w v h).pops=h.pops:=by
 unfold EG
 split
 ·exact⟨⟨hv,hl,rfl,hh.hk⟩,rfl,rfl⟩
 ·exact⟨hh,rfl,rfl⟩
theorem Wk{l:List StW}(h:0<l.length):AN l 0∈l:=AZ (KC (l:=l) (i:=0) (by omega) (by omega))
theorem a2K{p:Pc}{w:Int}{h:Hu}(hp:pcOk p)(hh:huP p w h)(hl:0<h.heap.length):huP p w (Jg p w h)∧hM p (Jg p w h).heap<hM p h.heap∧(Jg p w h).pops=h.pops+1:=by
 have h1:=(VF (f:=wtS p) hl).1
 have h2:=hh.hk _ (Wk hl)
 have h3:=a1o hh.hk hl
 have h4:1≤wtS p (AN h.heap 0):=VG
 unfold Jg
 split
 ·rename_i e
  have:=b2L (v:=(AN h.heap 0).vals) (h:=⟨h.best,h.cost,BI h.heap,h.pops+1⟩) ⟨hh.bv,hh.bl,hh.co,h3⟩ h2.1 e
  refine⟨this.1,?_,this.2.2⟩
  rw[this.2.1];show hM p (BI h.heap)<_;unfold hM;omega
 ·rename_i e
  have hlt:(AN h.heap 0).vals.length<p.rules.length:=by have:=h2.1.1;omega
  have hr:=Mn hp (i:=((AN h.heap 0).vals.length:Int)) (by omega) (by omega)
  have h5:=a2I (p:=p) (c:=h.cost) (x:=(AN h.heap 0).vals) (r:=(CI p (AN h.heap 0).vals.length).vals.toNat) (i:=0) (l:=BI h.heap)
  refine⟨⟨hh.bv,hh.bl,hh.co,a2J hp h2.1 hlt (by omega) (by omega) h3⟩,?_,rfl⟩
  have e1:wtS p (AN h.heap 0)=1+3*wt (p.rules.length-((AN h.heap 0).vals.length+1)):=by
   rw[wtS,show p.rules.length-(AN h.heap 0).vals.length=(p.rules.length-((AN h.heap 0).vals.length+1))+1 by omega,wt]
  have h6:(CI p (AN h.heap 0).vals.length).vals.toNat*wt (p.rules.length-((AN h.heap 0).vals.length+1))≤3*wt (p.rules.length-((AN h.heap 0).vals.length+1)):=Nat.mul_le_mul_right _ (by omega)
  show hM p (opN p h.cost (AN h.heap 0).vals (CI p (AN h.heap 0).vals.length).vals.toNat 0 (BI h.heap))<hM p h.heap
  unfold hM at h5 ⊢;omega
theorem a2L:∀ {a b:Nat},a≤b→wt a≤wt b
 |0,b,_=>VG
 |a+1,0,h=>by omega
 |a+1,b+1,h=>by rw[wt,wt];have:=a2L (a:=a) (b:=b) (by omega);omega
def ruI(p:Pc)(w bud:Int)(h:Hu)(n:Nat):Prop:=(huP p w h∧hM p h.heap<n)∧Hw p w bud n h=srF p w bud∧0≤h.pops∧h.pops+hM p h.heap≤9841
theorem Ra{p:Pc}{w bud:Int}(hp:pcOk p):ruI p w bud ⟨Dc p,Bh p (Dc p) w,[st0],0⟩ 9842:=by
 have h1:=Oc hp
 have h2:hM p [st0]≤9841:=by
  have e:hM p [st0]=wt p.rules.length:=by simp [hM,hS,wtS,st0]
  rw[e]
  exact Nat.le_trans (a2L (b:=8) hp.rl) (by decide)
 refine⟨⟨⟨h1.1,h1.2,rfl,?_⟩,by show hM p [st0]<9842;omega⟩,rfl,Int.le_refl 0,by show(0:Int)+hM p [st0]≤9841;omega⟩
 intro s hs
 simp at hs;subst hs
 exact⟨b1U,by simp [st0],by simp [st0]⟩
theorem Rb{p:Pc}{w bud:Int}{h:Hu}{n:Nat}(hi:ruI p w bud h n):(0≤h.pops∧h.pops≤9841)∧h.heap.length≤9841∧0<n:=by
 have h1:= @a1m p h.heap
 have h2:=hi.2.2;have:=hi.1.2
 exact⟨by omega,by omega,by omega⟩
theorem a2M{p:Pc}{w bud:Int}{h:Hu}{n:Nat}(hp:pcOk p)(hi:ruI p w bud h n)(hl:0<h.heap.length)(hb:¬bud≤h.pops):ruI p w bud (Jg p w h) (n-1):=by
 obtain⟨⟨h1,h2⟩,h3,h4,h5⟩:=hi
 have hs:=a2K hp h1 hl
 obtain⟨m,rfl⟩:∃m,n=m+1:=⟨n-1,by omega⟩
 refine⟨⟨hs.1,by omega⟩,?_,by omega,by omega⟩
 rw[Hw,if_neg (by intro e;rw[e] at hl;simp at hl),if_neg hb] at h3
 exact h3
theorem Wl{p:Pc}{w bud:Int}{h:Hu}{n:Nat}(hi:ruI p w bud h n)(hl:¬0<h.heap.length):srF p w bud=(h,1):=by
 obtain⟨⟨h1,h2⟩,h3,h4,h5⟩:=hi
 obtain⟨m,rfl⟩:∃m,n=m+1:=⟨n-1,by omega⟩
 rw[Hw,if_pos (List.eq_nil_of_length_eq_zero (by omega))] at h3;exact h3.symm
theorem a2N{p:Pc}{w bud:Int}{h:Hu}{n:Nat}(hi:ruI p w bud h n)(hl:0<h.heap.length)(hb:bud≤h.pops):srF p w bud=(h,2):=by
 obtain⟨⟨h1,h2⟩,h3,h4,h5⟩:=hi
 obtain⟨m,rfl⟩:∃m,n=m+1:=⟨n-1,by omega⟩
 rw[Hw,if_neg (by intro e;rw[e] at hl;simp at hl),if_pos hb] at h3;exact h3.symm
theorem a2O{p:Pc}{w bud:Int}(hp:pcOk p):∀ {n:Nat} {h:Hu},huP p w h→hM p h.heap<n→huP p w (Hw p w bud n h).1∧((Hw p w bud n h).2=1∨(Hw p w bud n h).2=2)
 |0,h,_,hl=>by omega
 |n+1,h,hh,hl=>by
  rw[Hw]
  split
  ·exact⟨hh,.inl rfl⟩
  ·rename_i e
   split
   ·exact⟨hh,.inr rfl⟩
   ·have hpos:0<h.heap.length:=List.length_pos_iff.2 e
    have hs:=a2K hp hh hpos
    exact a2O hp hs.1 (by omega)
theorem Wm{p:Pc}{w bud:Int}(hp:pcOk p):huP p w (srF p w bud).1∧((srF p w bud).2=1∨(srF p w bud).2=2):=by
 have h:=Ra (w:=w) (bud:=bud) hp
 exact a2O hp h.1.1 h.1.2
theorem b2M{β:Type}{p q:Int×Hu×β→Prop}(w:Int)(b:List Int)(o s:Int)(l:List StW)(n:Int)(c:β)(h2:q (w,⟨b,⟨o,s⟩,l,n⟩,c))(h1:p (w,⟨b,⟨o,s⟩,l,n⟩,c)):∃x,p x∧q x:=⟨_,h1,h2⟩
theorem b2N{β γ:Type}{p q:Int×Hu×β×γ→Prop}(w:Int)(b:List Int)(o s:Int)(l:List StW)(n:Int)(c:β)(d:γ)(h2:q (w,⟨b,⟨o,s⟩,l,n⟩,c,d))(h1:p (w,⟨b,⟨o,s⟩,l,n⟩,c,d)):∃x,p x∧q x:=⟨_,h1,h2⟩
theorem a2P{p q:Hu×Nat→Prop}(b:List Int)(o s:Int)(l:List StW)(n:Int)(m:Nat)(h2:q (⟨b,⟨o,s⟩,l,n⟩,m))(h1:p (⟨b,⟨o,s⟩,l,n⟩,m)):∃x,p x∧q x:=⟨_,h1,h2⟩
theorem a2Q{a:List Int}{b:Int}{q:StW→Prop}(h:q ⟨a,b⟩):∃x:StW,a=x.vals∧b=x.sum∧q x:=⟨⟨a,b⟩,rfl,rfl,h⟩
theorem Rc{p:Pc}{v:List Int}(h:pcOk p)(hz:pcS p)(hv:vOk p v)(hl:v.length=p.rules.length):coP p v:=⟨⟨h,hl,hz.2.1.2⟩,hv⟩
theorem Wn{p:Pc}{w bud:Int}{h:Hu}{n:Nat}(hi:ruI p w bud h n)(hl:(h.heap.length:Int)>0):VH p (AN h.heap 0):=hi.1.1.hk _ (Wk (by omega))
theorem Wo{p:Pc}{w bud:Int}{h:Hu}{n:Nat}(hp:pcOk p)(hi:ruI p w bud h n)(hl:(h.heap.length:Int)>0)(hb:¬h.pops≥bud)(he:((AN h.heap 0).vals.length:Int)=p.rules.length):
 ruI p w bud (EG p w (AN h.heap 0).vals ⟨h.best,h.cost,BI h.heap,h.pops+1⟩) (n-1):=by
 have:=a2M hp hi (by omega) (by omega)
 rwa [Jg,if_pos (by omega)] at this
theorem a2R{p:Pc}{w bud:Int}{h:Hu}{n:Nat}(hp:pcOk p)(hi:ruI p w bud h n)(hl:(h.heap.length:Int)>0)(hb:¬h.pops≥bud)(he:((AN h.heap 0).vals.length:Int)≠p.rules.length):
 ruI p w bud ⟨h.best,h.cost,opN p h.cost (AN h.heap 0).vals (opC p ⟨(AN h.heap 0).vals,(AN h.heap 0).sum⟩).toNat 0 (BI h.heap),h.pops+1⟩ (n-1):=by
 have:=a2M hp hi (by omega) (by omega)
 rwa [Jg,if_neg (by omega)] at this
theorem a2S{p:Pc}{w bud:Int}{h:Hu}{n:Nat}(hp:pcOk p)(hi:ruI p w bud h n)(hl:(h.heap.length:Int)>0)(he:((AN h.heap 0).vals.length:Int)≠p.rules.length):
 opP p ⟨h.best,h.cost,BI h.heap,h.pops+1⟩ ⟨(AN h.heap 0).vals,(AN h.heap 0).sum⟩:=by
 have h1:=Wn hi hl
 have h2:=h1.1.1
 have h3:=(VF (f:=fun _=>0) (l:=h.heap) (by omega)).2.1
 have h4:=(Rb hi).2.1
 exact⟨hp,h1.1,by show(AN h.heap 0).vals.length<_;omega,by show(BI h.heap).length≤_;omega,a1o hi.1.1.hk (by omega)⟩
theorem Wp{p:Pc}{w bud:Int}{h:Hu}{n:Nat}(hi:ruI p w bud h n):n-1<n:=by have:=(Rb hi).2.2;omega
def KP:Sig:= {X:=Pc×Int×Int,args:=fun x=>[huA x.1 x.2.1 ⟨[],⟨0,0⟩,[],0⟩,.int .i64 x.2.2],pre:=fun x=>pcOk x.1∧pcS x.1,Y:=Unit,post:=fun x y=>True,res:=fun x y=> .int .i64 (srF x.1 x.2.1 x.2.2).2,outs:=fun x y=>[huA x.1 x.2.1 (srF x.1 x.2.1 x.2.2).1,.top],keep:=true}
def b2O(x:Pc×Int×Int):LS:= {ι:=Unit,inv:=fun _=>True,regs:=fun _=>[(0,huA x.1 x.2.1 ⟨Dc x.1,Bh x.1 (Dc x.1) x.2.1,[],0⟩),(1,.int .i64 x.2.2)],als:=[],meas:=fun _=>0}
def Rd(x:Pc×Int×Int):LS:= {ι:=Hu×Nat,inv:=fun i=>ruI x.1 x.2.1 x.2.2 i.1 i.2,regs:=fun i=>[(0,huA x.1 x.2.1 i.1),(1,.int .i64 x.2.2)],als:=[],meas:=fun i=>i.2}
def KQ(x:Pc×Int×Int)(x_1:KG.X):Prop:=cA KO [.agg [.int .i64 x.1.ind,AV.sl false 0 2 Ru ruA x.1.rules,AV.sl false 0 5 Ch chA x.1.chunks,AV.sl false 0 3 Sn snA x.1.spans,AV.sl false 0 2 Ti tiA x.1.ties],AW (Dc x_1),.int .i64 x.2.1] fun x_2 y=>true=true∧(∃(i:Unit),True∧((x.1.ind=x.1.ind∧AV.sl false 0 2 Ru ruA x.1.rules=AV.sl false 0 2 Ru ruA x.1.rules∧AV.sl false 0 5 Ch chA x.1.chunks=AV.sl false 0 5 Ch chA x.1.chunks∧AV.sl false 0 3 Sn snA x.1.spans=AV.sl false 0 3 Sn snA x.1.spans∧AV.sl false 0 2 Ti tiA x.1.ties=AV.sl false 0 2 Ti tiA x.1.ties∧x.2.1=x.2.1∧AV.sl false 0 1 Int (fun(x:Int)=>fzL (Cw x)) (Dc x_1)=Ad (Dc x.1)∧((Bh x_2.1 x_2.2.1 x_2.2.2).over=(Bh x.1 (Dc x.1) x.2.1).over∧((Bh x_2.1 x_2.2.1 x_2.2.2).sum=(Bh x.1 (Dc x.1) x.2.1).sum∧AV.sl true 0 2 StW stA []=AV.sl true 0 2 StW stA []∧(0:Int)=(0:Int)∧x.2.2=x.2.2∧True)))∧True))
theorem b2P:Ah G Tryz.prog 195 KP:=
 vcFun_okP [(215,0,KG),(216,0,KO),(217,0,QT),(218,0,Om),(219,0,QY)] [(174,⟨StW,stA⟩)] false (fun x=>[(100002,b2O x),(4,Rd x)]) Tryz.func195 rfl (by decide) ⟨b2b,a2y,b2C,b2I,b2K,trivial⟩ (fun(x:Pc×Int×Int)=>True∧cA KG [.agg [.int .i64 x.1.ind,AV.sl false 0 2 Ru ruA x.1.rules,AV.sl false 0 5 Ch chA x.1.chunks,AV.sl false 0 3 Sn snA x.1.spans,AV.sl false 0 2 Ti tiA x.1.ties]] fun x_1 y=>true=true∧(((KQ x x_1)∧(KQ x x_1))∧((KQ x x_1)∧(KQ x x_1))∧((KQ x x_1)∧(KQ x x_1)))∧∀(i:Unit),True→∃(x_2:StW),x_2.vals=[]∧(0:Int)=x_2.sum∧(∃(i:Hu×Nat),ruI x.1 x.2.1 x.2.2 i.1 i.2∧(x.1.ind=x.1.ind∧AV.sl false 0 2 Ru ruA x.1.rules=AV.sl false 0 2 Ru ruA x.1.rules∧AV.sl false 0 5 Ch chA x.1.chunks=AV.sl false 0 5 Ch chA x.1.chunks∧AV.sl false 0 3 Sn snA x.1.spans=AV.sl false 0 3 Sn snA x.1.spans∧AV.sl false 0 2 Ti tiA x.1.ties=AV.sl false 0 2 Ti tiA x.1.ties∧x.2.1=x.2.1∧Ad (Dc x.1)=Ad i.1.best∧(Bh x.1 (Dc x.1) x.2.1).over=i.1.cost.over∧(Bh x.1 (Dc x.1) x.2.1).sum=i.1.cost.sum∧AV.sl true 0 2 StW stA [x_2]=AV.sl true 0 2 StW stA i.1.heap∧(0:Int)=i.1.pops∧x.2.2=x.2.2∧True)∧True)∧∀(i:Hu×Nat),ruI x.1 x.2.1 x.2.2 i.1 i.2→Ab (decide ((↑(List.length i.1.heap):Int)>(0:Int))) (Ab (decide (i.1.pops≥x.2.2)) (rA KP x [.int .i64 (2:Int),.box 0 [.int .i64 x.1.ind,AV.sl false 0 2 Ru ruA x.1.rules,AV.sl false 0 5 Ch chA x.1.chunks,AV.sl false 0 3 Sn snA x.1.spans,AV.sl false 0 2 Ti tiA x.1.ties,.int .i64 x.2.1,Ad i.1.best,.int .i64 i.1.cost.over,.int .i64 i.1.cost.sum,AV.sl true 0 2 StW stA i.1.heap,.int .i64 i.1.pops],.top]) (cA QT [AV.sl true 0 2 StW stA i.1.heap] fun x_3 y=>inR IntKind.i64 (i.1.pops+(1:Int))∧true=true∧true=true∧Ab ((↑(List.length (AN x_3.1 (0:Int)).vals):Int)==(↑(List.length x.1.rules):Int)) (∃(x_4:Pc×Int×Hu×List Int),(coP x_4.1 x_4.2.2.2∧List.length x_4.2.2.1.best≤(8:Nat))∧x.1.ind=x_4.1.ind∧AV.sl false 0 2 Ru ruA x.1.rules=AV.sl false 0 2 Ru ruA x_4.1.rules∧AV.sl false 0 5 Ch chA x.1.chunks=AV.sl false 0 5 Ch chA x_4.1.chunks∧AV.sl false 0 3 Sn snA x.1.spans=AV.sl false 0 3 Sn snA x_4.1.spans∧AV.sl false 0 2 Ti tiA x.1.ties=AV.sl false 0 2 Ti tiA x_4.1.ties∧x.2.1=x_4.2.1∧Ad i.1.best=Ad x_4.2.2.1.best∧i.1.cost.over=x_4.2.2.1.cost.over∧i.1.cost.sum=x_4.2.2.1.cost.sum∧AV.sl true 0 2 StW stA (BI x_3.1)=AV.sl true 0 2 StW stA x_4.2.2.1.heap∧i.1.pops+(1:Int)=x_4.2.2.1.pops∧Ad (AN x_3.1 (0:Int)).vals=Ad x_4.2.2.2∧∀(y:Unit),True→eN (Rd x) i [.box 0 [.int .i64 x_4.1.ind,AV.sl false 0 2 Ru ruA x_4.1.rules,AV.sl false 0 5 Ch chA x_4.1.chunks,AV.sl false 0 3 Sn snA x_4.1.spans,AV.sl false 0 2 Ti tiA x_4.1.ties,.int .i64 x_4.2.1,Ad (EG x_4.1 x_4.2.1 x_4.2.2.2 x_4.2.2.1).best,.int .i64 (EG x_4.1 x_4.2.1 x_4.2.2.2 x_4.2.2.1).cost.over,.int .i64 (EG x_4.1 x_4.2.1 x_4.2.2.2 x_4.2.2.1).cost.sum,AV.sl true 0 2 StW stA (EG x_4.1 x_4.2.1 x_4.2.2.2 x_4.2.2.1).heap,.int .i64 (EG x_4.1 x_4.2.1 x_4.2.2.2 x_4.2.2.1).pops],.int .i64 x.2.2]) (∃(x_4:Pc×Int×Hu×List Int×Int),opP x_4.1 x_4.2.2.1 {vals:=x_4.2.2.2.1,sum:=x_4.2.2.2.2}∧x.1.ind=x_4.1.ind∧AV.sl false 0 2 Ru ruA x.1.rules=AV.sl false 0 2 Ru ruA x_4.1.rules∧AV.sl false 0 5 Ch chA x.1.chunks=AV.sl false 0 5 Ch chA x_4.1.chunks∧AV.sl false 0 3 Sn snA x.1.spans=AV.sl false 0 3 Sn snA x_4.1.spans∧AV.sl false 0 2 Ti tiA x.1.ties=AV.sl false 0 2 Ti tiA x_4.1.ties∧x.2.1=x_4.2.1∧Ad i.1.best=Ad x_4.2.2.1.best∧i.1.cost.over=x_4.2.2.1.cost.over∧i.1.cost.sum=x_4.2.2.1.cost.sum∧AV.sl true 0 2 StW stA (BI x_3.1)=AV.sl true 0 2 StW stA x_4.2.2.1.heap∧i.1.pops+(1:Int)=x_4.2.2.1.pops∧Ad (AN x_3.1 (0:Int)).vals=Ad x_4.2.2.2.1∧(AN x_3.1 (0:Int)).sum=x_4.2.2.2.2∧∀(y:Unit),True→eN (Rd x) i [.box 0 [.int .i64 x_4.1.ind,AV.sl false 0 2 Ru ruA x_4.1.rules,AV.sl false 0 5 Ch chA x_4.1.chunks,AV.sl false 0 3 Sn snA x_4.1.spans,AV.sl false 0 2 Ti tiA x_4.1.ties,.int .i64 x_4.2.1,Ad x_4.2.2.1.best,.int .i64 x_4.2.2.1.cost.over,.int .i64 x_4.2.2.1.cost.sum,AV.sl true 0 2 StW stA (opN x_4.1 x_4.2.2.1.cost x_4.2.2.2.1 (Int.toNat (opC x_4.1 {vals:=x_4.2.2.2.1,sum:=x_4.2.2.2.2})) (0:Int) x_4.2.2.1.heap),.int .i64 x_4.2.2.1.pops],.int .i64 x.2.2]))) (rA KP x [.int .i64 (1:Int),.box 0 [.int .i64 x.1.ind,AV.sl false 0 2 Ru ruA x.1.rules,AV.sl false 0 5 Ch chA x.1.chunks,AV.sl false 0 3 Sn snA x.1.spans,AV.sl false 0 2 Ti tiA x.1.ties,.int .i64 x.2.1,Ad i.1.best,.int .i64 i.1.cost.over,.int .i64 i.1.cost.sum,AV.sl true 0 2 StW stA i.1.heap,.int .i64 i.1.pops],.top])) (fun x=>by kernel_rfl) fun(x:Pc×Int×Int) (hx:pcOk x.1∧pcS x.1)=>(by
 dsimp only[KQ,cA,Bl,eN,huA,Rd,Ad,AW,Cu,CA,pcA,rA,Bj,Mp,KP,KG,KO,QT,Bm,Ht,Bn,Aq,Aw,mvL,lnL,mvE,lnE,mvG,mvH,lnG,lnH,Ba]
 obtain⟨p,w,bud⟩:=x;dsimp only at hx ⊢
 obtain⟨hp,hz⟩:=hx
 (repeat' first|refine Ib p ?_|refine Dp p ?_|(apply b2N<;>try dsimp only)|(apply b2M<;>try dsimp only)|(apply a2P<;>try dsimp only)|refine a2Q ?_|(with_reducible first|rfl|exact True.intro|apply AG|apply And.intro|((first|apply Au|apply AE|apply Av|apply AF)<;>intro _))|(apply As<;>intro _)|apply AD|refine Af () ?_ ?_|((first|apply AK|apply AJ|apply AI|apply AH|apply AC|apply AB|apply AA|apply Az|apply Ax)<;>try dsimp only)|apply Af|(refine Prod.forall.2 ?_;intro _;try dsimp only)|(intro _;try dsimp only))
 all_goals try(have hb:=Rb (show ruI _ _ _ _ _ by assumption))
 all_goals first
  |with_reducible rfl
  |exact hz
  |exact()
  |exact(by have:=hp.rl;omega)
  |exact Rc hp hz (Oc hp).1 (Oc hp).2
  |exact Ra hp
  |exact(show(0:Int)=st0.sum from rfl)
  |exact(show st0.vals=[] from rfl)
  |exact Wp ‹_›
  |exact Wo hp ‹_› ‹_› ‹_› ‹_›
  |exact a2R hp ‹_› ‹_› ‹_› ‹_›
  |exact a2S hp ‹_› ‹_› ‹_›
  |exact Wh hp (show ruI _ _ _ _ _ by assumption).1.1.hk _ ‹_›
  |exact Rc hp hz (Wn ‹_› ‹_›).1 (by omega)
  |(have hq:=(show ruI _ _ _ _ _ by assumption).1.1.bl;have:=hp.rl;omega)
  |((try simp only[Aj]);omega)
  |(rw[a2N ‹_› (by omega) (by omega)];done)
  |(rw[Wl ‹_› (by omega)];done)
  |skip)
def KR:Sig:= {X:=Pc×Int×Int,args:=fun x=>[.agg (pcA false x.1),.int .i64 x.2.1,.int .i64 x.2.2],pre:=fun x=>pcS x.1,Y:=Unit,post:=fun x y=>True,res:=fun x y=> .tup [Ad (if Bo x.1 then(srF x.1 x.2.1 x.2.2).1.best else []),.int .i64 (if Bo x.1 then(srF x.1 x.2.1 x.2.2).2 else 0)],outs:=fun x y=>[.top,.top,.top],keep:=true}
theorem b2Q:Ah G Tryz.prog 164 KR:=
 vcFun_okP [(82,0,DB),(195,0,KP)] [] false (fun x=>[]) Tryz.func164 rfl (by decide) ⟨a1v,b2P,trivial⟩ (fun(x:Pc×Int×Int)=>True∧cA DB [.agg [.int .i64 x.1.ind,AV.sl false 0 2 Ru ruA x.1.rules,AV.sl false 0 5 Ch chA x.1.chunks,AV.sl false 0 3 Sn snA x.1.spans,AV.sl false 0 2 Ti tiA x.1.ties]] fun x_1 y=>Ab (!Bo x_1) (rA KR x [.tup [.nil,.int .i64 (0:Int)],.top,.top,.top]) (cA KP [.box 0 [.int .i64 x.1.ind,AV.sl false 0 2 Ru ruA x.1.rules,AV.sl false 0 5 Ch chA x.1.chunks,AV.sl false 0 3 Sn snA x.1.spans,AV.sl false 0 2 Ti tiA x.1.ties,.int .i64 x.2.1,.nil,.int .i64 (0:Int),.int .i64 (0:Int),.nil,.int .i64 (0:Int)],.int .i64 x.2.2] fun x_2 y=>rA KR x [.tup [Ad (srF x_2.1 x_2.2.1 x_2.2.2).1.best,.int .i64 (srF x_2.1 x_2.2.1 x_2.2.2).2],.top,.top,.top])) (fun x=>by kernel_rfl) fun(x:Pc×Int×Int) (hx:pcS x.1)=>(by
 dsimp only[cA,Bl,huA,Ad,CA,pcA,rA,Bj,KP,DB,KR,Bm,sns,Ht,Bn,tis,Aq,Aw,mvL,lnL,mvE,lnE,mvG,mvH,lnG,lnH]
 obtain⟨p,w,bud⟩:=x;dsimp only at hx ⊢
 have hx:pcS p:=hx
 (repeat' first|refine Ib p ?_|refine Dp p ?_|(with_reducible first|rfl|exact True.intro|apply AG|apply And.intro|((first|apply Au|apply AE|apply Av|apply AF)<;>intro _))|(apply As<;>intro _)|apply AD|refine Af () ?_ ?_|((first|apply AK|apply AJ|apply AI|apply AH|apply AC|apply AB|apply AA|apply Az|apply Ax)<;>try dsimp only)|apply Af|(refine Prod.forall.2 ?_;intro _;try dsimp only)|(intro _;try dsimp only))
 all_goals first
  |exact hx
  |(rw[if_pos ‹_›];done)
  |(rw[if_neg (by simp [*])];done)
  |exact⟨EQ ‹_›,hx⟩
  |exact EQ ‹_›
  |with_reducible rfl
  |skip)
end Go.My
end
