/- joined -/
import Derived.Test.YtblmpjljedglaaaGreatDoorQG
import Derived.Shelf.Strings.Builder1
import Derived.Shelf.Strings.OnBuilder
import Derived.Shelf.Strings.Repeat
import Derived.Test.YtblmpjljedglaaaGreatDoorProg
import Derived.ProofKit
set_option linter.unusedSimpArgs false
set_option linter.unusedVariables false
section
namespace Go.My
open Go.Eng Go.Proofs
variable {G:GInv}
def Cz(p:Pc)(i:Int):Ch:=p.chunks.getD i.toNat ch0
theorem HL{p:Pc}{i:Int}{c:Ch}(h:p.chunks[i.toNat]? =some c):Cz p i=c:=by simp [Cz,List.getD,h]
theorem b3w{p:Pc}{i:Int}(h0:0≤i)(h:i<p.chunks.length):p.chunks[i.toNat]? =some (Cz p i):=by
 have e:p.chunks[i.toNat]? =some p.chunks[i.toNat]:=List.getElem?_eq_getElem (by omega)
 rw[HL e];exact e
theorem Ox{v:List Int}{i n:Int}(h:v[i.toNat]? =some n):vAt v i=n:=by simp [vAt,List.getD,h]
def Ix:Sig:= {X:=Pc×List Int×Int,args:=fun x=>[.agg (pcA false x.1),Ad x.2.1,.int .i64 x.2.2],pre:=fun x=>(0≤x.2.2∧x.2.2<x.1.chunks.length)∧(0≤(Cz x.1 x.2.2).rule∧(Cz x.1 x.2.2).rule<x.2.1.length),Y:=Unit,post:=fun x y=>True,res:=fun x y=> .bool (Cf x.2.1 (Cz x.1 x.2.2)),outs:=fun x y=>[.top,.top,.top],keep:=false}
theorem a2B:Ah G Tryz.prog 196 Ix:=
 vcFun_okP [] [] false (fun x=>[]) Tryz.func196 rfl (by decide) trivial (fun(x:Pc×List Int×Int)=>(∀(y:Unit),True→True∧True∧True∧True∧True)∧((0:Int)≤x.2.2∧x.2.2<(↑(List.length x.1.chunks):Int))∧∀(e:Ch),x.1.chunks[Int.toNat x.2.2]? =some e→true=true∧true=true∧((0:Int)≤e.rule∧e.rule<(↑(List.length x.2.1):Int))∧∀(e_1:Int),x.2.1[Int.toNat e.rule]? =some e_1→rA Ix x [.bool (decide (e_1≥e.fr)),.top,.top,.top]) (fun x=>by kernel_rfl) fun(x:Pc×List Int×Int) (hx:(0≤x.2.2∧x.2.2<x.1.chunks.length)∧(0≤(Cz x.1 x.2.2).rule∧(Cz x.1 x.2.2).rule<x.2.1.length))=>(by
 dsimp only[Bl,Ad,pcA,rA,Bj,Ix,Bm,Bn,Aq,Aw]
 obtain⟨p,v,i⟩:=x;dsimp only at hx ⊢
 obtain⟨⟨h1,h2⟩,h3,h4⟩:=hx
 (repeat' first|(with_reducible first|rfl|exact True.intro|apply AG|apply And.intro|((first|apply Au|apply AE|apply Av|apply AF)<;>intro _))|(apply As<;>intro _)|apply AD|refine Af () ?_ ?_|((first|apply AK|apply AJ|apply AI|apply AH|apply AC|apply AB|apply AA|apply Az|apply Ax)<;>try dsimp only)|apply Af|(refine Prod.forall.2 ?_;intro _;try dsimp only)|(intro _;try dsimp only))
 all_goals first
  |rfl
  |omega
  |(rename p.chunks[_]? =some _=>hq;have e:=HL hq;rw[e] at h3 h4;first|omega|(rename v[_]? =some _=>hr;have e2:=Ox hr;rw[e,Cf,e2];done)|(rename v[_]? =some _=>hr;have e2:=Ox hr;rw[e,Cf,e2];exact decide_eq_decide.2 (by omega)))
  |skip)
def KQ:Sig:= {X:=Pc,args:=fun x=>[.agg (pcA false x)],pre:=fun x=>pcS x∧x.rules.length≤100,Y:=Unit,post:=fun x y=>True,res:=fun x y=>AW (Df x),outs:=fun x y=>[.top],keep:=false}
def Rk(x:Pc):LS:= {ι:=Int,inv:=fun i=>0≤i∧i≤x.rules.length,regs:=fun i=>[(3,AW ((x.rules.take i.toNat).map fun r=>r.vals-1)),(7,MB x.rules),(8,.int .i64 x.rules.length),(9,.int .i64 i)],als:=[],meas:=fun i=>x.rules.length-i.toNat}
theorem b3x:Ah G Tryz.prog 215 KQ:=
 vcFun_okP [] [(38,⟨Int,CE⟩)] false (fun x=>[(3,Rk x)]) Tryz.func215 rfl (by decide) trivial (fun(x:Pc)=>(∀(y:Unit),True→(∀(x:Int),True∧True)∧True∧True)∧eA (Rk x) [.nil,AV.sl false 0 2 Ru ruA x.rules,.int .i64 (↑(List.length x.rules):Int),.int .i64 (0:Int)]∧∀(i:Int),(0:Int)≤i∧i≤(↑(List.length x.rules):Int)→Ab (decide (i<(↑(List.length x.rules):Int))) (((0:Int)≤i∧i<(↑(List.length x.rules):Int))∧∀(e:Ru),x.rules[Int.toNat i]? =some e→inR IntKind.i64 (e.vals-(1:Int))∧∃(x_1:Int),e.vals-(1:Int)=x_1∧∃(zs:List Int),AW [x_1]=AW zs∧BH CE∧Bb (List.length (List.map (fun(r:Ru)=>r.vals-(1:Int)) (List.take (Int.toNat i) x.rules))+List.length zs) (8:Nat)∧inR IntKind.i64 (i+(1:Int))∧eN (Rk x) i [AW (List.map (fun(r:Ru)=>r.vals-(1:Int)) (List.take (Int.toNat i) x.rules)++zs),AV.sl false 0 2 Ru ruA x.rules,.int .i64 (↑(List.length x.rules):Int),.int .i64 (i+(1:Int))]) (rA KQ x [AW (List.map (fun(r:Ru)=>r.vals-(1:Int)) (List.take (Int.toNat i) x.rules)),.top])) (fun x=>by kernel_rfl) fun(x:Pc) (hx:pcS x∧x.rules.length≤100)=>(by
 dsimp only[Bl,eA,eN,Rk,AW,pcA,rA,Bj,MB,KQ,Bm,Bn,Aq,Aw,AZ]
 obtain⟨h1,h2⟩:=hx
 have hv:=h1.2.2
 (repeat' first|(with_reducible first|rfl|exact True.intro|apply AG|apply And.intro|((first|apply Au|apply AE|apply Av|apply AF)<;>intro _))|(apply As<;>intro _)|apply AD|refine Af () ?_ ?_|((first|apply AK|apply AJ|apply AI|apply AH|apply AC|apply AB|apply AA|apply Az|apply Ax)<;>try dsimp only)|apply Af|(refine Prod.forall.2 ?_;intro _;try dsimp only)|(intro _;try dsimp only))
 all_goals first
  |rfl
  |omega
  |(have hm:=hv _ (AY ‹_›);omega)
  |(rw[BD (by omega),CT ‹_›,List.map_append];rfl)
  |(rw[Df,List.take_of_length_le (by omega)];done)
  |(simp [Bb];omega)
  |((try simp only[Bb,List.length_append,List.length_map,List.length_take,List.length_cons,List.length_nil]);omega)
  |skip)
structure renP (p:Pc) (v:List Int):Prop where
 ok:pcOk p
 vl:v.length=p.rules.length
 ct:Ck p.chunks≤2^61
def Ej(l:List (List UInt8)):AV:= .sl false 0 1 (List UInt8) Ag l
def Cg(l:List (List UInt8)):AV:= .sl true 0 1 (List UInt8) Ag l
theorem a2C{ind:Int}{v:List Int}:∀ {l:List Ch} {s:List UInt8},s.length≤lnS (rnL ind v l s)∧1≤(rnL ind v l s).length
 |[],s=>by simp [rnL,lnS]
 |[c],s=>by simp [rnL,lnS]
 |c::d::l,s=>by
  rw[rnL]
  split
  ·simp [lnS];omega
  ·have:=a2C (ind:=ind) (v:=v) (l:=d::l) (s:=s++c.text++(if c.space then [32] else []))
   simp only[List.length_append] at this ⊢
   omega
def rnI(p:Pc)(v:List Int)(i:Int)(ls:List (List UInt8))(s:List UInt8):Prop:=(0≤i∧i<p.chunks.length)∧ls++rnL p.ind v (p.chunks.drop i.toNat) s=BF p v
theorem a2D{p:Pc}{v:List Int}(h:pcOk p):rnI p v 0 [] (blk p.ind):=⟨by have:=h.cl;omega,rfl⟩
theorem a2E{p:Pc}{v:List Int}{i:Int}{ls:List (List UInt8)}{s:List UInt8}(hp:pcOk p)(h:rnI p v i ls s):(lnS ls+s.length≤Ck p.chunks+8200)∧ls.length≤80:=by
 have h1:=Oo (v:=v) hp
 rw[←h.2,a2m,List.length_append] at h1
 have h2:=a2C (ind:=p.ind) (v:=v) (l:=p.chunks.drop i.toNat) (s:=s)
 omega
theorem a2F{p:Pc}{v:List Int}{i:Int}{ls:List (List UInt8)}{s:List UInt8}{c:Ch}(h:rnI p v i ls s)(hc:p.chunks[i.toNat]? =some c)(hi:i=(p.chunks.length:Int)-1):ls++[s++c.text]=BF p v:=by
 have h2:=h.2
 rw[Dq hc,List.drop_of_length_le (by omega),rnL] at h2
 exact h2
theorem Wo{p:Pc}{v:List Int}{i:Int}{ls:List (List UInt8)}{s:List UInt8}{c:Ch}(h:rnI p v i ls s)(hc:p.chunks[i.toNat]? =some c)(hi:i≠(p.chunks.length:Int)-1):
 rnL p.ind v (p.chunks.drop i.toNat) s=if Cf v c then(s++c.text)::rnL p.ind v (p.chunks.drop (i+1).toNat) (blk (p.ind+c.nest)) else rnL p.ind v (p.chunks.drop (i+1).toNat) (s++c.text++(if c.space then [32] else [])):=by
 rw[Dq hc,BD h.1.1]
 have hl:(i.toNat+1)<p.chunks.length:=by have:=h.1;omega
 rw[List.drop_eq_getElem_cons hl,rnL]
theorem a2G{p:Pc}{v:List Int}{i:Int}{ls:List (List UInt8)}{s:List UInt8}{c:Ch}(h:rnI p v i ls s)(hc:p.chunks[i.toNat]? =some c)(hi:i≠(p.chunks.length:Int)-1)(hs:Cf v c=true):
 rnI p v (i+1) (ls++[s++c.text]) (blk (p.ind+c.nest)):=by
 refine⟨by have:=h.1;omega,?_⟩
 rw[←h.2,Wo h hc hi,if_pos hs];simp
theorem a2H{p:Pc}{v:List Int}{i:Int}{ls:List (List UInt8)}{s:List UInt8}{c:Ch}(h:rnI p v i ls s)(hc:p.chunks[i.toNat]? =some c)(hi:i≠(p.chunks.length:Int)-1)(hs:Cf v c=false)(hb:c.space=true):
 rnI p v (i+1) ls (s++c.text++[32]):=by
 refine⟨by have:=h.1;omega,?_⟩
 rw[←h.2,Wo h hc hi,if_neg (by simp [hs]),hb];rfl
theorem a2I{p:Pc}{v:List Int}{i:Int}{ls:List (List UInt8)}{s:List UInt8}{c:Ch}(h:rnI p v i ls s)(hc:p.chunks[i.toNat]? =some c)(hi:i≠(p.chunks.length:Int)-1)(hs:Cf v c=false)(hb:c.space=false):
 rnI p v (i+1) ls (s++c.text):=by
 refine⟨by have:=h.1;omega,?_⟩
 rw[←h.2,Wo h hc hi,if_neg (by simp [hs]),hb];simp
theorem a2J{p:Pc}{v:List Int}{i:Int}{c:Ch}(h:renP p v)(h0:0≤i∧i<p.chunks.length)(hc:p.chunks[i.toNat]? =some c)(hi:i≠(p.chunks.length:Int)-1):(0≤c.rule∧c.rule<v.length)∧(0≤c.nest∧c.nest≤40):=by
 have:=h.ok.sp i.toNat c hc (by omega)
 rw[h.vl];exact⟨this.1,this.2.2⟩
def snI(p:Pc)(v:List Int)(s:Sn)(i:Int):Prop:=(s.fr≤i∧i≤s.tuu+1)∧((p.chunks.take i.toNat).drop s.fr.toNat).any (FD p v)=false
theorem b3y{p:Pc}{v:List Int}{s:Sn}(h:s.fr≤s.tuu):snI p v s s.fr:=⟨by omega,by rw[List.drop_of_length_le (by rw[List.length_take];omega)];rfl⟩
theorem b3z{p:Pc}{v:List Int}{s:Sn}{i:Int}{c:Ch}(h0:0≤s.fr)(h:snI p v s i)(hi:i≤s.tuu)(hc:p.chunks[i.toNat]? =some c)(hs:FD p v c=true):true=snS p v s:=by
 symm
 rw[snS,List.any_eq_true]
 refine⟨c,?_,hs⟩
 have h1:=h.1
 have hlt:=(Cm hc).1
 rw[List.mem_iff_getElem?]
 refine⟨i.toNat-s.fr.toNat,?_⟩
 rw[List.getElem?_drop,List.getElem?_take,if_pos (by omega),show s.fr.toNat+(i.toNat-s.fr.toNat)=i.toNat by omega]
 exact hc
theorem a2K{p:Pc}{v:List Int}{s:Sn}{i:Int}{c:Ch}(h0:0≤s.fr)(h:snI p v s i)(hi:i≤s.tuu)(hc:p.chunks[i.toNat]? =some c)(hs:FD p v c=false):snI p v s (i+1):=by
 refine⟨by have:=h.1;omega,?_⟩
 have hlt:=(Cm hc).1
 rw[BD (by have:=h.1;omega),CT hc,List.drop_append_of_le_length (by rw[List.length_take];have:=h.1;omega),List.any_append,h.2]
 simp [hs]
theorem b3A{p:Pc}{v:List Int}{s:Sn}{i:Int}(h:snI p v s i)(hi:¬i≤s.tuu):false=snS p v s:=by
 rw[snS,show s.tuu+1=i by have:=h.1;omega];exact h.2.symm
theorem a2L{p:Pc}{v:List Int}{c:Ch}(h:¬c.rule<v.length):FD p v c=false:=by simp [FD,h]
theorem Wp{p:Pc}{v:List Int}{c:Ch}(h:c.rule<v.length):FD p v c=Cf v c:=by simp [FD,h]
theorem a2M{p:Pc}{v:List Int}{i:Int}{c:Ch}{b:Bool}(hc:p.chunks[i.toNat]? =some c)(h:c.rule<v.length)(hs:Cf v (Cz p i)=b):FD p v c=b:=by
 rw[Wp h,←hs,HL hc]
structure spnP (p:Pc) (v:List Int) (s:Sn):Prop where
 ok:pcOk p
 vl:v.length≤p.rules.length
 sn:0≤s.fr∧s.fr≤s.tuu∧s.tuu<(p.chunks.length:Int)-1
theorem b3B{p:Pc}{v:List Int}{s:Sn}{i:Int}{c:Ch}(h:spnP p v s)(hi:snI p v s i)(hle:i≤s.tuu)(hc:p.chunks[i.toNat]? =some c):0≤c.rule∧0≤i∧i<p.chunks.length:=by
 have h1:=h.sn;have h2:=hi.1
 have:=h.ok.sp i.toNat c hc (by omega)
 exact⟨this.1.1,by omega,by omega⟩
def KR:Sig:= {X:=Pc×List Int×Sn,args:=fun x=>[.agg (pcA false x.1),Ad x.2.1,.agg (snA x.2.2)],pre:=fun x=>spnP x.1 x.2.1 x.2.2,Y:=Unit,post:=fun x y=>True,res:=fun x y=> .bool (snS x.1 x.2.1 x.2.2),outs:=fun x y=>[.top,.top,.top],keep:=false}
def Oy(x:Pc×List Int×Sn):LS:= {ι:=Int,inv:=fun i=>snI x.1 x.2.1 x.2.2 i,regs:=fun i=>[(1,Ad x.2.1),(3,.box 0 (pcA false x.1)),(5,.box 0 (snA x.2.2)),(7,.int .i64 i)],als:=[],meas:=fun i=>(x.2.2.tuu+1-i).toNat}
theorem b3C:Ah G Tryz.prog 241 KR:=
 vcFun_okP [(196,0,Ix)] [] false (fun x=>[(2,Oy x)]) Tryz.func241 rfl (by decide) ⟨a2B,trivial⟩ (fun(x:Pc×List Int×Sn)=>(∀(y:Unit),True→True∧True∧True∧True∧True)∧eA (Oy x) [Ad x.2.1,.box 0 [.int .i64 x.1.ind,AV.sl false 0 2 Ru ruA x.1.rules,AV.sl false 0 5 Ch chA x.1.chunks,AV.sl false 0 3 Sn snA x.1.spans,AV.sl false 0 2 Ti tiA x.1.ties],.box 0 [.int .i64 x.2.2.fr,.int .i64 x.2.2.tuu,.int .i64 x.2.2.cost],.int .i64 x.2.2.fr]∧∀(i:Int),snI x.1 x.2.1 x.2.2 i→Ab (decide (i≤x.2.2.tuu)) (((0:Int)≤i∧i<(↑(List.length x.1.chunks):Int))∧∀(e:Ch),x.1.chunks[Int.toNat i]? =some e→Ab (decide (e.rule<(↑(List.length x.2.1):Int))) (cA Ix [.agg [.int .i64 x.1.ind,AV.sl false 0 2 Ru ruA x.1.rules,AV.sl false 0 5 Ch chA x.1.chunks,AV.sl false 0 3 Sn snA x.1.spans,AV.sl false 0 2 Ti tiA x.1.ties],Ad x.2.1,.int .i64 i] fun x_1 y=>Ab (Cf x_1.2.1 (Cz x_1.1 x_1.2.2)) (rA KR x [.bool true,.top,.top,.top]) (inR IntKind.i64 (i+(1:Int))∧(eN (Oy x) i [Ad x.2.1,.box 0 [.int .i64 x.1.ind,AV.sl false 0 2 Ru ruA x.1.rules,AV.sl false 0 5 Ch chA x.1.chunks,AV.sl false 0 3 Sn snA x.1.spans,AV.sl false 0 2 Ti tiA x.1.ties],.box 0 [.int .i64 x.2.2.fr,.int .i64 x.2.2.tuu,.int .i64 x.2.2.cost],.int .i64 (i+(1:Int))]))) (inR IntKind.i64 (i+(1:Int))∧(eN (Oy x) i [Ad x.2.1,.box 0 [.int .i64 x.1.ind,AV.sl false 0 2 Ru ruA x.1.rules,AV.sl false 0 5 Ch chA x.1.chunks,AV.sl false 0 3 Sn snA x.1.spans,AV.sl false 0 2 Ti tiA x.1.ties],.box 0 [.int .i64 x.2.2.fr,.int .i64 x.2.2.tuu,.int .i64 x.2.2.cost],.int .i64 (i+(1:Int))]))) (rA KR x [.bool false,.top,.top,.top])) (fun x=>by kernel_rfl) fun(x:Pc×List Int×Sn) (hx:spnP x.1 x.2.1 x.2.2)=>(by
 dsimp only[cA,Bl,eA,eN,Oy,Ad,pcA,rA,Bj,KR,Ix,Bm,Bn,Aq,Aw,mvL,lnL,mvE,lnE,mvG,mvH,lnG,lnH,AZ]
 obtain⟨p,v,s⟩:=x;dsimp only at hx ⊢
 have hx:spnP p v s:=hx
 have h1:=hx.ok.cl;have h2:=hx.ok.rl;have h3:=hx.sn;have h4:=hx.vl
 (repeat' first|refine Ds p ?_|(with_reducible first|rfl|exact True.intro|apply AG|apply And.intro|((first|apply Au|apply AE|apply Av|apply AF)<;>intro _))|(apply As<;>intro _)|apply AD|refine Af () ?_ ?_|((first|apply AK|apply AJ|apply AI|apply AH|apply AC|apply AB|apply AA|apply Az|apply Ax)<;>try dsimp only)|apply Af|(refine Prod.forall.2 ?_;intro _;try dsimp only)|(intro _;try dsimp only))
 all_goals first
  |rfl
  |omega
  |exact b3y h3.2.1
  |exact b3A ‹_› ‹_›
  |(have hq:=(show snI _ _ _ _ by assumption).1;(try simp only[Ai]);omega)
  |(have hr:=b3B hx ‹_› ‹_› ‹_›;(try rw[HL ‹_›]);omega)
  |exact a2K h3.1 ‹_› ‹_› ‹_› (a2L ‹_›)
  |exact b3z h3.1 ‹_› ‹_› ‹_› (a2M ‹_› ‹_› ‹_›)
  |exact a2K h3.1 ‹_› ‹_› ‹_› (a2M ‹_› ‹_› ‹_›)
  |skip)
end Go.My
end
section
namespace Go.Proofs
open Go.Shelf
def Tryz.lays156_ren:Go.Shelf.Ren:=⟨fun|156=>128|165=>166|166=>167|169=>168|240=>197|241=>198|276=>220|277=>221|n=>n,fun|31=>42|9=>9|3=>3|4=>4|0=>0|20=>20|72=>186|76=>189|70=>184|37=>22|75=>188|127=>201|164=>216|5=>5|80=>161|n=>n,fun|n=>n⟩
theorem Tryz.lays156:Go.Proofs.Lays.n156 Tryz.prog Tryz.lays156_ren:= {
 mixed:=by kernel_rfl
 f156:=Tryz.func128.trans (congrArg some (by kernel_rfl))
 f165:=Tryz.func166.trans (congrArg some (by kernel_rfl))
 f166:=Tryz.func167.trans (congrArg some (by kernel_rfl))
 f169:=Tryz.func168.trans (congrArg some (by kernel_rfl))
 f240:=Tryz.func197.trans (congrArg some (by kernel_rfl))
 f241:=Tryz.func198.trans (congrArg some (by kernel_rfl))
 f276:=Tryz.func220.trans (congrArg some (by kernel_rfl))
 f277:=Tryz.func221.trans (congrArg some (by kernel_rfl))
 t0:=Tryz.underlying0
 a0:=Tryz.isAgg0
 z0:=Tryz.sizeOf0
 v0:=Tryz.zeroValue0
 t3:=Tryz.underlying3
 a3:=Tryz.isAgg3
 z3:=Tryz.sizeOf3
 v3:=Tryz.zeroValue3
 t4:=Tryz.underlying4
 a4:=Tryz.isAgg4
 z4:=Tryz.sizeOf4
 v4:=Tryz.zeroValue4
 t9:=Tryz.underlying9
 a9:=Tryz.isAgg9
 z9:=Tryz.sizeOf9
 v9:=Tryz.zeroValue9
 t20:=Tryz.underlying20
 a20:=Tryz.isAgg20
 z20:=Tryz.sizeOf20
 v20:=Tryz.zeroValue20
 t31:=Tryz.underlying42
 a31:=Tryz.isAgg42
 z31:=Tryz.sizeOf42
 v31:=Tryz.zeroValue42
 t37:=Tryz.underlying22
 a37:=Tryz.isAgg22
 z37:=Tryz.sizeOf22
 v37:=Tryz.zeroValue22
 t70:=Tryz.underlying184
 a70:=Tryz.isAgg184
 z70:=Tryz.sizeOf184
 v70:=Tryz.zeroValue184
 t72:=Tryz.underlying186
 a72:=Tryz.isAgg186
 z72:=Tryz.sizeOf186
 v72:=Tryz.zeroValue186
 t75:=Tryz.underlying188
 a75:=Tryz.isAgg188
 z75:=Tryz.sizeOf188
 v75:=Tryz.zeroValue188
 t76:=Tryz.underlying189
 a76:=Tryz.isAgg189
 z76:=Tryz.sizeOf189
 v76:=Tryz.zeroValue189
 t127:=Tryz.underlying201
 a127:=Tryz.isAgg201
 z127:=Tryz.sizeOf201
 v127:=Tryz.zeroValue201
 t164:=Tryz.underlying216
 a164:=Tryz.isAgg216
 z164:=Tryz.sizeOf216
 v164:=Tryz.zeroValue216}
theorem Tryz.Builder_Extra_156:Builder.Extra Tryz.prog Tryz.lays156_ren:= {
 sizeBuilder:=by kernel_rfl
 liesBuilder:=by kernel_rfl
 t5:=Tryz.underlying5
 a5:=Tryz.isAgg5
 z5:=Tryz.sizeOf5
 v5:=Tryz.zeroValue5
 infoByte:=by kernel_rfl
 cellsByte:=by kernel_rfl
 sizeByte:=by kernel_rfl
 neB5:=by decide}
open Go.RowKit in
theorem Tryz.strings_Join_none(a:Option Addr)(c:Nat)(sep:ByteArray)(w:World):
 Calls Tryz.prog 128 #[.slice a 0 c,.string sep] w fun e w'=>e= .returned (.string ⟨#[]⟩)∧w'=w:=Any.strings_Join_none Tryz.lays156 Tryz.Builder_Extra_156 a c sep w
open Go.RowKit in
theorem Tryz.strings_Join(bk o c:Nat)(xs:List ByteArray)(sep:ByteArray)(w:World)(hcells:∀(j:Nat) x,xs[j]? =some x→w.cell? ⟨bk,o+j,none⟩=some (.string x))(hbk:bk<w.heap.size)(hN:xs.length≤140737488355328)(hcap:xs.length≤c)(hlen:(Lib.join (xs.map (·.data.toList)) sep.data.toList).length≤140737488355328):
 Calls Tryz.prog 128 #[.slice (some ⟨bk,o,none⟩) xs.length c,.string sep] w fun e w'=>e= .returned (.string ⟨(Lib.join (xs.map (·.data.toList)) sep.data.toList).toArray⟩)∧Below w.heap.size w w':=Any.strings_Join Tryz.lays156 Tryz.Builder_Extra_156 bk o c xs sep w hcells hbk hN hcap hlen
def Tryz.lays105_ren:Go.Shelf.Ren:=⟨fun|105=>163|212=>192|99=>193|165=>166|166=>167|170=>194|169=>168|263=>212|264=>213|206=>214|240=>197|241=>198|276=>220|277=>221|n=>n,fun|9=>9|3=>3|4=>4|20=>20|0=>0|46=>163|109=>197|5=>5|72=>186|76=>189|51=>207|146=>208|53=>210|148=>211|70=>184|37=>22|75=>188|127=>201|164=>216|80=>161|n=>n,fun|n=>n⟩
theorem Tryz.lays105:Go.Proofs.Lays.n105 Tryz.prog Tryz.lays105_ren:= {
 mixed:=by kernel_rfl
 f99:=Tryz.func193.trans (congrArg some (by kernel_rfl))
 f105:=Tryz.func163.trans (congrArg some (by kernel_rfl))
 f165:=Tryz.func166.trans (congrArg some (by kernel_rfl))
 f166:=Tryz.func167.trans (congrArg some (by kernel_rfl))
 f169:=Tryz.func168.trans (congrArg some (by kernel_rfl))
 f170:=Tryz.func194.trans (congrArg some (by kernel_rfl))
 f206:=Tryz.func214.trans (congrArg some (by kernel_rfl))
 f212:=Tryz.func192.trans (congrArg some (by kernel_rfl))
 f240:=Tryz.func197.trans (congrArg some (by kernel_rfl))
 f241:=Tryz.func198.trans (congrArg some (by kernel_rfl))
 f263:=Tryz.func212.trans (congrArg some (by kernel_rfl))
 f264:=Tryz.func213.trans (congrArg some (by kernel_rfl))
 f276:=Tryz.func220.trans (congrArg some (by kernel_rfl))
 f277:=Tryz.func221.trans (congrArg some (by kernel_rfl))
 t0:=Tryz.underlying0
 a0:=Tryz.isAgg0
 z0:=Tryz.sizeOf0
 v0:=Tryz.zeroValue0
 t3:=Tryz.underlying3
 a3:=Tryz.isAgg3
 z3:=Tryz.sizeOf3
 v3:=Tryz.zeroValue3
 t4:=Tryz.underlying4
 a4:=Tryz.isAgg4
 z4:=Tryz.sizeOf4
 v4:=Tryz.zeroValue4
 t5:=Tryz.underlying5
 a5:=Tryz.isAgg5
 z5:=Tryz.sizeOf5
 v5:=Tryz.zeroValue5
 t9:=Tryz.underlying9
 a9:=Tryz.isAgg9
 z9:=Tryz.sizeOf9
 v9:=Tryz.zeroValue9
 t20:=Tryz.underlying20
 a20:=Tryz.isAgg20
 z20:=Tryz.sizeOf20
 v20:=Tryz.zeroValue20
 t37:=Tryz.underlying22
 a37:=Tryz.isAgg22
 z37:=Tryz.sizeOf22
 v37:=Tryz.zeroValue22
 t46:=Tryz.underlying163
 a46:=Tryz.isAgg163
 z46:=Tryz.sizeOf163
 v46:=Tryz.zeroValue163
 t51:=Tryz.underlying207
 a51:=Tryz.isAgg207
 z51:=Tryz.sizeOf207
 v51:=Tryz.zeroValue207
 t53:=Tryz.underlying210
 a53:=Tryz.isAgg210
 z53:=Tryz.sizeOf210
 v53:=Tryz.zeroValue210
 t70:=Tryz.underlying184
 a70:=Tryz.isAgg184
 z70:=Tryz.sizeOf184
 v70:=Tryz.zeroValue184
 t72:=Tryz.underlying186
 a72:=Tryz.isAgg186
 z72:=Tryz.sizeOf186
 v72:=Tryz.zeroValue186
 t75:=Tryz.underlying188
 a75:=Tryz.isAgg188
 z75:=Tryz.sizeOf188
 v75:=Tryz.zeroValue188
 t76:=Tryz.underlying189
 a76:=Tryz.isAgg189
 z76:=Tryz.sizeOf189
 v76:=Tryz.zeroValue189
 t109:=Tryz.underlying197
 a109:=Tryz.isAgg197
 z109:=Tryz.sizeOf197
 v109:=Tryz.zeroValue197
 t127:=Tryz.underlying201
 a127:=Tryz.isAgg201
 z127:=Tryz.sizeOf201
 v127:=Tryz.zeroValue201
 t146:=Tryz.underlying208
 a146:=Tryz.isAgg208
 z146:=Tryz.sizeOf208
 v146:=Tryz.zeroValue208
 t148:=Tryz.underlying211
 a148:=Tryz.isAgg211
 z148:=Tryz.sizeOf211
 v148:=Tryz.zeroValue211
 t164:=Tryz.underlying216
 a164:=Tryz.isAgg216
 z164:=Tryz.sizeOf216
 v164:=Tryz.zeroValue216}
theorem Tryz.Builder_Extra_105:Builder.Extra Tryz.prog Tryz.lays105_ren:= {
 sizeBuilder:=by kernel_rfl
 liesBuilder:=by kernel_rfl
 t5:=Tryz.underlying5
 a5:=Tryz.isAgg5
 z5:=Tryz.sizeOf5
 v5:=Tryz.zeroValue5
 infoByte:=by kernel_rfl
 cellsByte:=by kernel_rfl
 sizeByte:=by kernel_rfl
 neB5:=by decide}
open Go.RowKit Go.Lib in
theorem Tryz.strings_Repeat(s:ByteArray)(c:Nat)(w:World)(hc:c≤9223372036854775807)(hlen:s.size*c≤140737488355328):
 Calls Tryz.prog 163 #[.string s,.int .i64 c] w fun e w'=>e= .returned (.string ⟨(Lib.repeatL s.data.toList c).toArray⟩)∧Below w.heap.size w w':=Any.strings_Repeat Tryz.lays105 Tryz.Builder_Extra_105 s c w hc hlen
end Go.Proofs
end
section
namespace Go.Eng
def Old(w:World):FP:=fun b=>w.heap.size≤b
def Opens(P:Program)(t:TypeId){α:Type}(f:α→List AV)(good:α→Prop):Prop:=
 ∀ {H:Type} (enc:TypeId×Value→H) (w:World) (spare:Nat→Bool) (held:Bool) (fuel:Nat) (cs:List Value) (y:DataW H×List MemPlace),
   DataW.trod enc P w 0 spare held fuel t cs=some y→∃x:α,good x∧AS (Old w) w (f x) cs (fun _=>False)
theorem Iy{Z:FP}{w:World}{a:AV}{v:Value}:AS Z w [a] [v] (fun _=>False)↔Aj Z w a v (fun _=>False):=by
 simp only[AS]
 constructor
 ·rintro⟨u,cs',A,B,e,hj,h1,h2,h3⟩
  simp only[List.cons.injEq] at e
  obtain⟨rfl,rfl⟩:=e
  have:=(Gi hj AO).1
  rwa [DM this] at h1
 ·intro h
  exact⟨v,[],fun _=>False,fun _=>False,rfl,BB _,h,rfl,AO⟩
theorem MC{Z:FP}{w:World}{a:AV}{azs:List AV}{v:Value}{vs:List Value}(h1:Aj Z w a v (fun _=>False))(h2:AS Z w azs vs (fun _=>False)):
 AS Z w (a::azs) (v::vs) (fun _=>False):=by
 simp only[AS]
 exact⟨v,vs,_,_,rfl,BB _,h1,h2⟩
theorem b3D{k:IntKind}{n:Int}(h:(Lit.int k n).wf=true):inR k n:=by
 unfold inR
 simpa [Lit.wf] using h
theorem Wq{P:Program}{t:TypeId}{k:IntKind}(ht:P.underlying t=some (.int k)):Opens P t (fun n:Int=>[.int k n]) (fun n=>inR k n):=by
 intro H enc w spare held fuel cs y h
 obtain⟨n,rfl,_,hw⟩:=DataW.trod_int ht h
 exact⟨n,b3D hw,Iy.2 (by simp [Aj,emp])⟩
theorem b3E{P:Program}{t:TypeId}(ht:P.underlying t=some .bool):Opens P t (fun b:Bool=>[.bool b]) (fun _=>True):=by
 intro H enc w spare held fuel cs y h
 obtain⟨n,rfl,_⟩:=DataW.trod_bool ht h
 exact⟨n,trivial,Iy.2 (by simp [Aj,emp])⟩
theorem b3F{P:Program}{t:TypeId}(ht:P.underlying t=some .string):Opens P t (fun s:List UInt8=>[.str s]) (fun s=>s.length<2^63):=by
 intro H enc w spare held fuel cs y h
 obtain⟨n,rfl,_,hl⟩:=DataW.trod_string ht h
 refine⟨n.data.toList,?_,Iy.2 ?_⟩
 ·have:n.data.toList.length≤maxLen:=hl
  unfold maxLen at this;omega
 ·simp only[Aj];exact⟨trivial,AO⟩
theorem a2N{α:Type}{p:Nat→α→Prop}:∀n,(∀i,i<n→∃x,p i x)→∃l:List α,l.length=n∧∀i x,l[i]? =some x→p i x
 |0,_=>⟨[],rfl,fun i x h=>by simp at h⟩
 |n+1,h=>by
  obtain⟨l,hl,hp⟩:=a2N n fun i hi=>h i (by omega)
  obtain⟨x,hx⟩:=h n (by omega)
  refine⟨l++[x],by simp [hl],fun i y hy=> ?_⟩
  by_cases hi:i<l.length
  ·rw[List.getElem?_append_left hi] at hy;exact hp i y hy
  ·rw[List.getElem?_append_right (by omega)] at hy
   have:i-l.length=0:=by
    rcases Nat.eq_zero_or_pos (i-l.length) with h|h
    ·exact h
    ·rw[List.getElem?_eq_none (by simp;omega)] at hy;cases hy
   rw[this] at hy;simp at hy;subst hy
   rwa [show i=n by omega]
theorem a2O{α:Type}{sz:Nat}{R:α→List Value→FP→Prop}:∀(xs:List α) (arr:List Value),
 (∀(i:Nat) (x:α),xs[i]? =some x→((arr.drop (i*sz)).take sz).length=sz∧R x ((arr.drop (i*sz)).take sz) (fun _=>False))→Rows sz R xs arr (fun _=>False)
 |[],arr,h=>AO
 |x::xs,arr,h=>by
  have h0:=h 0 x rfl
  simp only[Nat.zero_mul,List.drop_zero] at h0
  refine⟨_,_,BB _,h0.1,h0.2,a2O xs (arr.drop sz) fun i y hy=> ?_⟩
  have:=h (i+1) y (by simpa using hy)
  rwa [Nat.succ_mul,Nat.add_comm,←List.drop_drop] at this
theorem a2P{P:Program}{t e:TypeId}{sz:Nat}{α:Type}{f:α→List AV}{good:α→Prop}(ht:P.underlying t=some (.slice e))(hc:P.cellsOf e=sz)(hpos:0<sz)
 (ho:Opens P e f good):Opens P t (fun l:List α=>[.sl false 0 sz α f l]) (fun l=>l.length<2^63∧∀x∈l,good x):=by
 intro H enc w spare held fuel cs y h
 rcases DataW.trod_slice ht h with⟨rfl,_⟩|⟨a,len,cap,elems,rest,n,_,rfl,_,hb,hl,hm,hlen,hel,_,_⟩
 ·refine⟨[],⟨by simp,by simp⟩,Iy.2 ?_⟩
  simp only[Aj]
  exact⟨none,0,0,rfl,rfl,Nat.le_refl _,.inr ⟨trivial,AO,.inl trivial⟩⟩
 ·have each:∀i,i<len→∃x:α,good x∧∃cs,w.cells? 0 (a.add (i*sz)) sz=some cs∧AS (Old w) w (f x) cs (fun _=>False):=by
   intro i hi
   have h1:=hel i hi
   rw[hc] at h1
   rw[List.getElem?_eq_getElem (by omega:i<elems.length),Option.bind_eq_some_iff] at h1
   obtain⟨cs,h2,h3⟩:=h1
   obtain⟨x,hg,hr⟩:=ho enc w spare held n cs _ h3
   exact⟨x,hg,cs,h2,hr⟩
  obtain⟨l,hll,hp⟩:=a2N len each
  refine⟨l,⟨?_,?_⟩,Iy.2 ?_⟩
  ·unfold maxLen at hm;omega
  ·intro x hx
   obtain⟨i,hi⟩:=List.getElem?_of_mem hx
   exact(hp i x hi).1
  ·simp only[Aj]
   refine⟨some a,len,cap,rfl,hll.symm,hl,.inr ⟨trivial,AO,?_⟩⟩
   rcases Nat.eq_zero_or_pos len with h0|h0
   ·exact .inl (List.length_eq_zero_iff.1 (by omega))
   ·refine .inr ?_
    obtain⟨x0,_,c0,hc0,_⟩:=each 0 h0
    have h00:=(World.cells?_some hc0).2.2 0 hpos
    have hcl:=(World.cells?_some hc0).2.1
    simp only[Nat.zero_mul,Addr.add] at h00
    obtain⟨b,off,sp⟩:=a
    simp only[World.cell?,if_true] at h00
    split at h00
    ·rename_i arr ty fr harr
     split at h00
     ·rw[List.getElem?_eq_getElem (by omega)] at h00;cases h00
     ·rename_i hsp
      have hsp:sp=none:=by simpa using hsp
      subst hsp
      have hlt:b<w.heap.size:=by
       rcases Nat.lt_or_ge b w.heap.size with h|h
       ·exact h
       ·rw[Array.getElem?_eq_none h] at harr;cases harr
      refine⟨b,off,arr,ty,fr,rfl,by unfold Old;omega,harr,a2O l _ fun i x hx=> ?_⟩
      have hi:i<l.length:=(List.getElem?_eq_some_iff.1 hx).1
      obtain⟨hg,cs,hcs,hr⟩:=hp i x hx
      obtain⟨_,hcl,hce⟩:=World.cells?_some hcs
      have e:((arr.toList.drop off).drop (i*sz)).take sz=cs:=by
       refine List.ext_getElem? fun j=> ?_
       rw[List.getElem?_take]
       split
       ·rename_i hj
        have:=hce j hj
        rw[←this]
        simp only[List.getElem?_drop,Array.getElem?_toList]
        have ea:((⟨b,off,none⟩:Addr).add (i*sz)).add j=⟨b,off+i*sz+j,none⟩:=by
         unfold Addr.add
         by_cases h1:i*sz=0<;>by_cases h2:j=0<;>simp [h1,h2]
        rw[ea]
        simp only[World.cell?,harr]
        simp [Nat.add_assoc]
       ·rw[List.getElem?_eq_none (by omega)]
      rw[e]
      exact⟨hcl,hr⟩
    ·rw[List.getElem?_eq_getElem (by omega)] at h00;cases h00
theorem b3G{P:Program}{H:Type}{enc:TypeId×Value→H}{w:World}{base:Nat}{spare:Nat→Bool}{held:Bool}{fuel:Nat}{t:TypeId}{cs:List Value}{y:DataW H×List MemPlace}{fs:Array Field}
 (ht:P.underlying t=some (.struct fs)) (hn:P.cellsOf t=fs.size) (hf:∀(i:Nat) (f:Field),fs[i]? =some f→f.offset=i∧P.cellsOf f.type=1)
 (h:DataW.trod enc P w base spare held fuel t cs=some y):cs.length=fs.size∧∃n,∀(i:Nat) (f:Field) (c:Value),fs[i]? =some f→cs[i]? =some c→
   ∃z,DataW.trod enc P w base spare held n f.type [c]=some z:=by
 obtain⟨xs,n,_,_,h1,h2,h3⟩:=DataW.trod_struct ht h
 refine⟨by omega,n,fun i f c hi hc=> ?_⟩
 have h4:=h3 i f hi
 rw[(hf i f hi).1,(hf i f hi).2] at h4
 have hlt:i<cs.length:=(List.getElem?_eq_some_iff.1 hc).1
 have e:(cs.drop i).take 1=[c]:=by
  rw[List.drop_eq_getElem_cons hlt]
  simp only[List.take_succ_cons,List.take_zero,List.cons.injEq,and_true]
  exact(List.getElem?_eq_some_iff.1 hc).2
 rw[e] at h4
 rw[h4]
 have:i<xs.length:=by omega
 exact⟨xs[i],by simp [this]⟩
end Go.Eng
end
section
namespace Go.My
open Go.Eng Go.Proofs Go.RowKit
variable {G:GInv}
theorem after_below{Z A:FP}{w w':World}(h:Below w.heap.size w w'):After Z w A Z w' (fun _=>False):=
 ⟨h.os,h.tape,h.output,h.size,fun b hb _=>⟨h.block b hb,Iff.rfl⟩,fun _ h=>h.elim⟩
theorem a2Q{Z:FP}{w:World}{l:List UInt8}{vs:List Value}{n:Nat}(h:vs.length=n):AS Z w (.str l::List.replicate n .top) (.string ⟨l.toArray⟩::vs) (fun _=>False):=by
 have key:∀(vs:List Value) (n:Nat),vs.length=n→AS Z w (List.replicate n .top) vs (fun _=>False):=by
  intro vs
  induction vs with
  |nil=>intro n h;subst h;exact⟨rfl,AO⟩
  |cons v vs ih=>
   intro n h
   subst h
   exact⟨v,vs,_,_,rfl,BB _,by simp only[Aj];exact AO,ih _ rfl⟩
 exact⟨_,vs,_,_,rfl,BB _,⟨rfl,AO⟩,key vs n h⟩
def Oz:Sig:= {X:=Int,args:=fun x=>[.str [32],.int .i64 x],pre:=fun x=>0≤x∧x≤100000,Y:=Unit,post:=fun _ _=>True,res:=fun x _=> .str (blk x),outs:=fun _ _=>[.top,.top],keep:=false}
theorem a2R:∀n:Nat,Lib.repeatL [32] n=List.replicate n 32
 |0=>rfl
 |n+1=>by rw[Lib.repeatL,a2R n,List.replicate_succ];rfl
theorem b3H:Ah G Go.Proofs.Tryz.prog 163 Oz:=by
 refine⟨⟨⟨_,Go.Proofs.Tryz.func163,by kernel_rfl,by kernel_rfl⟩,fun x y _ _=>⟨trivial,trivial,trivial,trivial⟩⟩,?_⟩
 rintro x ⟨h0,h1⟩ Z w vals A hG h hA _
 simp only[Oz,AS,Aj] at h
 obtain⟨v,cs,A1,A2,rfl,_,⟨rfl,_⟩,v2,cs2,A3,A4,rfl,_,⟨rfl,_⟩,rfl,_⟩:=h
 have hc:=Go.Proofs.Tryz.strings_Repeat ⟨#[32]⟩ x.toNat w (by omega) (by show 1*x.toNat≤_;omega)
 rw[show((x.toNat:Nat):Int)=x by omega] at hc
 refine hc.mono ?_
 rintro e w' ⟨rfl,hb⟩
 refine⟨(),_,Z,(fun _=>False),trivial,rfl,?_,after_below hb⟩
 have e2:Lib.repeatL (ByteArray.mk #[32]).data.toList x.toNat=blk x:=a2R x.toNat
 rw[e2]
 exact a2Q (n:=2) rfl
def DF(xs:List (List UInt8))(sep:List UInt8):List UInt8:=Lib.join xs sep
def GJ:Sig:= {X:=List (List UInt8)×List UInt8,args:=fun x=>[Ej x.1,.str x.2],pre:=fun x=>(DF x.1 x.2).length≤140737488355328∧x.1.length≤140737488355328,Y:=Unit,post:=fun _ _=>True,res:=fun x _=> .str (DF x.1 x.2),outs:=fun _ _=>[.top,.top],keep:=false}
theorem a2S:Ah G Go.Proofs.Tryz.prog 128 GJ:=by
 refine⟨⟨⟨_,Go.Proofs.Tryz.func128,by kernel_rfl,by kernel_rfl⟩,fun x y _ _=>⟨trivial,trivial,trivial,trivial⟩⟩,?_⟩
 rintro⟨xs,sep⟩ ⟨h0,h1⟩ Z w vals A hG h hA _
 simp only[GJ,AS,Ej] at h
 obtain⟨v,cs,A1,A2,rfl,_,hsl,v2,cs2,A3,A4,rfl,_,⟨rfl,_⟩,rfl,_⟩:=h
 simp only[Aj] at hsl
 obtain⟨a,n,c,rfl,hn,hc,hsl⟩:=hsl
 subst hn
 rcases hsl with⟨ho,_⟩|⟨_,_,hsl⟩
 ·cases ho
 have fin:∀ {e:Ending} {w':World},e= .returned (.string ⟨(DF xs sep).toArray⟩)∧Below w.heap.size w w'→
  ∃y v Z' A',GJ.post (xs,sep) y∧e= .returned v∧AS Z' w' (GJ.res (xs,sep) y::GJ.outs (xs,sep) y) (v::[.slice a xs.length c,.string ⟨sep.toArray⟩]) A'∧After Z w A Z' w' A':=by
  rintro e w' ⟨rfl,hb⟩
  exact⟨(),_,Z,(fun _=>False),trivial,rfl,a2Q (n:=2) rfl,after_below hb⟩
 rcases hsl with hnil|⟨b,off,arr,ty,fr,rfl,hz,hb,hrows⟩
 ·subst hnil
  refine(Go.Proofs.Tryz.strings_Join_none a c ⟨sep.toArray⟩ w).mono ?_
  rintro e w' ⟨rfl,rfl⟩
  exact fin ⟨by rw[DF,Lib.join_nil],Below.refl _ _⟩
 ·let bs:List ByteArray:=xs.map fun l=>⟨l.toArray⟩
  have hid:((fun x:ByteArray=>x.data.toList)∘fun l:List UInt8=>(⟨l.toArray⟩:ByteArray))=id:=by funext l;simp
  have hbs:bs.map (·.data.toList)=xs:=by simp only[bs,List.map_map];rw[hid,List.map_id]
  have hlen:bs.length=xs.length:=by simp [bs]
  have hcells:∀(j:Nat) x,bs[j]? =some x→w.cell? ⟨b,off+j,none⟩=some (.string x):=by
   intro j x hj
   simp only[bs,List.getElem?_map,Option.map_eq_some_iff] at hj
   obtain⟨l,hl,rfl⟩:=hj
   obtain⟨B,_,hlen1,hr⟩:=PI xs _ _ j l hrows hl
   simp only[Ag,AS,Aj] at hr
   obtain⟨v,cs',B1,B2,e1,_,⟨rfl,_⟩,rfl,_⟩:=hr
   have hb2:arr.toList[off+j]? =some (.string ⟨l.toArray⟩):=by
    have:((arr.toList.drop off).drop (j*1)).take 1=[.string ⟨l.toArray⟩]:=e1
    rw[Nat.mul_one,List.drop_drop] at this
    have h3:=congrArg (fun l=>l[0]?) this
    simpa [List.getElem?_take,List.getElem?_drop] using h3
   have:=JX (off:=off+j) hb
   unfold ad at this
   rw[this]
   simpa [Array.getElem?_toList] using hb2
  have hlt:b<w.heap.size:=by
   rcases Nat.lt_or_ge b w.heap.size with hh|hh
   ·exact hh
   ·rw[Array.getElem?_eq_none hh] at hb;cases hb
  have hj:=Go.Proofs.Tryz.strings_Join b off c bs ⟨sep.toArray⟩ w hcells hlt (by rw[hlen];exact h1) (by rw[hlen];exact hc) (by rw[hbs];exact h0)
  rw[hlen,hbs] at hj
  exact hj.mono fun e w' h=>fin h
theorem a2T{ns:List Nd}:∀ {l:List Int},DC ns l false=Lib.joinTail [44,32] (l.map fun c=>(Aa ns c).text)
 |[]=>rfl
 |c::l=>by
  rw[DC,a2T]
  simp [Lib.joinTail]
theorem b3I{ns:List Nd}{l:List Int}:DC ns l true=DF (l.map fun c=>(Aa ns c).text) [44,32]:=by
 cases l with
 |nil=>rfl
 |cons c l=>
  rw[DC,a2T,DF,List.map_cons,Lib.join_cons]
  simp
def GK:Sig:= {X:=Int,args:=fun x=>[.int .i64 x],pre:=fun x=>0≤x∧x≤100000,Y:=Unit,post:=fun x y=>True,res:=fun x y=> .str (blk x),outs:=fun x y=>[.top],keep:=false}
theorem a2U:Ah G Tryz.prog 126 GK:=
 vcFun_okP [(163,0,Oz)] [] false (fun x=>[]) Tryz.func126 rfl (by decide) ⟨b3H,trivial⟩ (fun(x:Int)=>(∀(y:Unit),True→True∧True∧True)∧cA Oz [.str #[(32:UInt8)].toList,.int .i64 x] fun x_1 y=>rA GK x [.str (blk x_1),.top]) (fun x=>by kernel_rfl) fun(x:Int) (hx:0≤x∧x≤100000)=>(by
 dsimp only[cA,rA,GK,Oz,Aq,Aw,mvL,lnL,mvE,lnE,mvG,mvH,lnG,lnH]
 obtain⟨h1,h2⟩:=hx
 (repeat' first|(with_reducible first|rfl|exact True.intro|apply AG|apply And.intro|((first|apply Au|apply AE|apply Av|apply AF)<;>intro _))|(apply As<;>intro _)|apply AD|refine Af () ?_ ?_|((first|apply AK|apply AJ|apply AI|apply AH|apply AC|apply AB|apply AA|apply Az|apply Ax)<;>try dsimp only)|apply Af|(refine Prod.forall.2 ?_;intro _;try dsimp only)|(intro _;try dsimp only))
 all_goals first
  |rfl
  |omega)
theorem Wr{p:Pc}{v:List Int}{i:Int}{ls:List (List UInt8)}{s:List UInt8}(h:rnI p v i ls s):0≤i∧i<p.chunks.length:=h.1
theorem HM{p:Pc}{v:List Int}{i:Int}{c:Ch}{b:Bool}(hc:p.chunks[i.toNat]? =some c)(hs:Cf v (Cz p i)=b):Cf v c=b:=by rw[←hs,HL hc]
attribute [local irreducible] rnI BF rnL Cf blk
def HN:Sig:= {X:=Pc×List Int,args:=fun x=>[.agg (pcA false x.1),Ad x.2],pre:=fun x=>renP x.1 x.2,Y:=Unit,post:=fun x y=>True,res:=fun x y=>Cg (BF x.1 x.2),outs:=fun x y=>[.top,.top],keep:=false}
def MD(x:Pc×List Int):LS:= {ι:=Int×List (List UInt8)×List UInt8,inv:=fun i=>rnI x.1 x.2 i.1 i.2.1 i.2.2,regs:=fun i=>[(1,Ad x.2),(2,.box 0 (pcA false x.1)),(5,Cg i.2.1),(6,.str i.2.2),(13,chs x.1.chunks),(14,.int .i64 x.1.chunks.length),(15,.int .i64 i.1)],als:=[],meas:=fun i=>x.1.chunks.length-i.1.toNat}
theorem a2V:Ah G Tryz.prog 165 HN:=
 vcFun_okP [(126,0,GK),(196,0,Ix)] [(42,⟨List UInt8,Ag⟩)] false (fun x=>[(4,MD x)]) Tryz.func165 rfl (by decide) ⟨a2U,a2B,trivial⟩ (fun(x:Pc×List Int)=>(∀(y:Unit),True→(∀(x:List UInt8),True∧True)∧True∧True∧True)∧cA GK [.int .i64 x.1.ind] fun x_1 y=>eA (MD x) [Ad x.2,.box 0 [.int .i64 x.1.ind,AV.sl false 0 2 Ru ruA x.1.rules,AV.sl false 0 5 Ch chA x.1.chunks,AV.sl false 0 3 Sn snA x.1.spans,AV.sl false 0 2 Ti tiA x.1.ties],.nil,.str (blk x_1),AV.sl false 0 5 Ch chA x.1.chunks,.int .i64 (↑(List.length x.1.chunks):Int),.int .i64 (0:Int)]∧∀(i:Int×List (List UInt8)×List UInt8),rnI x.1 x.2 i.1 i.2.1 i.2.2→Ab (decide (i.1<(↑(List.length x.1.chunks):Int))) (((0:Int)≤i.1∧i.1<(↑(List.length x.1.chunks):Int))∧∀(e:Ch),x.1.chunks[Int.toNat i.1]? =some e→(↑(List.length i.2.2+List.length e.text):Int)≤IntKind.max IntKind.i64∧inR IntKind.i64 ((↑(List.length x.1.chunks):Int)-(1:Int))∧Ab (i.1==(↑(List.length x.1.chunks):Int)-(1:Int)) (∃(x_2:List UInt8),i.2.2++e.text=x_2∧(∃(zs:List (List UInt8)),AV.sl true 0 1 (List UInt8) Ag [x_2]=AV.sl true 0 1 (List UInt8) Ag zs∧(BH Ag∧(Bb (List.length i.2.1+List.length zs) (16:Nat)∧rA HN x [AV.sl true 0 1 (List UInt8) Ag (i.2.1++zs),.top,.top])))) (cA Ix [.agg [.int .i64 x.1.ind,AV.sl false 0 2 Ru ruA x.1.rules,AV.sl false 0 5 Ch chA x.1.chunks,AV.sl false 0 3 Sn snA x.1.spans,AV.sl false 0 2 Ti tiA x.1.ties],Ad x.2,.int .i64 i.1] fun x_2 y=>Ab (Cf x_2.2.1 (Cz x_2.1 x_2.2.2)) (∃(x_3:List UInt8),i.2.2++e.text=x_3∧∃(zs:List (List UInt8)),AV.sl true 0 1 (List UInt8) Ag [x_3]=AV.sl true 0 1 (List UInt8) Ag zs∧BH Ag∧Bb (List.length i.2.1+List.length zs) (16:Nat)∧inR IntKind.i64 (x.1.ind+e.nest)∧cA GK [.int .i64 (x.1.ind+e.nest)] fun x_4 y=>inR IntKind.i64 (i.1+(1:Int))∧eN (MD x) i [Ad x.2,.box 0 [.int .i64 x.1.ind,AV.sl false 0 2 Ru ruA x.1.rules,AV.sl false 0 5 Ch chA x.1.chunks,AV.sl false 0 3 Sn snA x.1.spans,AV.sl false 0 2 Ti tiA x.1.ties],AV.sl true 0 1 (List UInt8) Ag (i.2.1++zs),.str (blk x_4),AV.sl false 0 5 Ch chA x.1.chunks,.int .i64 (↑(List.length x.1.chunks):Int),.int .i64 (i.1+(1:Int))]) (Ab e.space ((↑(List.length (i.2.2++e.text)+(1:Nat)):Int)≤IntKind.max IntKind.i64∧inR IntKind.i64 (i.1+(1:Int))∧eN (MD x) i [Ad x.2,.box 0 [.int .i64 x.1.ind,AV.sl false 0 2 Ru ruA x.1.rules,AV.sl false 0 5 Ch chA x.1.chunks,AV.sl false 0 3 Sn snA x.1.spans,AV.sl false 0 2 Ti tiA x.1.ties],AV.sl true 0 1 (List UInt8) Ag i.2.1,.str (i.2.2++e.text++ #[(32:UInt8)].toList),AV.sl false 0 5 Ch chA x.1.chunks,.int .i64 (↑(List.length x.1.chunks):Int),.int .i64 (i.1+(1:Int))]) (inR IntKind.i64 (i.1+(1:Int))∧eN (MD x) i [Ad x.2,.box 0 [.int .i64 x.1.ind,AV.sl false 0 2 Ru ruA x.1.rules,AV.sl false 0 5 Ch chA x.1.chunks,AV.sl false 0 3 Sn snA x.1.spans,AV.sl false 0 2 Ti tiA x.1.ties],AV.sl true 0 1 (List UInt8) Ag i.2.1,.str (i.2.2++e.text),AV.sl false 0 5 Ch chA x.1.chunks,.int .i64 (↑(List.length x.1.chunks):Int),.int .i64 (i.1+(1:Int))])))) (∃(x_2:List UInt8),i.2.2=x_2∧(∃(zs:List (List UInt8)),AV.sl true 0 1 (List UInt8) Ag [x_2]=AV.sl true 0 1 (List UInt8) Ag zs∧(BH Ag∧(Bb (List.length i.2.1+List.length zs) (16:Nat)∧rA HN x [AV.sl true 0 1 (List UInt8) Ag (i.2.1++zs),.top,.top]))))) (fun x=>by kernel_rfl) fun(x:Pc×List Int) (hx:renP x.1 x.2)=>(by
 dsimp only[cA,Bl,chs,eA,eN,MD,Ad,Cg,pcA,rA,Bj,GK,HN,Ix,Bm,Bn,Aq,Aw,mvL,lnL,mvE,lnE,mvG,mvH,lnG,lnH,AZ]
 obtain⟨p,v⟩:=x;dsimp only at hx ⊢
 have hx:renP p v:=hx
 have h1:=hx.ok.ind;have h2:=hx.ok.cl;have h3:=hx.ct
 (repeat' first|refine Ds p ?_|(with_reducible first|rfl|exact True.intro|apply AG|apply And.intro|((first|apply Au|apply AE|apply Av|apply AF)<;>intro _))|(apply As<;>intro _)|apply AD|refine Af () ?_ ?_|((first|apply AK|apply AJ|apply AI|apply AH|apply AC|apply AB|apply AA|apply Az|apply Ax)<;>try dsimp only)|apply Af|(refine Prod.forall.2 ?_;intro _;try dsimp only)|(intro _;try dsimp only))
 all_goals first
  |rfl
  |(simp only[Ai];omega)
  |omega
  |exact a2D hx.ok
  |(exfalso;have hq:=Wr (show rnI _ _ _ _ _ by assumption);omega)
  |exact a2G ‹_› ‹_› (by omega) (HM ‹_› ‹_›)
  |exact a2H ‹_› ‹_› (by omega) (HM ‹_› ‹_›) ‹_›
  |exact a2I ‹_› ‹_› (by omega) (HM ‹_› ‹_›) ‹_›
  |(have hq:=Wr (show rnI _ _ _ _ _ by assumption);(try simp only[Ai]);omega)
  |(have hi:=(show rnI _ _ _ _ _ by assumption);have hq:=Wr hi;have hc:=a2J hx hq ‹_› (by omega);(try rw[HL ‹_›]);(try simp only[Ai]);omega)
  |(have hi:=(show rnI _ _ _ _ _ by assumption);have hq:=a2E hx.ok hi;have hm:=Ou (AY (show p.chunks[_]? =some _ by assumption));(try simp only[Ai,Bb,List.length_append,List.length_cons,List.length_nil]);omega)
  |exact a2F ‹_› ‹_› (by omega)
  |skip)
end Go.My
end
section
namespace Go.My
open Go.Eng Go.Proofs
variable {G:GInv}
theorem b3J{l m:List Int}:(l++m).sum=l.sum+m.sum:=by simp
def FZ{α:Type}(f:α→Int)(l:List α)(i:Int):Int:=((l.take i.toNat).map f).sum
theorem a2W{α:Type}{f:α→Int}{l:List α}:FZ f l 0=0:=by simp [FZ]
theorem Wt{α:Type}{f:α→Int}{l:List α}{i:Int}{e:α}(h0:0≤i)(he:l[i.toNat]? =some e):FZ f l (i+1)=FZ f l i+f e:=by
 rw[FZ,BD h0,CT he,List.map_append,b3J,FZ];simp
theorem a2X{α:Type}{f:α→Int}{l:List α}{i:Int}(h:¬i<l.length):FZ f l i=(l.map f).sum:=by rw[FZ,List.take_of_length_le (by omega)]
theorem a2Y{α:Type}{f:α→Int}{b:Int}{l:List α}{i:Int}(hb:0≤b)(h:∀x∈l,0≤f x∧f x≤b):0≤FZ f l i∧FZ f l i≤l.length*b:=by
 have h1:=Oq (l:=l.take i.toNat) (f:=f) (b:=b) fun x hx=>h x (List.mem_of_mem_take hx)
 have h2:(l.take i.toNat).length≤l.length:=by rw[List.length_take];omega
 have h3:(((l.take i.toNat).length:Nat):Int)*b≤l.length*b:=Int.mul_le_mul_of_nonneg_right (by omega) hb
 unfold FZ;omega
def ruF(p:Pc)(q:Int×Nat):Int:=q.1*(CJ p q.2).cost
def snF(p:Pc)(v:List Int)(s:Sn):Int:=if snS p v s then s.cost else 0
theorem b3K{p:Pc}{v:List Int}:Cl p v=(v.zipIdx.map (ruF p)).sum+(p.spans.map (snF p v)).sum:=rfl
theorem a2Z{v:List Int}{i:Int}{n:Int}(h0:0≤i)(h:v[i.toNat]? =some n):v.zipIdx[i.toNat]? =some (n,i.toNat):=by simp [List.getElem?_zipIdx,h]
theorem Wu{p:Pc}{v:List Int}(h:pcOk p)(hv:vOk p v):∀q∈v.zipIdx,0≤ruF p q∧ruF p q≤27:=by
 intro q hq
 obtain⟨n,i⟩:=q
 have hi:=List.mem_zipIdx_iff_getElem?.1 hq
 have h2:=hv.2 i n hi
 have hlt:=(Cm hi).1
 have h3:=Mz h (i:=(i:Int)) (by omega) (by have:=hv.1;omega)
 have a:0≤n*(CJ p (i:Int)).cost:=Int.mul_nonneg h2.1 h3.2.1
 have b:n*(CJ p (i:Int)).cost≤3*9:=Int.mul_le_mul (by omega) h3.2.2 h3.2.1 (by omega)
 exact⟨a,by show n*(CJ p (i:Int)).cost≤27;omega⟩
theorem b3L{p:Pc}{v:List Int}(h:pcOk p):∀s∈p.spans,0≤snF p v s∧snF p v s≤9:=by
 intro s hs
 have:=(h.sn s hs).2
 unfold snF;split<;>omega
structure bndP (p:Pc) (v:List Int):Prop where
 ok:pcOk p
 vo:vOk p v
def bdI(p:Pc)(v:List Int)(i n:Int):Prop:=(0≤i∧i≤v.length)∧n=FZ (ruF p) v.zipIdx i
def bdJ(p:Pc)(v:List Int)(i n:Int):Prop:=(0≤i∧i≤p.spans.length)∧n=(v.zipIdx.map (ruF p)).sum+FZ (snF p v) p.spans i
theorem Rl{p:Pc}{v:List Int}{i n:Int}(h:bndP p v)(hi:bdI p v i n):(0≤i∧i≤v.length)∧(0≤n∧n≤216)∧v.length≤8:=by
 have h1:=a2Y (i:=i) (by omega) (Wu h.ok h.vo)
 have h2:=h.vo.1;have h3:=h.ok.rl
 rw[List.length_zipIdx,←hi.2] at h1
 exact⟨hi.1,by omega,by omega⟩
theorem Rm{p:Pc}{v:List Int}{i n:Int}(h:bndP p v)(hi:bdJ p v i n):(0≤i∧i≤p.spans.length)∧(0≤n∧n≤1000):=by
 have h1:=a2Y (i:=i) (by omega) (b3L (v:=v) h.ok)
 have h4:=Oq (Wu h.ok h.vo)
 rw[List.length_zipIdx] at h4
 have h2:=h.vo.1;have h3:=h.ok.rl;have h5:=h.ok.snl
 have:=hi.2
 exact⟨hi.1,by omega⟩
theorem a3a{p:Pc}{v:List Int}{i n a:Int}{r:Ru}(hi:bdI p v i n)(hlt:i<v.length)(ha:v[i.toNat]? =some a)(hr:p.rules[i.toNat]? =some r):bdI p v (i+1) (n+a*r.cost):=by
 refine⟨by have:=hi.1;omega,?_⟩
 rw[Wt hi.1.1 (a2Z hi.1.1 ha),hi.2]
 have:ruF p (a,i.toNat)=a*r.cost:=by rw[ruF];simp only;rw[Ov (by rw[Int.toNat_natCast];exact hr)]
 rw[this]
theorem a3b{p:Pc}{v:List Int}{i n a:Int}{r:Ru}(h:bndP p v)(hi:bdI p v i n)(ha:v[i.toNat]? =some a)(hr:p.rules[i.toNat]? =some r):0≤a*r.cost∧a*r.cost≤27:=by
 have:=Wu h.ok h.vo (a,i.toNat) (AY (a2Z hi.1.1 ha))
 have e:ruF p (a,i.toNat)=a*r.cost:=by rw[ruF];simp only;rw[Ov (by rw[Int.toNat_natCast];exact hr)]
 rwa [e] at this
theorem Wv{p:Pc}{v:List Int}{i n:Int}(hi:bdI p v i n)(h:¬i<v.length):bdJ p v 0 n:=by
 refine⟨by omega,?_⟩
 rw[a2W,hi.2,a2X (by rw[List.length_zipIdx];exact h)];omega
theorem a3c{p:Pc}{v:List Int}{i n:Int}{s:Sn}(hi:bdJ p v i n)(hlt:i<p.spans.length)(hs:p.spans[i.toNat]? =some s)(h:snS p v s=true):bdJ p v (i+1) (n+s.cost):=by
 refine⟨by have:=hi.1;omega,?_⟩
 rw[Wt hi.1.1 hs,hi.2,snF,h];simp;omega
theorem a3d{p:Pc}{v:List Int}{i n:Int}{s:Sn}(hi:bdJ p v i n)(hlt:i<p.spans.length)(hs:p.spans[i.toNat]? =some s)(h:snS p v s=false):bdJ p v (i+1) n:=by
 refine⟨by have:=hi.1;omega,?_⟩
 rw[Wt hi.1.1 hs,hi.2,snF,h];simp
theorem Rn{p:Pc}{v:List Int}{i n:Int}(hi:bdJ p v i n)(h:¬i<p.spans.length):n=Cl p v:=by
 rw[b3K,hi.2,a2X h]
theorem a3e{p:Pc}{v:List Int}{s:Sn}{i:Int}(h:bndP p v)(hs:p.spans[i.toNat]? =some s):spnP p v s∧0≤s.cost∧s.cost≤9:=by
 have:=h.ok.sn s (AY hs)
 exact⟨⟨h.ok,h.vo.1,this.1⟩,this.2⟩
theorem Ww{p:Pc}{v:List Int}:bdI p v 0 0:=⟨by omega,a2W.symm⟩
attribute [local irreducible] bdI bdJ Cl snS
def HO:Sig:= {X:=Pc×List Int,args:=fun x=>[.agg (pcA false x.1),Ad x.2],pre:=fun x=>bndP x.1 x.2,Y:=Unit,post:=fun x y=>True,res:=fun x y=> .int .i64 (Cl x.1 x.2),outs:=fun x y=>[.top,.top],keep:=false}
def Ro(x:Pc×List Int):LS:= {ι:=Int×Int,inv:=fun i=>bdI x.1 x.2 i.1 i.2,regs:=fun i=>[(1,Ad x.2),(2,.box 0 (pcA false x.1)),(5,.int .i64 i.2),(10,Ad x.2),(11,.int .i64 x.2.length),(12,.int .i64 i.1)],als:=[],meas:=fun i=>x.2.length-i.1.toNat}
def OA(x:Pc×List Int):LS:= {ι:=Int×Int,inv:=fun i=>bdJ x.1 x.2 i.1 i.2,regs:=fun i=>[(1,Ad x.2),(2,.box 0 (pcA false x.1)),(5,.int .i64 i.2),(29,sns x.1.spans),(30,.int .i64 x.1.spans.length),(31,.int .i64 i.1)],als:=[],meas:=fun i=>x.1.spans.length-i.1.toNat}
theorem a3f:Ah G Tryz.prog 226 HO:=
 vcFun_okP [(241,0,KR)] [] false (fun x=>[(3,Ro x),(8,OA x)]) Tryz.func226 rfl (by decide) ⟨b3C,trivial⟩ (fun(x:Pc×List Int)=>(∀(y:Unit),True→True∧True∧True∧True)∧eA (Ro x) [Ad x.2,.box 0 [.int .i64 x.1.ind,AV.sl false 0 2 Ru ruA x.1.rules,AV.sl false 0 5 Ch chA x.1.chunks,AV.sl false 0 3 Sn snA x.1.spans,AV.sl false 0 2 Ti tiA x.1.ties],.int .i64 (0:Int),Ad x.2,.int .i64 (↑(List.length x.2):Int),.int .i64 (0:Int)]∧∀(i:Int×Int),bdI x.1 x.2 i.1 i.2→Ab (decide (i.1<(↑(List.length x.2):Int))) (((0:Int)≤i.1∧i.1<(↑(List.length x.2):Int))∧∀(e:Int),x.2[Int.toNat i.1]? =some e→((0:Int)≤i.1∧i.1<(↑(List.length x.1.rules):Int))∧∀(e_1:Ru),x.1.rules[Int.toNat i.1]? =some e_1→inR IntKind.i64 (e*e_1.cost)∧inR IntKind.i64 (i.2+e*e_1.cost)∧inR IntKind.i64 (i.1+(1:Int))∧eN (Ro x) i [Ad x.2,.box 0 [.int .i64 x.1.ind,AV.sl false 0 2 Ru ruA x.1.rules,AV.sl false 0 5 Ch chA x.1.chunks,AV.sl false 0 3 Sn snA x.1.spans,AV.sl false 0 2 Ti tiA x.1.ties],.int .i64 (i.2+e*e_1.cost),Ad x.2,.int .i64 (↑(List.length x.2):Int),.int .i64 (i.1+(1:Int))]) (eA (OA x) [Ad x.2,.box 0 [.int .i64 x.1.ind,AV.sl false 0 2 Ru ruA x.1.rules,AV.sl false 0 5 Ch chA x.1.chunks,AV.sl false 0 3 Sn snA x.1.spans,AV.sl false 0 2 Ti tiA x.1.ties],.int .i64 i.2,AV.sl false 0 3 Sn snA x.1.spans,.int .i64 (↑(List.length x.1.spans):Int),.int .i64 (0:Int)]∧∀(i:Int×Int),bdJ x.1 x.2 i.1 i.2→Ab (decide (i.1<(↑(List.length x.1.spans):Int))) (((0:Int)≤i.1∧i.1<(↑(List.length x.1.spans):Int))∧∀(e:Sn),x.1.spans[Int.toNat i.1]? =some e→cA KR [.agg [.int .i64 x.1.ind,AV.sl false 0 2 Ru ruA x.1.rules,AV.sl false 0 5 Ch chA x.1.chunks,AV.sl false 0 3 Sn snA x.1.spans,AV.sl false 0 2 Ti tiA x.1.ties],Ad x.2,.agg [.int .i64 e.fr,.int .i64 e.tuu,.int .i64 e.cost]] fun x_1 y=>Ab (snS x_1.1 x_1.2.1 x_1.2.2) (inR IntKind.i64 (i.2+e.cost)∧inR IntKind.i64 (i.1+(1:Int))∧eN (OA x) i [Ad x.2,.box 0 [.int .i64 x.1.ind,AV.sl false 0 2 Ru ruA x.1.rules,AV.sl false 0 5 Ch chA x.1.chunks,AV.sl false 0 3 Sn snA x.1.spans,AV.sl false 0 2 Ti tiA x.1.ties],.int .i64 (i.2+e.cost),AV.sl false 0 3 Sn snA x.1.spans,.int .i64 (↑(List.length x.1.spans):Int),.int .i64 (i.1+(1:Int))]) (inR IntKind.i64 (i.1+(1:Int))∧eN (OA x) i [Ad x.2,.box 0 [.int .i64 x.1.ind,AV.sl false 0 2 Ru ruA x.1.rules,AV.sl false 0 5 Ch chA x.1.chunks,AV.sl false 0 3 Sn snA x.1.spans,AV.sl false 0 2 Ti tiA x.1.ties],.int .i64 i.2,AV.sl false 0 3 Sn snA x.1.spans,.int .i64 (↑(List.length x.1.spans):Int),.int .i64 (i.1+(1:Int))])) (rA HO x [.int .i64 i.2,.top,.top]))) (fun x=>by kernel_rfl) fun(x:Pc×List Int) (hx:bndP x.1 x.2)=>(by
 dsimp only[cA,Bl,eA,eN,OA,Ro,Ad,pcA,rA,Bj,HO,KR,Bm,sns,Bn,Aq,Aw,mvL,lnL,mvE,lnE,mvG,mvH,lnG,lnH,AZ]
 obtain⟨p,v⟩:=x;dsimp only at hx ⊢
 have hx:bndP p v:=hx
 have h1:=hx.ok.rl;have h2:=hx.vo.1;have h3:=hx.ok.snl
 (repeat' first|refine Ds p ?_|(with_reducible first|rfl|exact True.intro|apply AG|apply And.intro|((first|apply Au|apply AE|apply Av|apply AF)<;>intro _))|(apply As<;>intro _)|apply AD|refine Af () ?_ ?_|((first|apply AK|apply AJ|apply AI|apply AH|apply AC|apply AB|apply AA|apply Az|apply Ax)<;>try dsimp only)|apply Af|(refine Prod.forall.2 ?_;intro _;try dsimp only)|(intro _;try dsimp only))
 all_goals first
  |rfl
  |assumption
  |omega
  |exact Ww
  |exact a3a ‹_› ‹_› ‹_› ‹_›
  |exact Wv ‹_› ‹_›
  |exact a3c ‹_› ‹_› ‹_› ‹_›
  |exact a3d ‹_› ‹_› ‹_› ‹_›
  |exact Rn ‹_› ‹_›
  |exact(a3e hx ‹_›).1
  |(have hq:=Rl hx (show bdI _ _ _ _ by assumption);(try simp only[Ai]);omega)
  |(have hi:=(show bdI _ _ _ _ by assumption);have hq:=Rl hx hi;have hm:=a3b hx hi ‹_› ‹_›;(try simp only[Ai]);omega)
  |(have hq:=Rm hx (show bdJ _ _ _ _ by assumption);(try simp only[Ai]);omega)
  |(have hi:=(show bdJ _ _ _ _ by assumption);have hq:=Rm hx hi;have hm:=(a3e hx (show p.spans[_]? =some _ by assumption)).2;(try simp only[Ai]);omega)
  |skip)
end Go.My
end
section
namespace Go.My
open Go.Eng Go.Proofs
variable {G:GInv}
def ME:Sig:= {X:=Int×Int×Int×Int,args:=fun x=>[.agg [.int .i64 x.1,.int .i64 x.2.1],.agg [.int .i64 x.2.2.1,.int .i64 x.2.2.2]],pre:=fun x=>True,Y:=Unit,post:=fun x y=>True,res:=fun x y=> .bool (GI ⟨x.1,x.2.1⟩ ⟨x.2.2.1,x.2.2.2⟩),outs:=fun x y=>[.top,.top],keep:=false}
theorem b3M:Ah G Tryz.prog 228 ME:=
 vcFun_okP [] [] false (fun x=>[]) Tryz.func228 rfl (by decide) trivial (fun(x:Int×Int×Int×Int)=>(∀(y:Unit),True→True∧True∧True∧True)∧Ab (decide (x.1<x.2.2.1)) (rA ME x [.bool true,.top,.top]) (Ab (x.1==x.2.2.1) (rA ME x [.bool (decide (x.2.1<x.2.2.2)),.top,.top]) (rA ME x [.bool false,.top,.top]))) (fun x=>by kernel_rfl) fun(x:Int×Int×Int×Int) (hx:True)=>(by
 dsimp only[rA,ME,Aq,Aw]
 obtain⟨a,b,c,d⟩:=x;dsimp only at hx ⊢
 (repeat' first|(with_reducible first|rfl|exact True.intro|apply AG|apply And.intro|((first|apply Au|apply AE|apply Av|apply AF)<;>intro _))|(apply As<;>intro _)|apply AD|refine Af () ?_ ?_|((first|apply AK|apply AJ|apply AI|apply AH|apply AC|apply AB|apply AA|apply Az|apply Ax)<;>try dsimp only)|apply Af|(refine Prod.forall.2 ?_;intro _;try dsimp only)|(intro _;try dsimp only))
 all_goals(simp [GI, *]<;>omega))
def FF(a b:Int):Int:=if a<b then-1 else if b<a then 1 else 0
def KS:Sig:= {X:=Int,args:=fun x=>[.int .i64 x],pre:=fun x=>True,Y:=Unit,post:=fun x y=>True,res:=fun x y=> .bool false,outs:=fun x y=>[.top],keep:=false}
theorem b3N:Ah G Tryz.prog 258 KS:=
 vcFun_okP [] [] false (fun x=>[]) Tryz.func258 rfl (by decide) trivial (fun(x:Int)=>(∀(y:Unit),True→True∧True∧True)∧rA KS x [.bool (x != x),.top]) (fun x=>by kernel_rfl) fun(x:Int) (hx:True)=>(by
 dsimp only[rA,KS,Aq,Aw]
 (repeat' first|(with_reducible first|rfl|exact True.intro|apply AG|apply And.intro|((first|apply Au|apply AE|apply Av|apply AF)<;>intro _))|(apply As<;>intro _)|apply AD|refine Af () ?_ ?_|((first|apply AK|apply AJ|apply AI|apply AH|apply AC|apply AB|apply AA|apply Az|apply Ax)<;>try dsimp only)|apply Af|(refine Prod.forall.2 ?_;intro _;try dsimp only)|(intro _;try dsimp only))<;>(try dsimp only at*)<;>(try simp only[Ai,List.length_cons,List.length_nil])<;>(try omega)
 all_goals simp)
def Jx:Sig:= {X:=Int×Int,args:=fun x=>[.int .i64 x.1,.int .i64 x.2],pre:=fun x=>True,Y:=Unit,post:=fun x y=>True,res:=fun x y=> .int .i64 (FF x.1 x.2),outs:=fun x y=>[.top,.top],keep:=false}
theorem b3O:Ah G Tryz.prog 250 Jx:=
 vcFun_okP [(258,0,KS)] [] false (fun x=>[]) Tryz.func250 rfl (by decide) ⟨b3N,trivial⟩ (fun(x:Int×Int)=>(∀(y:Unit),True→True∧True∧True∧True)∧cA KS [.int .i64 x.1] fun x_1 y=>cA KS [.int .i64 x.2] fun x_2 y=>Ab (decide (x.1<x.2)) (rA Jx x [.int .i64 (-1:Int),.top,.top]) (Ab (decide (x.1>x.2)) (rA Jx x [.int .i64 (1:Int),.top,.top]) (rA Jx x [.int .i64 (0:Int),.top,.top]))) (fun x=>by kernel_rfl) fun(x:Int×Int) (hx:True)=>(by
 dsimp only[cA,rA,Jx,KS,Aq,Aw,mvL,lnL,mvE,lnE,mvG,mvH,lnG,lnH]
 (repeat' first|(with_reducible first|rfl|exact True.intro|apply AG|apply And.intro|((first|apply Au|apply AE|apply Av|apply AF)<;>intro _))|(apply As<;>intro _)|apply AD|refine Af () ?_ ?_|((first|apply AK|apply AJ|apply AI|apply AH|apply AC|apply AB|apply AA|apply Az|apply Ax)<;>try dsimp only)|apply Af|(refine Prod.forall.2 ?_;intro _;try dsimp only)|(intro _;try dsimp only))<;>(try dsimp only at*)<;>(try simp only[Ai,List.length_cons,List.length_nil])<;>(try omega)
 all_goals first
  |(simp_all [FF];done)
  |(simp_all [FF];rw[if_neg (by omega),if_neg (by omega)])
  |(simp_all [FF];omega))
def cmI(a b:List Int)(i:Int):Prop:=(0≤i∧i≤a.length∧i≤b.length)∧Cy a b=Cy (a.drop i.toNat) (b.drop i.toNat)
theorem a3g{a b:List Int}:cmI a b 0:=⟨by omega,rfl⟩
theorem a3h{a b:List Int}{i:Int}(h:cmI a b i)(hi:i<a.length)(hb:i≥b.length):1=Cy a b:=by
 rw[h.2,List.drop_of_length_le (l:=b) (by omega)]
 have hlt:i.toNat<a.length:=by have:=h.1;omega
 rw[List.drop_eq_getElem_cons hlt,Cy]
theorem Rp{a b:List Int}{i x y:Int}(h:cmI a b i)(hx:a[i.toNat]? =some x)(hy:b[i.toNat]? =some y):Cy a b=if x<y then-1 else if y<x then 1 else Cy (a.drop (i+1).toNat) (b.drop (i+1).toNat):=by
 rw[h.2,Dq hx,Dq hy,Cy,BD h.1.1]
theorem b3P{a b:List Int}{i x y:Int}(h:cmI a b i)(hx:a[i.toNat]? =some x)(hy:b[i.toNat]? =some y)(hc:FF x y≠0):FF x y=Cy a b:=by
 rw[Rp h hx hy]
 unfold FF at hc ⊢
 split
 ·rfl
 ·rename_i h1
  rw[if_neg h1] at hc
  split
  ·rfl
  ·rename_i h2;rw[if_neg h2] at hc;exact(hc rfl).elim
theorem a3i{a b:List Int}{i x y:Int}(h:cmI a b i)(hi:i<a.length)(hib:¬i≥b.length)(hx:a[i.toNat]? =some x)(hy:b[i.toNat]? =some y)(hc:FF x y=0):cmI a b (i+1):=by
 refine⟨by have:=h.1;omega,?_⟩
 rw[Rp h hx hy]
 unfold FF at hc
 split at hc
 ·cases hc
 ·rename_i h1
  split at hc
  ·cases hc
  ·rename_i h2
   rw[if_neg h1,if_neg h2]
theorem Wx{a b:List Int}{i:Int}(h:cmI a b i)(hi:¬i<a.length):Cy a b=if(a.length:Int)<b.length then-1 else 0:=by
 rw[h.2,List.drop_of_length_le (l:=a) (by omega)]
 split
 ·have hlt:i.toNat<b.length:=by have:=h.1;omega
  rw[List.drop_eq_getElem_cons hlt,Cy]
 ·rw[List.drop_of_length_le (by have:=h.1;omega),Cy]
attribute [local irreducible] cmI FF Cy
def Iz:Sig:= {X:=List Int×List Int,args:=fun x=>[Ad x.1,Ad x.2],pre:=fun x=>x.1.length<2^62∧x.2.length<2^62,Y:=Unit,post:=fun x y=>True,res:=fun x y=> .int .i64 (Cy x.1 x.2),outs:=fun x y=>[.top,.top],keep:=false}
def Rq(x:List Int×List Int):LS:= {ι:=Int,inv:=fun i=>cmI x.1 x.2 i,regs:=fun i=>[(0,Ad x.1),(1,Ad x.2),(9,Ad x.1),(10,.int .i64 x.1.length),(11,.int .i64 i)],als:=[],meas:=fun i=>x.1.length-i.toNat}
theorem b3Q:Ah G Tryz.prog 242 Iz:=
 vcFun_okP [(250,0,Jx)] [] false (fun x=>[(2,Rq x)]) Tryz.func242 rfl (by decide) ⟨b3O,trivial⟩ (fun(x:List Int×List Int)=>(∀(y:Unit),True→True∧True∧True∧True)∧eA (Rq x) [Ad x.1,Ad x.2,Ad x.1,.int .i64 (↑(List.length x.1):Int),.int .i64 (0:Int)]∧∀(i:Int),cmI x.1 x.2 i→Ab (decide (i<(↑(List.length x.1):Int))) (((0:Int)≤i∧i<(↑(List.length x.1):Int))∧∀(e:Int),x.1[Int.toNat i]? =some e→Ab (decide (i≥(↑(List.length x.2):Int))) (rA Iz x [.int .i64 (1:Int),.top,.top]) (((0:Int)≤i∧i<(↑(List.length x.2):Int))∧∀(e_1:Int),x.2[Int.toNat i]? =some e_1→cA Jx [.int .i64 e,.int .i64 e_1] fun x_1 y=>Ab (FF x_1.1 x_1.2 != (0:Int)) (rA Iz x [.int .i64 (FF x_1.1 x_1.2),.top,.top]) (inR IntKind.i64 (i+(1:Int))∧eN (Rq x) i [Ad x.1,Ad x.2,Ad x.1,.int .i64 (↑(List.length x.1):Int),.int .i64 (i+(1:Int))]))) (Ab (decide ((↑(List.length x.1):Int)<(↑(List.length x.2):Int))) (rA Iz x [.int .i64 (-1:Int),.top,.top]) (rA Iz x [.int .i64 (0:Int),.top,.top]))) (fun x=>by kernel_rfl) fun(x:List Int×List Int) (hx:x.1.length<2^62∧x.2.length<2^62)=>(by
 dsimp only[cA,eA,eN,Rq,Ad,rA,Jx,Iz,Aq,Aw,mvL,lnL,mvE,lnE,mvG,mvH,lnG,lnH,AZ]
 obtain⟨a,b⟩:=x;dsimp only at hx ⊢
 obtain⟨h1,h2⟩:=hx
 have hr:∀i,cmI a b i→0≤i∧i≤a.length∧i≤b.length:=fun i h=>by unfold cmI at h;exact h.1
 (repeat' first|(with_reducible first|rfl|exact True.intro|apply AG|apply And.intro|((first|apply Au|apply AE|apply Av|apply AF)<;>intro _))|(apply As<;>intro _)|apply AD|refine Af () ?_ ?_|((first|apply AK|apply AJ|apply AI|apply AH|apply AC|apply AB|apply AA|apply Az|apply Ax)<;>try dsimp only)|apply Af|(refine Prod.forall.2 ?_;intro _;try dsimp only)|(intro _;try dsimp only))
 all_goals first
  |rfl
  |exact a3g
  |exact a3h ‹_› ‹_› ‹_›
  |exact b3P ‹_› ‹_› ‹_› ‹_›
  |exact a3i ‹_› ‹_› ‹_› ‹_› ‹_› ‹_›
  |(have hq:=hr _ ‹_›;(try simp only[Ai]);omega)
  |(rw[Wx ‹_› ‹_›,if_pos (by omega)];done)
  |(rw[Wx ‹_› ‹_›,if_neg (by omega)];done)
  |skip)
def KT:Sig:= {X:=List Int×List Int,args:=fun x=>[Ad x.1,Ad x.2],pre:=fun x=>x.1.length<2^62∧x.2.length<2^62,Y:=Unit,post:=fun x y=>True,res:=fun x y=> .int .i64 (Cy x.1 x.2),outs:=fun x y=>[.top,.top],keep:=false}
theorem a3j:Ah G Tryz.prog 229 KT:=
 vcFun_okP [(242,0,Iz)] [] false (fun x=>[]) Tryz.func229 rfl (by decide) ⟨b3Q,trivial⟩ (fun(x:List Int×List Int)=>(∀(y:Unit),True→True∧True∧True∧True)∧cA Iz [Ad x.1,Ad x.2] fun x_1 y=>rA KT x [.int .i64 (Cy x_1.1 x_1.2),.top,.top]) (fun x=>by kernel_rfl) fun(x:List Int×List Int) (hx:x.1.length<2^62∧x.2.length<2^62)=>(by
 dsimp only[cA,Ad,rA,Iz,KT,Aq,Aw,mvL,lnL,mvE,lnE,mvG,mvH,lnG,lnH]
 obtain⟨a,b⟩:=x;dsimp only at hx ⊢
 obtain⟨h1,h2⟩:=hx
 (repeat' first|(with_reducible first|rfl|exact True.intro|apply AG|apply And.intro|((first|apply Au|apply AE|apply Av|apply AF)<;>intro _))|(apply As<;>intro _)|apply AD|refine Af () ?_ ?_|((first|apply AK|apply AJ|apply AI|apply AH|apply AC|apply AB|apply AA|apply Az|apply Ax)<;>try dsimp only)|apply Af|(refine Prod.forall.2 ?_;intro _;try dsimp only)|(intro _;try dsimp only))
 all_goals first
  |rfl
  |assumption)
def KU:Sig:= {X:=List Int×Int×List Int×Int,args:=fun x=>[.agg [Ad x.1,.int .i64 x.2.1],.agg [Ad x.2.2.1,.int .i64 x.2.2.2]],pre:=fun x=>x.1.length<2^62∧x.2.2.1.length<2^62,Y:=Unit,post:=fun x y=>True,res:=fun x y=> .bool (Bt ⟨x.1,x.2.1⟩ ⟨x.2.2.1,x.2.2.2⟩),outs:=fun x y=>[.top,.top],keep:=false}
theorem a3k:Ah G Tryz.prog 227 KU:=
 vcFun_okP [(229,0,KT)] [] false (fun x=>[]) Tryz.func227 rfl (by decide) ⟨a3j,trivial⟩ (fun(x:List Int×Int×List Int×Int)=>(∀(y:Unit),True→True∧True∧True∧True)∧Ab (decide (x.2.1<x.2.2.2)) (rA KU x [.bool true,.top,.top]) (Ab (x.2.1==x.2.2.2) (cA KT [Ad x.1,Ad x.2.2.1] fun x_1 y=>rA KU x [.bool (decide (Cy x_1.1 x_1.2<(0:Int))),.top,.top]) (rA KU x [.bool false,.top,.top]))) (fun x=>by kernel_rfl) fun(x:List Int×Int×List Int×Int) (hx:x.1.length<2^62∧x.2.2.1.length<2^62)=>(by
 dsimp only[cA,Ad,rA,KT,KU,Aq,Aw,mvL,lnL,mvE,lnE,mvG,mvH,lnG,lnH]
 obtain⟨a,b,c,d⟩:=x;dsimp only at hx ⊢
 obtain⟨h1,h2⟩:=hx
 (repeat' first|(with_reducible first|rfl|exact True.intro|apply AG|apply And.intro|((first|apply Au|apply AE|apply Av|apply AF)<;>intro _))|(apply As<;>intro _)|apply AD|refine Af () ?_ ?_|((first|apply AK|apply AJ|apply AI|apply AH|apply AC|apply AB|apply AA|apply Az|apply Ax)<;>try dsimp only)|apply Af|(refine Prod.forall.2 ?_;intro _;try dsimp only)|(intro _;try dsimp only))
 all_goals first
  |rfl
  |assumption
  |(simp [Bt, *];done)
  |(simp [Bt, *];omega)
  |skip)
def Hf:Sig:= {X:=Int,args:=fun x=>[.int .i64 x],pre:=fun x=>0≤x∧x≤4611686018427387904,Y:=Unit,post:=fun x y=>True,res:=fun x y=> .int .i64 (abv x),outs:=fun x y=>[.top],keep:=false}
theorem b3R:Ah G Tryz.prog 243 Hf:=
 vcFun_okP [] [] false (fun x=>[]) Tryz.func243 rfl (by decide) trivial (fun(x:Int)=>(∀(y:Unit),True→True∧True∧True)∧inR IntKind.i64 (x+(1:Int))∧(2:Int)≠(0:Int)∧inR IntKind.i64 (Int.tdiv (x+(1:Int)) (2:Int))∧inR IntKind.i64 (Int.tdiv (x+(1:Int)) (2:Int)-(1:Int))∧rA Hf x [.int .i64 (Int.tdiv (x+(1:Int)) (2:Int)-(1:Int)),.top]) (fun x=>by kernel_rfl) fun(x:Int) (hx:0≤x∧x≤4611686018427387904)=>(by
 dsimp only[rA,Hf,Aq,Aw]
 obtain⟨h1,h2⟩:=hx
 have e:(x+1).tdiv 2=(x+1)/2:=Int.tdiv_eq_ediv_of_nonneg (by omega)
 (repeat' first|(with_reducible first|rfl|exact True.intro|apply AG|apply And.intro|((first|apply Au|apply AE|apply Av|apply AF)<;>intro _))|(apply As<;>intro _)|apply AD|refine Af () ?_ ?_|((first|apply AK|apply AJ|apply AI|apply AH|apply AC|apply AB|apply AA|apply Az|apply Ax)<;>try dsimp only)|apply Af|(refine Prod.forall.2 ?_;intro _;try dsimp only)|(intro _;try dsimp only))
 all_goals first
  |rfl
  |omega
  |decide)
def CA(l:List StW):AV:= .sl true 0 2 StW stA l
def upI(l0:List StW)(x:StW)(l:List StW)(i:Int)(n:Nat):Prop:=((0≤i∧i<l.length)∧i<n)∧(l.length=l0.length+1∧∀s∈l,s∈l0∨s=x)∧sUp n l i=DD l0 x
theorem b3S{l0:List StW}{x:StW}:upI l0 x (l0++[x]) ((l0.length:Int)) (l0.length+1):=⟨⟨by simp;omega,by omega⟩,⟨by simp,fun s hs=>by simpa using hs⟩,rfl⟩
theorem b3T{l0:List StW}{x:StW}{l:List StW}{i:Int}{n:Nat}(h:upI l0 x l i n)(hi:i>0)(hl:Bt (AN l i) (AN l (abv i))=true):upI l0 x (swp l i (abv i)) (abv i) (n-1):=by
 obtain⟨⟨h1,h2⟩,⟨h3,h4⟩,h5⟩:=h
 have ha:=Rd hi
 obtain⟨m,rfl⟩:∃m,n=m+1:=⟨n-1,by omega⟩
 refine⟨⟨by rw[KN];omega,by omega⟩,⟨by rw[KN];exact h3,fun s hs=>h4 s (Rc (by omega) (by omega) (by omega) (by omega) hs)⟩,?_⟩
 rw[sUp,if_pos ⟨hi,hl⟩] at h5;exact h5
theorem Wy{l0:List StW}{x:StW}{l:List StW}{i:Int}{n:Nat}(h:upI l0 x l i n)(hc:¬i>0∨Bt (AN l i) (AN l (abv i))=false):l=DD l0 x:=by
 obtain⟨⟨h1,h2⟩,_,h5⟩:=h
 obtain⟨m,rfl⟩:∃m,n=m+1:=⟨n-1,by omega⟩
 rw[sUp,if_neg (by rcases hc with hc|hc;exact fun hh=>hc hh.1;exact fun hh=>by rw[hc] at hh;cases hh.2)] at h5
 exact h5
theorem Rr{p:StW→Prop}(v:List Int)(n:Int)(h:p ⟨v,n⟩):∃s,p s:=⟨_,h⟩
theorem OB{l0:List StW}{x:StW}{l:List StW}{i:Int}{n:Nat}(h:upI l0 x l i n):(0≤i∧i<l.length)∧l.length=l0.length+1∧∀s∈l,s∈l0∨s=x:=⟨h.1.1,h.2.1⟩
theorem a3l{l0:List StW}{v:List Int}{m:Int}{l:List StW}{i:Int}{n:Nat}(h:upI l0 ⟨v,m⟩ l i n)(h2:∀s∈l0,s.vals.length<2^62)(h3:v.length<2^62){k:Nat}{s:StW}(hk:l[k]? =some s):s.vals.length<2^62:=by
 rcases(OB h).2.2 s (AY hk) with h4|rfl
 ·exact h2 s h4
 ·exact h3
theorem b3U{l0:List StW}{x:StW}{l:List StW}{i:Int}{n:Nat}{a b:StW}(h:upI l0 x l i n)(hi:i>0)(ha:l[i.toNat]? =some a)(hb:l[(abv i).toNat]? =some b)(hl:Bt a b=true):upI l0 x ((l.set i.toNat b).set (abv i).toNat a) (abv i) (n-1):=by
 have h1:=b3T h hi (by rw[Ei ha,Ei hb];exact hl)
 rw[swp,Ei ha,Ei hb] at h1;exact h1
theorem Wz{l0:List StW}{x:StW}{l:List StW}{i:Int}{n:Nat}{a b:StW}(h:upI l0 x l i n)(ha:l[i.toNat]? =some a)(hb:l[(abv i).toNat]? =some b)(hl:Bt a b=false):l=DD l0 x:=Wy h (.inr (by rw[Ei ha,Ei hb];exact hl))
theorem a3m{l0:List StW}{x:StW}{l:List StW}{i:Int}{n:Nat}{a b c d:StW}(h:upI l0 x l i n)(hi:i>0)(hl:Bt a b=true)(ha:l[i.toNat]? =some a)(hb:l[(abv i).toNat]? =some b)(hc:l[i.toNat]? =some c)(hd:l[(abv i).toNat]? =some d):upI l0 x ((l.set i.toNat d).set (abv i).toNat c) (abv i) (n-1):=by
 rw[ha] at hc;rw[hb] at hd;cases hc;cases hd
 exact b3U h hi ha hb hl
theorem a3n{l0:List StW}{x:StW}:upI l0 x (l0++[x]) (((l0++[x]).length:Int)-1) (l0.length+1):=by
 have h:=b3S (l0:=l0) (x:=x)
 rw[show(((l0++[x]).length:Int)-1)=(l0.length:Int) by simp];exact h
def MF(x:List StW×List Int×Int)(i:List StW×Int×Nat):LS:= {ι:=List StW×Unit,inv:=fun l=>upI x.1 ⟨x.2.1,x.2.2⟩ l.1 (abv i.2.1) (i.2.2-1)∧0<i.2.1,regs:=fun l=>[(0,CA l.1),(5,.int .i64 i.2.1)],als:=[],meas:=fun _=>0}
def lUp(x:List StW×List Int×Int):LS:= {ι:=List StW×Int×Nat,inv:=fun i=>upI x.1 ⟨x.2.1,x.2.2⟩ i.1 i.2.1 i.2.2,regs:=fun i=>[(0,CA i.1),(5,.int .i64 i.2.1)],als:=[],meas:=fun i=>i.2.1.toNat,sub:=fun i=>[(100005,MF x i)]}
def dwI(l0 l:List StW)(i:Int)(n:Nat):Prop:=((0≤i∧i≤l0.length)∧(l.length:Int)≤i+n)∧(l.length=l0.length-1∧∀s∈l,s∈l0)∧sDn n l i=BJ l0
theorem b3V{x:List StW}(h:0<x.length):dwI x (HJ x) 0 x.length:=by
 have h1:=a2q (f:=fun _=>0) h
 exact⟨⟨⟨by omega,by omega⟩,by omega⟩,⟨h1.2.1,h1.2.2⟩,rfl⟩
theorem a3o{x:List StW}{a:StW}(h:0<x.length)(ha:x[((x.length:Int)-1).toNat]? =some a):dwI x ((x.set 0 a).take ((x.length:Int)-1).toNat) 0 x.length:=by
 have h1:=b3V h
 rw[HJ,Ei ha] at h1
 rw[show((x.length:Int)-1).toNat=x.length-1 by omega];exact h1
theorem Jy{l0 l:List StW}{i:Int}{n:Nat}(h:dwI l0 l i n):(0≤i∧i≤l0.length)∧l.length=l0.length-1:=⟨h.1.1,h.2.1.1⟩
theorem a3p{l0 l:List StW}{i:Int}{n:Nat}(h:dwI l0 l i n)(h2:∀s∈l0,s.vals.length<2^62){k:Nat}{s:StW}(hk:l[k]? =some s):s.vals.length<2^62:=h2 s (h.2.1.2 s (AY hk))
theorem b3W{l0 l:List StW}{i:Int}{n:Nat}(h:dwI l0 l i n)(hi:2*i+1<l.length)(hl:Bt (AN l (dnK l i)) (AN l i)=true):dwI l0 (swp l i (dnK l i)) (dnK l i) (n-1):=by
 obtain⟨⟨h1,h2⟩,⟨h3,h4⟩,h5⟩:=h
 have ha:=Mx h1.1 hi
 obtain⟨m,rfl⟩:∃m,n=m+1:=⟨n-1,by omega⟩
 refine⟨⟨⟨by omega,by omega⟩,by rw[KN];omega⟩,⟨by rw[KN];exact h3,fun s hs=>h4 s (Rc (by omega) (by omega) (by omega) (by omega) hs)⟩,?_⟩
 rw[sDn,if_pos ⟨hi,hl⟩] at h5;exact h5
theorem WA{l0 l:List StW}{i:Int}{n:Nat}(h:dwI l0 l i n)(hc:¬2*i+1<l.length∨Bt (AN l (dnK l i)) (AN l i)=false):l=BJ l0:=by
 obtain⟨⟨h1,h2⟩,_,h5⟩:=h
 match n,h5 with
 |0,h5=>exact h5
 |m+1,h5=>
  rw[sDn,if_neg (by rcases hc with hc|hc;exact fun hh=>hc hh.1;exact fun hh=>by rw[hc] at hh;cases hh.2)] at h5
  exact h5
theorem a3q{l:List StW}{i:Int}{a b:StW}(h:2*i+1+1<l.length)(hs:Bt a b=true)(ha:l[(2*i+1+1).toNat]? =some a)(hb:l[(2*i+1).toNat]? =some b):2*i+1+1=dnK l i:=by
 rw[dnK,if_pos ⟨h,by rw[Ei ha,Ei hb];exact hs⟩]
theorem a3r{l:List StW}{i:Int}{a b:StW}(hs:Bt a b=false)(ha:l[(2*i+1+1).toNat]? =some a)(hb:l[(2*i+1).toNat]? =some b):2*i+1=dnK l i:=by
 rw[dnK,if_neg (fun h=>by rw[Ei ha,Ei hb] at h;rw[hs] at h;cases h.2)]
theorem a3s{l:List StW}{i:Int}(h:¬2*i+1+1<l.length):2*i+1=dnK l i:=by rw[dnK,if_neg (fun hh=>h hh.1)]
theorem Rs{l:List StW}{a:StW}(h:l[0]? =some a):AN l 0=a:=Ei (i:=0) h
theorem a3t{l0 l:List StW}{i:Int}{n:Nat}{a b c d:StW}(h:dwI l0 l i n)(hi:0≤i∧2*i+1<l.length)(hl:Bt a b=true)(ha:l[(dnK l i).toNat]? =some a)(hb:l[i.toNat]? =some b)(hc:l[(dnK l i).toNat]? =some c)(hd:l[i.toNat]? =some d):dwI l0 ((l.set i.toNat c).set (dnK l i).toNat d) (dnK l i) (n-1):=by
 rw[ha] at hc;rw[hb] at hd;cases hc;cases hd
 have h1:=b3W h hi.2 (by rw[Ei ha,Ei hb];exact hl)
 rw[swp,Ei ha,Ei hb] at h1;exact h1
theorem a3u{l0 l:List StW}{i:Int}{n:Nat}{a b:StW}(h:dwI l0 l i n)(hl:Bt a b=false)(ha:l[(dnK l i).toNat]? =some a)(hb:l[i.toNat]? =some b):l=BJ l0:=WA h (.inr (by rw[Ei ha,Ei hb];exact hl))
def Rt(x:List StW)(i:List StW×Int×Nat):LS:= {ι:=List StW×Unit,inv:=fun l=>dwI x l.1 (dnK i.1 i.2.1) (i.2.2-1)∧(0≤i.2.1∧2*i.2.1+1<i.1.length),regs:=fun l=>[(0,CA l.1),(3,.box 0 (stA st0)),(4,.box 0 (stA (AN x 0))),(6,.int .i64 i.2.1),(7,.int .i64 (dnK i.1 i.2.1))],als:=[],meas:=fun _=>0}
def OC(x:List StW)(i:List StW×Int×Nat):LS:= {ι:=Unit,inv:=fun _=>0≤i.2.1∧2*i.2.1+1<i.1.length,regs:=fun _=>[(0,CA i.1),(3,.box 0 (stA st0)),(4,.box 0 (stA (AN x 0))),(6,.int .i64 i.2.1),(7,.int .i64 (dnK i.1 i.2.1))],als:=[],meas:=fun _=>0}
def lDn(x:List StW):LS:= {ι:=List StW×Int×Nat,inv:=fun i=>dwI x i.1 i.2.1 i.2.2,regs:=fun i=>[(0,CA i.1),(3,.box 0 (stA st0)),(4,.box 0 (stA (AN x 0))),(6,.int .i64 i.2.1)],als:=[],meas:=fun i=>i.1.length-i.2.1.toNat,sub:=fun i=>[(200009,OC x i),(100010,Rt x i)]}
def WB(x:List StW):LS:= {ι:=Unit,inv:=fun _=>True,regs:=fun _=>[(2,CA (BJ x)),(3,.box 0 (stA (AN x 0)))],als:=[],meas:=fun _=>0}
attribute [local irreducible] upI dwI Bt abv DD BJ dnK
def KV:Sig:= {X:=List StW×List Int×Int,args:=fun x=>[CA x.1,.agg [Ad x.2.1,.int .i64 x.2.2]],pre:=fun x=>x.1.length<2^40∧(∀s∈x.1,s.vals.length<2^62)∧x.2.1.length<2^62,Y:=Unit,post:=fun x y=>True,res:=fun x y=>CA (DD x.1 ⟨x.2.1,x.2.2⟩),outs:=fun x y=>[.top,.top],keep:=true}
theorem b3X:Ah G Tryz.prog 232 KV:=
 vcFun_okP [(243,0,Hf),(227,0,KU)] [(174,⟨StW,stA⟩)] false (fun x=>[(3,lUp x)]) Tryz.func232 rfl (by decide) ⟨b3R,a3k,trivial⟩ (fun(x:List StW×List Int×Int)=>True∧∃(x_1:StW),Ad x.2.1=Ad x_1.vals∧x.2.2=x_1.sum∧∃(zs:List StW),AV.sl true 0 2 StW stA [x_1]=AV.sl true 0 2 StW stA zs∧BH stA∧Bb (List.length x.1+List.length zs) (32:Nat)∧inR IntKind.i64 ((↑(List.length (x.1++zs)):Int)-(1:Int))∧eA (lUp x) [AV.sl true 0 2 StW stA (x.1++zs),.int .i64 ((↑(List.length (x.1++zs)):Int)-(1:Int))]∧∀(i:List StW×Int×Nat),upI x.1 {vals:=x.2.1,sum:=x.2.2} i.1 i.2.1 i.2.2→true=true∧true=true∧Ab (decide (i.2.1>(0:Int))) (((0:Int)≤i.2.1∧i.2.1<(↑(List.length i.1):Int))∧Int.toNat i.2.1<List.length i.1∧∀(x_2:StW),i.1[Int.toNat i.2.1]? =some x_2→∃(x_3:Int),((0:Int)≤x_3∧x_3≤(4611686018427387904:Int))∧i.2.1=x_3∧∃(y0:Unit),(∀(y:Unit),True→AV.int IntKind.i64 (abv x_3)=AV.int IntKind.i64 (abv x_3))∧true=true∧((0:Int)≤abv x_3∧abv x_3<(↑(List.length i.1):Int))∧Int.toNat (abv x_3)<List.length i.1∧∀(x_4:StW),i.1[Int.toNat (abv x_3)]? =some x_4→∃(x_5:List Int×Int×List Int×Int),(List.length x_5.1<(4611686018427387904:Nat)∧List.length x_5.2.2.1<(4611686018427387904:Nat))∧Ad x_2.vals=Ad x_5.1∧x_2.sum=x_5.2.1∧Ad x_4.vals=Ad x_5.2.2.1∧x_4.sum=x_5.2.2.2∧∃(y0:Unit),(∀(y:Unit),True→AV.bool (Bt {vals:=x_5.1,sum:=x_5.2.1} {vals:=x_5.2.2.1,sum:=x_5.2.2.2})=AV.bool (Bt {vals:=x_5.1,sum:=x_5.2.1} {vals:=x_5.2.2.1,sum:=x_5.2.2.2}))∧true=true∧Ab (Bt {vals:=x_5.1,sum:=x_5.2.1} {vals:=x_5.2.2.1,sum:=x_5.2.2.2}) (true=true∧(((0:Int)≤i.2.1∧i.2.1<(↑(List.length i.1):Int))∧(cA Hf [.int .i64 i.2.1] fun x_6 y=>(cA Hf [.int .i64 i.2.1] fun x_7 y=>((0:Int)≤abv x_7∧abv x_7<(↑(List.length i.1):Int))∧(Int.toNat (abv x_7)<List.length i.1∧∀(x_8:StW),i.1[Int.toNat (abv x_7)]? =some x_8→Int.toNat i.2.1<List.length i.1∧∀(x_9:StW),i.1[Int.toNat i.2.1]? =some x_9→((0:Int)≤i.2.1∧i.2.1<(↑(List.length i.1):Int))∧Int.toNat i.2.1<List.length i.1∧∀(x_10:StW),i.1[Int.toNat i.2.1]? =some x_10→∃(x':StW),((@List.nil AV)=[]∧(@List.nil AV)=[])∧Ad x_8.vals=Ad x'.vals∧x_8.sum=x'.sum∧((0:Int)≤abv x_6∧abv x_6<(↑(List.length (List.set i.1 (Int.toNat i.2.1) x')):Int))∧Int.toNat (abv x_6)<List.length (List.set i.1 (Int.toNat i.2.1) x')∧∀(x_11:StW),(List.set i.1 (Int.toNat i.2.1) x')[Int.toNat (abv x_6)]? =some x_11→∃(x'_1:StW),((@List.nil AV)=[]∧(@List.nil AV)=[])∧Ad x_9.vals=Ad x'_1.vals∧x_9.sum=x'_1.sum∧(true=true∧(eA (MF x i) [AV.sl true 0 2 StW stA (List.set (List.set i.1 (Int.toNat i.2.1) x') (Int.toNat (abv x_6)) x'_1),.int .i64 i.2.1])))∧Int.toNat i.2.1<List.length i.1∧∀(x_8:StW),i.1[Int.toNat i.2.1]? =some x_8→Int.toNat (abv x_7)<List.length i.1∧∀(x_9:StW),i.1[Int.toNat (abv x_7)]? =some x_9→((0:Int)≤i.2.1∧i.2.1<(↑(List.length i.1):Int))∧Int.toNat i.2.1<List.length i.1∧∀(x_10:StW),i.1[Int.toNat i.2.1]? =some x_10→∃(x':StW),((@List.nil AV)=[]∧(@List.nil AV)=[])∧Ad x_9.vals=Ad x'.vals∧x_9.sum=x'.sum∧((0:Int)≤abv x_6∧abv x_6<(↑(List.length (List.set i.1 (Int.toNat i.2.1) x')):Int))∧Int.toNat (abv x_6)<List.length (List.set i.1 (Int.toNat i.2.1) x')∧∀(x_11:StW),(List.set i.1 (Int.toNat i.2.1) x')[Int.toNat (abv x_6)]? =some x_11→∃(x'_1:StW),((@List.nil AV)=[]∧(@List.nil AV)=[])∧Ad x_8.vals=Ad x'_1.vals∧x_8.sum=x'_1.sum∧(true=true∧(eA (MF x i) [AV.sl true 0 2 StW stA (List.set (List.set i.1 (Int.toNat i.2.1) x') (Int.toNat (abv x_6)) x'_1),.int .i64 i.2.1])))∧Int.toNat i.2.1<List.length i.1∧∀(x_7:StW),i.1[Int.toNat i.2.1]? =some x_7→cA Hf [.int .i64 i.2.1] fun x_8 y=>((0:Int)≤abv x_8∧abv x_8<(↑(List.length i.1):Int))∧Int.toNat (abv x_8)<List.length i.1∧∀(x_9:StW),i.1[Int.toNat (abv x_8)]? =some x_9→((0:Int)≤i.2.1∧i.2.1<(↑(List.length i.1):Int))∧Int.toNat i.2.1<List.length i.1∧∀(x_10:StW),i.1[Int.toNat i.2.1]? =some x_10→∃(x':StW),((@List.nil AV)=[]∧(@List.nil AV)=[])∧Ad x_9.vals=Ad x'.vals∧x_9.sum=x'.sum∧((0:Int)≤abv x_6∧abv x_6<(↑(List.length (List.set i.1 (Int.toNat i.2.1) x')):Int))∧Int.toNat (abv x_6)<List.length (List.set i.1 (Int.toNat i.2.1) x')∧∀(x_11:StW),(List.set i.1 (Int.toNat i.2.1) x')[Int.toNat (abv x_6)]? =some x_11→∃(x'_1:StW),((@List.nil AV)=[]∧(@List.nil AV)=[])∧Ad x_7.vals=Ad x'_1.vals∧x_7.sum=x'_1.sum∧(true=true∧(eA (MF x i) [AV.sl true 0 2 StW stA (List.set (List.set i.1 (Int.toNat i.2.1) x') (Int.toNat (abv x_6)) x'_1),.int .i64 i.2.1])))∧Int.toNat i.2.1<List.length i.1∧∀(x_6:StW),i.1[Int.toNat i.2.1]? =some x_6→cA Hf [.int .i64 i.2.1] fun x_7 y=>cA Hf [.int .i64 i.2.1] fun x_8 y=>((0:Int)≤abv x_8∧abv x_8<(↑(List.length i.1):Int))∧Int.toNat (abv x_8)<List.length i.1∧∀(x_9:StW),i.1[Int.toNat (abv x_8)]? =some x_9→((0:Int)≤i.2.1∧i.2.1<(↑(List.length i.1):Int))∧Int.toNat i.2.1<List.length i.1∧∀(x_10:StW),i.1[Int.toNat i.2.1]? =some x_10→∃(x':StW),((@List.nil AV)=[]∧(@List.nil AV)=[])∧Ad x_9.vals=Ad x'.vals∧x_9.sum=x'.sum∧((0:Int)≤abv x_7∧abv x_7<(↑(List.length (List.set i.1 (Int.toNat i.2.1) x')):Int))∧Int.toNat (abv x_7)<List.length (List.set i.1 (Int.toNat i.2.1) x')∧∀(x_11:StW),(List.set i.1 (Int.toNat i.2.1) x')[Int.toNat (abv x_7)]? =some x_11→∃(x'_1:StW),((@List.nil AV)=[]∧(@List.nil AV)=[])∧Ad x_6.vals=Ad x'_1.vals∧x_6.sum=x'_1.sum∧true=true∧eA (MF x i) [AV.sl true 0 2 StW stA (List.set (List.set i.1 (Int.toNat i.2.1) x') (Int.toNat (abv x_7)) x'_1),.int .i64 i.2.1])∧∀(i_1:List StW×Unit),upI x.1 {vals:=x.2.1,sum:=x.2.2} i_1.1 (abv i.2.1) (i.2.2-(1:Nat))∧(0:Int)<i.2.1→cA Hf [.int .i64 i.2.1] fun x_6 y=>eN (lUp x) i [AV.sl true 0 2 StW stA i_1.1,.int .i64 (abv x_6)]) (rA KV x [AV.sl true 0 2 StW stA i.1,.top,.top])) (rA KV x [AV.sl true 0 2 StW stA i.1,.top,.top])) (fun x=>by kernel_rfl) fun(x:List StW×List Int×Int) (hx:x.1.length<2^40∧(∀s∈x.1,s.vals.length<2^62)∧x.2.1.length<2^62)=>(by
 dsimp only[cA,eA,eN,Ad,lUp,MF,CA,rA,Hf,KV,HI,Aq,Aw,mvL,lnL,mvE,lnE,mvG,mvH,lnG,lnH,AZ]
 obtain⟨l0,v,n⟩:=x;dsimp only at hx ⊢
 obtain⟨h1,h2,h3⟩:=hx
 (repeat' first|(apply Rr<;>try dsimp only)|(with_reducible first|rfl|exact True.intro|apply AG|apply And.intro|((first|apply Au|apply AE|apply Av|apply AF)<;>intro _))|(apply As<;>intro _)|apply AD|refine Af () ?_ ?_|((first|apply AK|apply AJ|apply AI|apply AH|apply AC|apply AB|apply AA|apply Az|apply Ax)<;>try dsimp only)|apply Af|(refine Prod.forall.2 ?_;intro _;try dsimp only)|(intro _;try dsimp only))
 all_goals(try(repeat(rename(_:List StW)[_]? =some _=>hq;revert hq;rename(_:List StW)[_]? =some _=>hr;intro hq;rw[hr] at hq;cases hq)))
 all_goals first
  |rfl
  |assumption
  |omega
  |(unfold Bb;simp only[List.length_append,List.length_singleton];omega)
  |(simp only[List.length_append,List.length_singleton];omega)
  |(have hb:=OB (show upI _ _ _ _ _ by assumption);have ha:=Rd ‹_›;(try rw[List.length_set]);omega)
  |(have hb:=OB (show upI _ _ _ _ _ by assumption);omega)
  |exact a3l ‹_› h2 h3 ‹_›
  |exact a3n
  |exact(show upI _ _ _ _ _∧_ by assumption).1
  |exact a3m ‹_› ‹_› (show Bt _ _=true by assumption) ‹_› ‹_› ‹_› ‹_›
  |exact congrArg CA (Wz ‹_› ‹_› ‹_› ‹_›)
  |exact Wz ‹_› ‹_› ‹_› ‹_›
  |exact(Wy ‹_› (.inl ‹_›))
  |exact()
  |skip)
def Rv:Sig:= {X:=List StW×Unit,args:=fun x=>[CA x.1],pre:=fun x=>0<x.1.length∧x.1.length<2^40∧(∀s∈x.1,s.vals.length<2^62),Y:=Unit,post:=fun x y=>True,res:=fun x y=> .tup [CA (BJ x.1),.agg (stA (AN x.1 0))],outs:=fun x y=>[.top],keep:=true}
def WD(x:List StW×Unit)(i:List StW×Int×Nat):Prop:=true=true∧((true=true∧(eA (WB x.1) [AV.sl true 0 2 StW stA i.1,.box 0 [Ad (AN x.1 (0:Int)).vals,.int .i64 (AN x.1 (0:Int)).sum]]))∧(∀(i:Unit),True→∃(y:Unit),True∧AV.sl true 0 2 StW stA (BJ x.1)=AV.sl true 0 2 StW stA (BJ x.1)∧Ad (AN x.1 (0:Int)).vals=Ad (AN x.1 (0:Int)).vals∧(AN x.1 (0:Int)).sum=(AN x.1 (0:Int)).sum∧True))
theorem b3Y:Ah G Tryz.prog 217 Rv:=
 vcFun_okP [(227,0,KU)] [(174,⟨StW,stA⟩)] false (fun x=>[(5,lDn x.1),(100012,WB x.1)]) Tryz.func217 rfl (by decide) ⟨a3k,trivial⟩ (fun(x:List StW×Unit)=>True∧((0:Int)≤(0:Int)∧(0:Int)<(↑(List.length x.1):Int))∧(0:Nat)<List.length x.1∧∀(x_1:StW),x.1[(0:Nat)]? =some x_1→inR IntKind.i64 ((↑(List.length x.1):Int)-(1:Int))∧((0:Int)≤(↑(List.length x.1):Int)-(1:Int)∧(↑(List.length x.1):Int)-(1:Int)<(↑(List.length x.1):Int))∧Int.toNat ((↑(List.length x.1):Int)-(1:Int))<List.length x.1∧∀(x_2:StW),x.1[Int.toNat ((↑(List.length x.1):Int)-(1:Int))]? =some x_2→((0:Int)≤(0:Int)∧(0:Int)<(↑(List.length x.1):Int))∧(0:Nat)<List.length x.1∧∀(x_3:StW),x.1[(0:Nat)]? =some x_3→∃(x':StW),((@List.nil AV)=[]∧(@List.nil AV)=[])∧Ad x_2.vals=Ad x'.vals∧x_2.sum=x'.sum∧((0:Int)≤(0:Int)∧(0:Int)≤(↑(List.length x.1):Int)-(1:Int)∧(↑(List.length x.1):Int)-(1:Int)≤(↑(List.length (List.set x.1 (0:Nat) x')):Int))∧eA (lDn x.1) [AV.sl true 0 2 StW stA (List.take (Int.toNat ((↑(List.length x.1):Int)-(1:Int))) (List.set x.1 (0:Nat) x')),.box 0 [.nil,.int .i64 (0:Int)],.box 0 [Ad x_1.vals,.int .i64 x_1.sum],.int .i64 (0:Int)]∧∀(i:List StW×Int×Nat),dwI x.1 i.1 i.2.1 i.2.2→inR IntKind.i64 ((2:Int)*i.2.1)∧inR IntKind.i64 ((2:Int)*i.2.1+(1:Int))∧Ab (decide ((2:Int)*i.2.1+(1:Int)<(↑(List.length i.1):Int))) (inR IntKind.i64 ((2:Int)*i.2.1)∧inR IntKind.i64 ((2:Int)*i.2.1+(1:Int))∧(true=true∧true=true∧inR IntKind.i64 ((2:Int)*i.2.1+(1:Int)+(1:Int))∧Ab (decide ((2:Int)*i.2.1+(1:Int)+(1:Int)<(↑(List.length i.1):Int))) (inR IntKind.i64 ((2:Int)*i.2.1+(1:Int)+(1:Int))∧((0:Int)≤(2:Int)*i.2.1+(1:Int)+(1:Int)∧(2:Int)*i.2.1+(1:Int)+(1:Int)<(↑(List.length i.1):Int))∧Int.toNat ((2:Int)*i.2.1+(1:Int)+(1:Int))<List.length i.1∧∀(x_4:StW),i.1[Int.toNat ((2:Int)*i.2.1+(1:Int)+(1:Int))]? =some x_4→((0:Int)≤(2:Int)*i.2.1+(1:Int)∧(2:Int)*i.2.1+(1:Int)<(↑(List.length i.1):Int))∧Int.toNat ((2:Int)*i.2.1+(1:Int))<List.length i.1∧∀(x_5:StW),i.1[Int.toNat ((2:Int)*i.2.1+(1:Int))]? =some x_5→∃(x_6:List Int×Int×List Int×Int),(List.length x_6.1<(4611686018427387904:Nat)∧List.length x_6.2.2.1<(4611686018427387904:Nat))∧Ad x_4.vals=Ad x_6.1∧x_4.sum=x_6.2.1∧Ad x_5.vals=Ad x_6.2.2.1∧x_5.sum=x_6.2.2.2∧∃(y0:Unit),(∀(y:Unit),True→AV.bool (Bt {vals:=x_6.1,sum:=x_6.2.1} {vals:=x_6.2.2.1,sum:=x_6.2.2.2})=AV.bool (Bt {vals:=x_6.1,sum:=x_6.2.1} {vals:=x_6.2.2.1,sum:=x_6.2.2.2}))∧true=true∧Ab (Bt {vals:=x_6.1,sum:=x_6.2.1} {vals:=x_6.2.2.1,sum:=x_6.2.2.2}) (inR IntKind.i64 ((2:Int)*i.2.1+(1:Int)+(1:Int))∧eA (OC x.1 i) [AV.sl true 0 2 StW stA i.1,.box 0 [Ad st0.vals,.int .i64 st0.sum],.box 0 [Ad (AN x.1 (0:Int)).vals,.int .i64 (AN x.1 (0:Int)).sum],.int .i64 i.2.1,.int .i64 ((2:Int)*i.2.1+(1:Int)+(1:Int))]) (eA (OC x.1 i) [AV.sl true 0 2 StW stA i.1,.box 0 [Ad st0.vals,.int .i64 st0.sum],.box 0 [Ad (AN x.1 (0:Int)).vals,.int .i64 (AN x.1 (0:Int)).sum],.int .i64 i.2.1,.int .i64 ((2:Int)*i.2.1+(1:Int))])) (eA (OC x.1 i) [AV.sl true 0 2 StW stA i.1,.box 0 [Ad st0.vals,.int .i64 st0.sum],.box 0 [Ad (AN x.1 (0:Int)).vals,.int .i64 (AN x.1 (0:Int)).sum],.int .i64 i.2.1,.int .i64 ((2:Int)*i.2.1+(1:Int))]))∧∀(i_1:Unit),(0:Int)≤i.2.1∧(2:Int)*i.2.1+(1:Int)<(↑(List.length i.1):Int)→true=true∧true=true∧((0:Int)≤dnK i.1 i.2.1∧dnK i.1 i.2.1<(↑(List.length i.1):Int))∧Int.toNat (dnK i.1 i.2.1)<List.length i.1∧∀(x_4:StW),i.1[Int.toNat (dnK i.1 i.2.1)]? =some x_4→((0:Int)≤i.2.1∧i.2.1<(↑(List.length i.1):Int))∧Int.toNat i.2.1<List.length i.1∧∀(x_5:StW),i.1[Int.toNat i.2.1]? =some x_5→∃(x_6:List Int×Int×List Int×Int),(List.length x_6.1<(4611686018427387904:Nat)∧List.length x_6.2.2.1<(4611686018427387904:Nat))∧Ad x_4.vals=Ad x_6.1∧x_4.sum=x_6.2.1∧Ad x_5.vals=Ad x_6.2.2.1∧x_5.sum=x_6.2.2.2∧∃(y0:Unit),(∀(y:Unit),True→AV.bool (Bt {vals:=x_6.1,sum:=x_6.2.1} {vals:=x_6.2.2.1,sum:=x_6.2.2.2})=AV.bool (Bt {vals:=x_6.1,sum:=x_6.2.1} {vals:=x_6.2.2.1,sum:=x_6.2.2.2}))∧true=true∧Ab (!Bt {vals:=x_6.1,sum:=x_6.2.1} {vals:=x_6.2.2.1,sum:=x_6.2.2.2}) (WD x i) (true=true∧(((0:Int)≤dnK i.1 i.2.1∧dnK i.1 i.2.1<(↑(List.length i.1):Int))∧((0:Int)≤i.2.1∧i.2.1<(↑(List.length i.1):Int))∧(Int.toNat (dnK i.1 i.2.1)<List.length i.1∧∀(x_7:StW),i.1[Int.toNat (dnK i.1 i.2.1)]? =some x_7→Int.toNat i.2.1<List.length i.1∧∀(x_8:StW),i.1[Int.toNat i.2.1]? =some x_8→((0:Int)≤i.2.1∧i.2.1<(↑(List.length i.1):Int))∧Int.toNat i.2.1<List.length i.1∧∀(x_9:StW),i.1[Int.toNat i.2.1]? =some x_9→∃(x':StW),((@List.nil AV)=[]∧(@List.nil AV)=[])∧Ad x_7.vals=Ad x'.vals∧x_7.sum=x'.sum∧((0:Int)≤dnK i.1 i.2.1∧dnK i.1 i.2.1<(↑(List.length (List.set i.1 (Int.toNat i.2.1) x')):Int))∧Int.toNat (dnK i.1 i.2.1)<List.length (List.set i.1 (Int.toNat i.2.1) x')∧∀(x_10:StW),(List.set i.1 (Int.toNat i.2.1) x')[Int.toNat (dnK i.1 i.2.1)]? =some x_10→∃(x'_1:StW),((@List.nil AV)=[]∧(@List.nil AV)=[])∧Ad x_8.vals=Ad x'_1.vals∧x_8.sum=x'_1.sum∧(true=true∧(eA (Rt x.1 i) [AV.sl true 0 2 StW stA (List.set (List.set i.1 (Int.toNat i.2.1) x') (Int.toNat (dnK i.1 i.2.1)) x'_1),.box 0 [Ad st0.vals,.int .i64 st0.sum],.box 0 [Ad (AN x.1 (0:Int)).vals,.int .i64 (AN x.1 (0:Int)).sum],.int .i64 i.2.1,.int .i64 (dnK i.1 i.2.1)])))∧Int.toNat i.2.1<List.length i.1∧∀(x_7:StW),i.1[Int.toNat i.2.1]? =some x_7→Int.toNat (dnK i.1 i.2.1)<List.length i.1∧∀(x_8:StW),i.1[Int.toNat (dnK i.1 i.2.1)]? =some x_8→((0:Int)≤i.2.1∧i.2.1<(↑(List.length i.1):Int))∧Int.toNat i.2.1<List.length i.1∧∀(x_9:StW),i.1[Int.toNat i.2.1]? =some x_9→∃(x':StW),((@List.nil AV)=[]∧(@List.nil AV)=[])∧Ad x_8.vals=Ad x'.vals∧x_8.sum=x'.sum∧((0:Int)≤dnK i.1 i.2.1∧dnK i.1 i.2.1<(↑(List.length (List.set i.1 (Int.toNat i.2.1) x')):Int))∧Int.toNat (dnK i.1 i.2.1)<List.length (List.set i.1 (Int.toNat i.2.1) x')∧∀(x_10:StW),(List.set i.1 (Int.toNat i.2.1) x')[Int.toNat (dnK i.1 i.2.1)]? =some x_10→∃(x'_1:StW),((@List.nil AV)=[]∧(@List.nil AV)=[])∧Ad x_7.vals=Ad x'_1.vals∧x_7.sum=x'_1.sum∧(true=true∧(eA (Rt x.1 i) [AV.sl true 0 2 StW stA (List.set (List.set i.1 (Int.toNat i.2.1) x') (Int.toNat (dnK i.1 i.2.1)) x'_1),.box 0 [Ad st0.vals,.int .i64 st0.sum],.box 0 [Ad (AN x.1 (0:Int)).vals,.int .i64 (AN x.1 (0:Int)).sum],.int .i64 i.2.1,.int .i64 (dnK i.1 i.2.1)])))∧∀(i_2:List StW×Unit),dwI x.1 i_2.1 (dnK i.1 i.2.1) (i.2.2-(1:Nat))∧(0:Int)≤i.2.1∧(2:Int)*i.2.1+(1:Int)<(↑(List.length i.1):Int)→eN (lDn x.1) i [AV.sl true 0 2 StW stA i_2.1,.box 0 [Ad st0.vals,.int .i64 st0.sum],.box 0 [Ad (AN x.1 (0:Int)).vals,.int .i64 (AN x.1 (0:Int)).sum],.int .i64 (dnK i.1 i.2.1)])) (WD x i)) (fun x=>by kernel_rfl) fun(x:List StW×Unit) (hx:0<x.1.length∧x.1.length<2^40∧(∀s∈x.1,s.vals.length<2^62))=>(by
 dsimp only[WD,eA,eN,Ad,lDn,Rt,WB,OC,CA,HI,Aq,Aw,AZ]
 obtain⟨x,_⟩:=x;dsimp only at hx ⊢
 obtain⟨h1,h2,h3⟩:=hx
 have h64:(x.length:Int)<2^40:=by omega
 (repeat' first|(apply Rr<;>try dsimp only)|(with_reducible first|rfl|exact True.intro|apply AG|apply And.intro|((first|apply Au|apply AE|apply Av|apply AF)<;>intro _))|(apply As<;>intro _)|apply AD|refine Af () ?_ ?_|((first|apply AK|apply AJ|apply AI|apply AH|apply AC|apply AB|apply AA|apply Az|apply Ax)<;>try dsimp only)|apply Af|(refine Prod.forall.2 ?_;intro _;try dsimp only)|(intro _;try dsimp only))
 all_goals first
  |with_reducible rfl
  |with_reducible assumption
  |omega
  |(simp only[Ai,List.length_set] at*;omega)
  |exact()
  |exact a3o h1 (by with_reducible assumption)
  |exact(show st0.vals=[] from rfl)
  |exact(show(0:Int)=st0.sum from rfl)
  |exact congrArg StW.vals (Rs (by with_reducible assumption)).symm
  |exact congrArg StW.sum (Rs (by with_reducible assumption)).symm
  |exact a3q (by with_reducible assumption) (show Bt _ _=true by with_reducible assumption) (by with_reducible assumption) (by with_reducible assumption)
  |exact a3r (show Bt _ _=false by with_reducible assumption) (by with_reducible assumption) (by with_reducible assumption)
  |exact a3s (by with_reducible assumption)
  |(rename 0≤_∧2*_+1<_=>hq;have ha:=Mx hq.1 hq.2;(try rw[List.length_set]);omega)
  |exact a3t (by with_reducible assumption) (by with_reducible assumption) (show Bt _ _=true by with_reducible assumption) (by with_reducible assumption) (by with_reducible assumption) (by with_reducible assumption) (by with_reducible assumption)
  |exact(show dwI _ _ _ _∧_ by with_reducible assumption).1
  |exact a3u (by with_reducible assumption) (show Bt _ _=false by with_reducible assumption) (by with_reducible assumption) (by with_reducible assumption)
  |exact WA (by with_reducible assumption) (.inl (by with_reducible assumption))
  |(have hb:=Jy (show dwI _ _ _ _ by with_reducible assumption);(try simp only[Ai]);omega)
  |exact a3p (by with_reducible assumption) h3 (by with_reducible assumption)
  |(rename dwI _ _ _ _∧_=>hq;have hb:=Jy hq.1;have hc:=Jy (show dwI _ _ _ _ by with_reducible assumption);have ha:=Mx hq.2.1 hq.2.2;omega)
  |skip)
end Go.My
end
section
namespace Go.My
open Go.Eng Go.Proofs
variable {G:GInv}
theorem a3v{v:List Int}{t:Ti}(h:inn t.kid 0 ((v.length:Int)-1)=false):Fl v t=true:=by simp [Fl,h]
theorem a3w{v:List Int}{t:Ti}(h:inn t.up 0 ((v.length:Int)-1)=false):Fl v t=true:=by simp [Fl,h]
theorem a3x{v:List Int}{t:Ti}{a:Int}(ha:v[t.kid.toNat]? =some a)(h:¬a>0):Fl v t=true:=by
 have:vAt v t.kid=a:=by simp [vAt,List.getD,ha]
 simp [Fl,this];omega
theorem a3y{v:List Int}{t:Ti}{a:Int}(ha:v[t.up.toNat]? =some a)(h:¬a=0):Fl v t=true:=by
 have:vAt v t.up=a:=by simp [vAt,List.getD,ha]
 simp [Fl,this];omega
theorem a3z{v:List Int}{t:Ti}{a b:Int}(h1:inn t.kid 0 ((v.length:Int)-1)=true)(h2:inn t.up 0 ((v.length:Int)-1)=true)(ha:v[t.kid.toNat]? =some a)(hb:v[t.up.toNat]? =some b)(h:a>0)(h0:b=0):Fl v t=false:=by
 have e1:vAt v t.kid=a:=by simp [vAt,List.getD,ha]
 have e2:vAt v t.up=b:=by simp [vAt,List.getD,hb]
 simp [Fl,h1,h2,e1,e2,h0];omega
theorem Rx{v:List Int}{k:Int}(h:inn k 0 ((v.length:Int)-1)=true):(0≤k∧k<v.length)∧k.toNat<v.length:=by
 have:=Br.1 h;exact⟨by omega,by omega⟩
def KW:Sig:= {X:=Pc×List Int,args:=fun x=>[.agg (pcA false x.1),Ad x.2],pre:=fun x=>x.1.ties.length≤2^40∧x.2.length≤2^40,Y:=Unit,post:=fun x y=>True,res:=fun x y=> .bool (KL x.1 x.2),outs:=fun x y=>[.top,.top],keep:=false}
def KX(x:Pc×List Int):LS:= {ι:=Int,inv:=fun i=>Bz (Fl x.2) x.1.ties i,regs:=fun i=>[(1,Ad x.2),(8,tis x.1.ties),(9,.int .i64 x.1.ties.length),(10,.int .i64 i)],als:=[],meas:=fun i=>x.1.ties.length-i.toNat}
theorem b3Z:Ah G Tryz.prog 231 KW:=
 vcFun_okP [(36,0,BG)] [] false (fun x=>[(2,KX x)]) Tryz.func231 rfl (by decide) ⟨Gw,trivial⟩ (fun(x:Pc×List Int)=>(∀(y:Unit),True→True∧True∧True∧True)∧eA (KX x) [Ad x.2,AV.sl false 0 2 Ti tiA x.1.ties,.int .i64 (↑(List.length x.1.ties):Int),.int .i64 (0:Int)]∧∀(i:Int),Bz (Fl x.2) x.1.ties i→Ab (decide (i<(↑(List.length x.1.ties):Int))) (((0:Int)≤i∧i<(↑(List.length x.1.ties):Int))∧∀(e:Ti),x.1.ties[Int.toNat i]? =some e→inR IntKind.i64 ((↑(List.length x.2):Int)-(1:Int))∧cA BG [.int .i64 e.kid,.int .i64 (0:Int),.int .i64 ((↑(List.length x.2):Int)-(1:Int))] fun x_1 y=>Ab (!inn x_1.1 x_1.2.1 x_1.2.2) (inR IntKind.i64 (i+(1:Int))∧(eN (KX x) i [Ad x.2,AV.sl false 0 2 Ti tiA x.1.ties,.int .i64 (↑(List.length x.1.ties):Int),.int .i64 (i+(1:Int))])) (inR IntKind.i64 ((↑(List.length x.2):Int)-(1:Int))∧cA BG [.int .i64 e.up,.int .i64 (0:Int),.int .i64 ((↑(List.length x.2):Int)-(1:Int))] fun x_2 y=>Ab (!inn x_2.1 x_2.2.1 x_2.2.2) (inR IntKind.i64 (i+(1:Int))∧(eN (KX x) i [Ad x.2,AV.sl false 0 2 Ti tiA x.1.ties,.int .i64 (↑(List.length x.1.ties):Int),.int .i64 (i+(1:Int))])) (((0:Int)≤e.kid∧e.kid<(↑(List.length x.2):Int))∧∀(e_1:Int),x.2[Int.toNat e.kid]? =some e_1→Ab (decide (e_1>(0:Int))) (((0:Int)≤e.up∧e.up<(↑(List.length x.2):Int))∧∀(e_2:Int),x.2[Int.toNat e.up]? =some e_2→Ab (e_2==(0:Int)) (rA KW x [.bool false,.top,.top]) (inR IntKind.i64 (i+(1:Int))∧(eN (KX x) i [Ad x.2,AV.sl false 0 2 Ti tiA x.1.ties,.int .i64 (↑(List.length x.1.ties):Int),.int .i64 (i+(1:Int))]))) (inR IntKind.i64 (i+(1:Int))∧(eN (KX x) i [Ad x.2,AV.sl false 0 2 Ti tiA x.1.ties,.int .i64 (↑(List.length x.1.ties):Int),.int .i64 (i+(1:Int))]))))) (rA KW x [.bool true,.top,.top])) (fun x=>by kernel_rfl) fun(x:Pc×List Int) (hx:x.1.ties.length≤2^40∧x.2.length≤2^40)=>(by
 dsimp only[cA,Bl,eA,eN,KX,Ad,pcA,rA,Bj,BG,KW,Bm,Bn,tis,Aq,Aw,mvL,lnL,mvE,lnE,mvG,mvH,lnG,lnH,AZ]
 obtain⟨p,v⟩:=x;dsimp only at hx ⊢
 obtain⟨h1,h2⟩:=hx
 (repeat' first|refine Ds p ?_|(with_reducible first|rfl|exact True.intro|apply AG|apply And.intro|((first|apply Au|apply AE|apply Av|apply AF)<;>intro _))|(apply As<;>intro _)|apply AD|refine Af () ?_ ?_|((first|apply AK|apply AJ|apply AI|apply AH|apply AC|apply AB|apply AA|apply Az|apply Ax)<;>try dsimp only)|apply Af|(refine Prod.forall.2 ?_;intro _;try dsimp only)|(intro _;try dsimp only))
 all_goals first
  |with_reducible rfl
  |with_reducible assumption
  |omega
  |exact MA
  |(have hq:=(show Bz _ _ _ by assumption).1;(try simp only[Ai]);omega)
  |(have hq:=Rx (show inn (Ti.kid _) _ _=true by assumption);omega)
  |(have hq:=Rx (show inn (Ti.up _) _ _=true by assumption);omega)
  |exact Fo ‹_› ‹_› ‹_› (a3v ‹_›)
  |exact Fo ‹_› ‹_› ‹_› (a3w ‹_›)
  |exact Fo ‹_› ‹_› ‹_› (a3y ‹_› ‹_›)
  |exact Fo ‹_› ‹_› ‹_› (a3x ‹_› ‹_›)
  |exact(FE ‹_› (a3z ‹_› ‹_› ‹_› ‹_› ‹_› ‹_›)).symm
  |exact(He ‹_› ‹_›).symm
  |skip)
structure coP (p:Pc) (v:List Int):Prop where
 re:renP p v
 vo:vOk p v
theorem a3A{p:Pc}{v:List Int}(h:coP p v):bndP p v:=⟨h.re.ok,h.vo⟩
def ovI(p:Pc)(v:List Int)(w:Int)(i n:Int):Prop:=(0≤i∧i≤(BF p v).length)∧n=ovL (wdF w) ((BF p v).take i.toNat)
theorem b4a{p:Pc}{v:List Int}{w:Int}:ovI p v w 0 0:=⟨by omega,by simp [ovL]⟩
theorem b4b{p:Pc}{v:List Int}{w i n:Int}{s:List UInt8}(h:ovI p v w i n)(hs:(BF p v)[i.toNat]? =some s):ovI p v w (i+1) (n+max ((s.length:Int)-wdF w) 0):=by
 have hl:=(Cm hs).1
 refine⟨by have:=h.1;omega,?_⟩
 rw[h.2,BD h.1.1,CT hs,b3p];simp [ovL]
theorem a3B{p:Pc}{v:List Int}{w i n:Int}(h:ovI p v w i n)(hi:¬i<((BF p v).length:Int)):n=(Bi p v w).over:=by
 rw[h.2,List.take_of_length_le (by omega)];rfl
theorem a3C{w:Int}:0≤wdF w∧wdF w≤100000:=by unfold wdF;omega
theorem b4c{p:Pc}{v:List Int}{w i n:Int}(h:coP p v)(hi:ovI p v w i n):(0≤i∧i≤81)∧0≤n∧n≤2^61+8200:=by
 have h1:=Wg (w:=wdF w) a3C.1 (l:=(BF p v).take i.toNat)
 have h2:=Oo (v:=v) h.re.ok
 have h3:lnS ((BF p v).take i.toNat)≤lnS (BF p v):=by
  have:=a2m (l:=(BF p v).take i.toNat) (m:=(BF p v).drop i.toNat)
  rw[List.take_append_drop] at this;omega
 have h4:=h.re.ct
 have h5:=hi.1;have h6:=hi.2
 omega
theorem b4d{p:Pc}{v:List Int}(h:coP p v){i:Nat}{s:List UInt8}(hs:(BF p v)[i]? =some s):(s.length:Int)≤2^61+8200:=by
 have h1:=b3o (AY hs)
 have h2:=Oo (v:=v) h.re.ok
 have h4:=h.re.ct
 omega
def KY:Sig:= {X:=Pc×List Int×Int,args:=fun x=>[.agg (pcA false x.1),Ad x.2.1,.int .i64 x.2.2],pre:=fun x=>coP x.1 x.2.1,Y:=Unit,post:=fun x y=>True,res:=fun x y=> .agg [.int .i64 (Bi x.1 x.2.1 x.2.2).over,.int .i64 (Bi x.1 x.2.1 x.2.2).sum],outs:=fun x y=>[.top,.top,.top],keep:=false}
def Ry(x:Pc×List Int×Int):LS:= {ι:=Int×Int,inv:=fun i=>ovI x.1 x.2.1 x.2.2 i.1 i.2,regs:=fun i=>[(2,.int .i64 (wdF x.2.2)),(6,.box 0 [.int .i64 0,.int .i64 0]),(7,.box 0 [.int .i64 i.2,.int .i64 (Cl x.1 x.2.1)]),(19,Cg (BF x.1 x.2.1)),(20,.int .i64 (BF x.1 x.2.1).length),(21,.int .i64 i.1)],als:=[],meas:=fun i=>(BF x.1 x.2.1).length-i.1.toNat}
theorem a3D:Ah G Tryz.prog 216 KY:=
 vcFun_okP [(226,0,HO),(165,0,HN)] [] false (fun x=>[(4,Ry x)]) Tryz.func216 rfl (by decide) ⟨a3f,a2V,trivial⟩ (fun(x:Pc×List Int×Int)=>(∀(y:Unit),True→(True∧True∧True)∧True∧True∧True∧True)∧cA HO [.agg [.int .i64 x.1.ind,AV.sl false 0 2 Ru ruA x.1.rules,AV.sl false 0 5 Ch chA x.1.chunks,AV.sl false 0 3 Sn snA x.1.spans,AV.sl false 0 2 Ti tiA x.1.ties],Ad x.2.1] fun x_1 y=>cA HN [.agg [.int .i64 x.1.ind,AV.sl false 0 2 Ru ruA x.1.rules,AV.sl false 0 5 Ch chA x.1.chunks,AV.sl false 0 3 Sn snA x.1.spans,AV.sl false 0 2 Ti tiA x.1.ties],Ad x.2.1] fun x_2 y=>eA (Ry x) [.int .i64 (max (0:Int) (min x.2.2 (100000:Int))),.box 0 [.int .i64 (0:Int),.int .i64 (0:Int)],.box 0 [.int .i64 (0:Int),.int .i64 (Cl x_1.1 x_1.2)],AV.sl true 0 1 (List UInt8) Ag (BF x_2.1 x_2.2),.int .i64 (↑(List.length (BF x_2.1 x_2.2)):Int),.int .i64 (0:Int)]∧∀(i:Int×Int),ovI x.1 x.2.1 x.2.2 i.1 i.2→Ab (decide (i.1<(↑(List.length (BF x.1 x.2.1)):Int))) (((0:Int)≤i.1∧i.1<(↑(List.length (BF x.1 x.2.1)):Int))∧Int.toNat i.1<List.length (BF x.1 x.2.1)∧∀(x_3:List UInt8),(BF x.1 x.2.1)[Int.toNat i.1]? =some x_3→inR IntKind.i64 ((↑(List.length x_3):Int)-wdF x.2.2)∧inR IntKind.i64 (i.2+max ((↑(List.length x_3):Int)-wdF x.2.2) (0:Int))∧inR IntKind.i64 (i.1+(1:Int))∧eN (Ry x) i [.int .i64 (wdF x.2.2),.box 0 [.int .i64 (0:Int),.int .i64 (0:Int)],.box 0 [.int .i64 (i.2+max ((↑(List.length x_3):Int)-wdF x.2.2) (0:Int)),.int .i64 (Cl x.1 x.2.1)],AV.sl true 0 1 (List UInt8) Ag (BF x.1 x.2.1),.int .i64 (↑(List.length (BF x.1 x.2.1)):Int),.int .i64 (i.1+(1:Int))]) (∃(y:Unit),True∧i.2=(Bi x.1 x.2.1 x.2.2).over∧Cl x.1 x.2.1=(Bi x.1 x.2.1 x.2.2).sum∧True)) (fun x=>by kernel_rfl) fun(x:Pc×List Int×Int) (hx:coP x.1 x.2.1)=>(by
 dsimp only[cA,Bl,chs,eA,eN,Ry,Ad,Cg,pcA,Bj,HO,HN,Bm,sns,Bn,Aq,Aw,mvL,lnL,mvE,lnE,mvG,mvH,lnG,lnH,AZ]
 obtain⟨p,v,w⟩:=x;dsimp only at hx ⊢
 have hx:coP p v:=hx
 (repeat' first|refine Ds p ?_|(with_reducible first|rfl|exact True.intro|apply AG|apply And.intro|((first|apply Au|apply AE|apply Av|apply AF)<;>intro _))|(apply As<;>intro _)|apply AD|refine Af () ?_ ?_|((first|apply AK|apply AJ|apply AI|apply AH|apply AC|apply AB|apply AA|apply Az|apply Ax)<;>try dsimp only)|apply Af|(refine Prod.forall.2 ?_;intro _;try dsimp only)|(intro _;try dsimp only))
 all_goals first
  |with_reducible rfl
  |with_reducible assumption
  |exact a3A hx
  |exact hx.re
  |exact b4a
  |exact b4b ‹_› ‹_›
  |exact a3B ‹_› ‹_›
  |exact(a3B ‹_› ‹_›).symm
  |exact(show max 0 (min w 100000)=wdF w from rfl)
  |exact(show Cl p v=(Bi p v w).sum from rfl)
  |(have hq:=b4c hx (show ovI _ _ _ _ _ by assumption);have hw:= @a3C w;(try have hl:=b4d hx ‹_›);(try simp only[Ai]);omega)
  |skip)
def huA(p:Pc)(w:Int)(h:Hu):AV:= .box 0 [.int .i64 p.ind,.sl false 0 2 Ru ruA p.rules,.sl false 0 5 Ch chA p.chunks,.sl false 0 3 Sn snA p.spans,.sl false 0 2 Ti tiA p.ties,.int .i64 w,Ad h.best,.int .i64 h.cost.over,.int .i64 h.cost.sum,CA h.heap,.int .i64 h.pops]
theorem a3E{c d:Co}{v b:List Int}(h:GI c d=true):Fm c d v b=true:=by simp [Fm,h]
theorem a3F{c d:Co}{v b:List Int}(h:(true&&c.over==d.over&&c.sum==d.sum)=true)(hc:Cy v b<0):Fm c d v b=true:=by
 simp at h;simp [Fm,h.1,h.2,hc]
theorem a3G{c d:Co}{v b:List Int}(h1:GI c d=false)(h:(true&&c.over==d.over&&c.sum==d.sum)=false):Fm c d v b=false:=by
 simp only[Fm,h1,Bool.false_or,Bool.and_eq_false_iff,decide_eq_false_iff_not]
 left;simp at h;by_cases e:c.over=d.over
 ·exact .inr (h e)
 ·exact .inl e
theorem a3H{c d:Co}{v b:List Int}(h1:GI c d=false)(hc:¬Cy v b<0):Fm c d v b=false:=by
 simp [Fm,h1,hc]
theorem WE{p:Pc}{w:Int}{v:List Int}{h:Hu}(hb:Fm (Bi p v w) h.cost v h.best=true):EJ p w v h=⟨v,Bi p v w,h.heap,h.pops⟩:=by rw[EJ,if_pos hb]
theorem WF{p:Pc}{w:Int}{v:List Int}{h:Hu}(hb:Fm (Bi p v w) h.cost v h.best=false):EJ p w v h=h:=by rw[EJ,if_neg (by rw[hb];simp)]
def OD:Sig:= {X:=Pc×Int×Hu×List Int,args:=fun x=>[huA x.1 x.2.1 x.2.2.1,Ad x.2.2.2],pre:=fun x=>coP x.1 x.2.2.2∧x.2.2.1.best.length≤8,Y:=Unit,post:=fun x y=>True,res:=fun x y=> .tup [],outs:=fun x y=>[huA x.1 x.2.1 (EJ x.1 x.2.1 x.2.2.2 x.2.2.1),.top],keep:=true}
def WG(x:Pc×Int×Hu×List Int):LS:= {ι:=Unit,inv:=fun _=>True,regs:=fun _=>[(0,huA x.1 x.2.1 x.2.2.1),(1,Ad x.2.2.2),(4,.box 0 [.int .i64 (Bi x.1 x.2.2.2 x.2.1).over,.int .i64 (Bi x.1 x.2.2.2 x.2.1).sum])],als:=[],meas:=fun _=>0}
def WH(x:Pc×Int×Hu×List Int):LS:= {ι:=Unit,inv:=fun _=>Fm (Bi x.1 x.2.2.2 x.2.1) x.2.2.1.cost x.2.2.2 x.2.2.1.best=true,regs:=fun _=>[(0,huA x.1 x.2.1 ⟨x.2.2.2,Bi x.1 x.2.2.2 x.2.1,x.2.2.1.heap,x.2.2.1.pops⟩)],als:=[],meas:=fun _=>0}
def IA(x:Pc×Int×Hu×List Int):Prop:=cA KY [.agg [.int .i64 x.1.ind,AV.sl false 0 2 Ru ruA x.1.rules,AV.sl false 0 5 Ch chA x.1.chunks,AV.sl false 0 3 Sn snA x.1.spans,AV.sl false 0 2 Ti tiA x.1.ties],Ad x.2.2.2,.int .i64 x.2.1] fun x_1 y=>true=true∧(eA (WG x) [.box 0 [.int .i64 x.1.ind,AV.sl false 0 2 Ru ruA x.1.rules,AV.sl false 0 5 Ch chA x.1.chunks,AV.sl false 0 3 Sn snA x.1.spans,AV.sl false 0 2 Ti tiA x.1.ties,.int .i64 x.2.1,Ad x.2.2.1.best,.int .i64 x.2.2.1.cost.over,.int .i64 x.2.2.1.cost.sum,AV.sl true 0 2 StW stA x.2.2.1.heap,.int .i64 x.2.2.1.pops],Ad x.2.2.2,.box 0 [.int .i64 (Bi x_1.1 x_1.2.1 x_1.2.2).over,.int .i64 (Bi x_1.1 x_1.2.1 x_1.2.2).sum]])
def WI(x:Pc×Int×Hu×List Int):Prop:=true=true∧(eA (WH x) [.box 0 [.int .i64 x.1.ind,AV.sl false 0 2 Ru ruA x.1.rules,AV.sl false 0 5 Ch chA x.1.chunks,AV.sl false 0 3 Sn snA x.1.spans,AV.sl false 0 2 Ti tiA x.1.ties,.int .i64 x.2.1,Ad x.2.2.2,.int .i64 (Bi x.1 x.2.2.2 x.2.1).over,.int .i64 (Bi x.1 x.2.2.2 x.2.1).sum,AV.sl true 0 2 StW stA x.2.2.1.heap,.int .i64 x.2.2.1.pops]])
def WJ(x:Pc×Int×Hu×List Int):Prop:=true=true∧(((WI x)∧(WI x))∧(∀(i:Unit),Fm (Bi x.1 x.2.2.2 x.2.1) x.2.2.1.cost x.2.2.2 x.2.2.1.best=true→rA OD x [.tup [],.box 0 [.int .i64 x.1.ind,AV.sl false 0 2 Ru ruA x.1.rules,AV.sl false 0 5 Ch chA x.1.chunks,AV.sl false 0 3 Sn snA x.1.spans,AV.sl false 0 2 Ti tiA x.1.ties,.int .i64 x.2.1,Ad x.2.2.2,.int .i64 (Bi x.1 x.2.2.2 x.2.1).over,.int .i64 (Bi x.1 x.2.2.2 x.2.1).sum,AV.sl true 0 2 StW stA x.2.2.1.heap,.int .i64 x.2.2.1.pops],.top]))
def WK(x:Pc×Int×Hu×List Int):Prop:=rA OD x [.tup [],.box 0 [.int .i64 x.1.ind,AV.sl false 0 2 Ru ruA x.1.rules,AV.sl false 0 5 Ch chA x.1.chunks,AV.sl false 0 3 Sn snA x.1.spans,AV.sl false 0 2 Ti tiA x.1.ties,.int .i64 x.2.1,Ad x.2.2.1.best,.int .i64 x.2.2.1.cost.over,.int .i64 x.2.2.1.cost.sum,AV.sl true 0 2 StW stA x.2.2.1.heap,.int .i64 x.2.2.1.pops],.top]
theorem b4e:Ah G Tryz.prog 218 OD:=
 vcFun_okP [(216,0,KY),(228,0,ME),(229,0,KT)] [] false (fun x=>[(100000,WG x),(100002,WH x)]) Tryz.func218 rfl (by decide) ⟨a3D,b3M,a3j,trivial⟩ (fun(x:Pc×Int×Hu×List Int)=>True∧true=true∧((((IA x)∧(IA x))∧(IA x))∧(((IA x)∧(IA x))∧(IA x))∧((IA x)∧(IA x)))∧∀(i:Unit),True→true=true∧true=true∧∃(x_1:Int×Int×Int×Int),True∧(Bi x.1 x.2.2.2 x.2.1).over=x_1.1∧(Bi x.1 x.2.2.2 x.2.1).sum=x_1.2.1∧x.2.2.1.cost.over=x_1.2.2.1∧x.2.2.1.cost.sum=x_1.2.2.2∧∃(y0:Unit),(∀(y:Unit),True→AV.bool (GI {over:=x_1.1,sum:=x_1.2.1} {over:=x_1.2.2.1,sum:=x_1.2.2.2})=AV.bool (GI {over:=x_1.1,sum:=x_1.2.1} {over:=x_1.2.2.1,sum:=x_1.2.2.2}))∧true=true∧Ab (GI {over:=x_1.1,sum:=x_1.2.1} {over:=x_1.2.2.1,sum:=x_1.2.2.2}) (WJ x) (Ab (true&&(Bi x.1 x.2.2.2 x.2.1).over==x.2.2.1.cost.over&&(Bi x.1 x.2.2.2 x.2.1).sum==x.2.2.1.cost.sum) (∃(x_2:List Int×List Int),(List.length x_2.1<(4611686018427387904:Nat)∧List.length x_2.2<(4611686018427387904:Nat))∧Ad x.2.2.2=Ad x_2.1∧Ad x.2.2.1.best=Ad x_2.2∧∃(y0:Unit),(∀(y:Unit),True→AV.int IntKind.i64 (Cy x_2.1 x_2.2)=AV.int IntKind.i64 (Cy x_2.1 x_2.2))∧true=true∧Ab (decide (Cy x_2.1 x_2.2<(0:Int))) (WJ x) (WK x)) (WK x))) (fun x=>by kernel_rfl) fun(x:Pc×Int×Hu×List Int) (hx:coP x.1 x.2.2.2∧x.2.2.1.best.length≤8)=>(by
 dsimp only[WK,WJ,WI,IA,cA,Bl,eA,huA,WH,WG,Ad,Cg,CA,pcA,rA,Bj,OD,KY,Bm,HI,Bn,Aq,Aw,mvL,lnL,mvE,lnE,mvG,mvH,lnG,lnH,AZ]
 obtain⟨p,w,h,v⟩:=x;dsimp only at hx ⊢
 obtain⟨h1,h2⟩:=hx
 (repeat' first|refine Ds p ?_|(with_reducible first|rfl|exact True.intro|apply AG|apply And.intro|((first|apply Au|apply AE|apply Av|apply AF)<;>intro _))|(apply As<;>intro _)|apply AD|refine Af () ?_ ?_|((first|apply AK|apply AJ|apply AI|apply AH|apply AC|apply AB|apply AA|apply Az|apply Ax)<;>try dsimp only)|apply Af|(refine Prod.forall.2 ?_;intro _;try dsimp only)|(intro _;try dsimp only))
 all_goals first
  |with_reducible rfl
  |exact h1
  |(have:=h1.vo.1;have:=h1.re.ok.rl;omega)
  |exact a3E ‹_›
  |exact a3F ‹_› ‹_›
  |(rw[WE ‹_›];done)
  |(rw[WF (a3G ‹_› ‹_›)];done)
  |(rw[WF (a3H ‹_› ‹_›)];done)
  |(rw[WE ‹_›];rfl)
  |skip)
def opC(p:Pc)(x:StW):Int:=(CJ p x.vals.length).vals
def opI(p:Pc)(c:Co)(x:StW)(l0 l:List StW)(i:Int):Prop:=
 (0≤i∧i≤opC p x)∧(opN p c x.vals (opC p x-i).toNat i l=opN p c x.vals (opC p x).toNat 0 l0)∧((l.length:Int)≤l0.length+i∧Hd p l)
structure opP (p:Pc) (h:Hu) (x:StW):Prop where
 ok:pcOk p
 vo:vOk p x.vals
 vl:x.vals.length<p.rules.length
 hl:h.heap.length≤2^39
 hk:Hd p h.heap
theorem a3I{p:Pc}{h:Hu}{x:StW}(hx:opP p h x):opI p h.cost x h.heap h.heap 0:=by
 have:=Mz hx.ok (i:=(x.vals.length:Int)) (by omega) (by have:=hx.vl;omega)
 exact⟨⟨by omega,by unfold opC;omega⟩,by simp,by omega,hx.hk⟩
theorem OE{p:Pc}{h:Hu}{x:StW}{l:List StW}{i:Int}(hx:opP p h x)(hi:opI p h.cost x h.heap l i)(hl:i<opC p x):
 (Hc p h.cost (x.vals++[i])=true→opI p h.cost x h.heap l (i+1))∧(Hc p h.cost (x.vals++[i])=false→opI p h.cost x h.heap (DD l ⟨x.vals++[i],Cl p (x.vals++[i])⟩) (i+1)):=by
 obtain⟨h1,h2,h3,h4⟩:=hi
 have e:(opC p x-i).toNat=(opC p x-(i+1)).toNat+1:=by omega
 rw[e,opN] at h2
 have hv:=Wl hx.vo hx.vl h1.1 (by unfold opC at hl;exact hl)
 refine⟨fun hb=>⟨by omega,?_,by omega,h4⟩,fun hb=>⟨by omega,?_,?_,a2s h4 ⟨hv,a2u hx.ok hv⟩⟩⟩
 ·rw[hb,if_pos rfl] at h2;exact h2
 ·rw[hb,if_neg (by simp)] at h2;exact h2
 ·have:=(Wh (f:=fun _=>0) (l:=l) (x:=⟨x.vals++[i],Cl p (x.vals++[i])⟩)).2.1
  rw[this];omega
theorem a3J{p:Pc}{c:Co}{x:StW}{l0 l:List StW}{i:Int}(hi:opI p c x l0 l i)(hl:¬i<opC p x):l=opN p c x.vals (opC p x).toNat 0 l0:=by
 obtain⟨h1,h2,_⟩:=hi
 rw[show(opC p x-i).toNat=0 by omega,opN] at h2;exact h2
def Jz:Sig:= {X:=List Int×Unit,args:=fun x=>[Ad x.1],pre:=fun x=>x.1.length≤2^40,Y:=Unit,post:=fun x y=>True,res:=fun x y=>AW x.1,outs:=fun x y=>[.top],keep:=false}
theorem b4f:Ah G Tryz.prog 230 Jz:=
 vcFun_okP [] [(38,⟨Int,CE⟩)] false (fun x=>[]) Tryz.func230 rfl (by decide) trivial (fun(x:List Int×Unit)=>(∀(y:Unit),True→(∀(x:Int),True∧True)∧True∧True)∧∀(b:Bool),(b=true→x.1=[])→Ab b (rA Jz x [.nil,.top]) (∃(zs:List Int),Ad x.1=Ad zs∧BH CE∧Bb ((0:Nat)+List.length zs) (8:Nat)∧rA Jz x [AW ([]++zs),.top])) (fun x=>by kernel_rfl) fun(x:List Int×Unit) (hx:x.1.length≤2^40)=>(by
 dsimp only[Ad,AW,rA,Jz,Aq,Aw]
 obtain⟨x,_⟩:=x;dsimp only at hx ⊢
 have hx:x.length≤2^40:=hx
 (repeat' first|(with_reducible first|rfl|exact True.intro|apply AG|apply And.intro|((first|apply Au|apply AE|apply Av|apply AF)<;>intro _))|(apply As<;>intro _)|apply AD|refine Af () ?_ ?_|((first|apply AK|apply AJ|apply AI|apply AH|apply AC|apply AB|apply AA|apply Az|apply Ax)<;>try dsimp only)|apply Af|(refine Prod.forall.2 ?_;intro _;try dsimp only)|(intro _;try dsimp only))
 all_goals first
  |rfl
  |(rename_i h0 hb;rw[h0 hb];done)
  |((try simp only[Bb,List.length_nil]);omega)
  |skip)
theorem Rz{p:Pc}{c:Co}{v:List Int}(h:KL p v=false∨(c.over=0∧Cl p v>c.sum)):Hc p c v=true:=by
 unfold Hc
 rcases h with h|h
 ·rw[h];rfl
 ·rw[decide_eq_true h.1,decide_eq_true (show c.sum<Cl p v by omega)];simp
theorem RA{p:Pc}{c:Co}{v:List Int}(h:KL p v=true)(h2:¬c.over=0∨¬Cl p v>c.sum):Hc p c v=false:=by
 unfold Hc
 rw[h]
 rcases h2 with h2|h2
 ·rw[decide_eq_false h2];rfl
 ·rw[decide_eq_false (show¬c.sum<Cl p v by omega)];simp
theorem a3K{p:Pc}{h:Hu}{x:StW}(hx:opP p h x):2≤opC p x∧opC p x≤3:=(Mz hx.ok (i:=(x.vals.length:Int)) (by omega) (by have:=hx.vl;omega)).1
theorem WL{p:Pc}{v:List Int}{n:Int}{e:Ru}(h:p.rules[(v.length:Int).toNat]? =some e):e.vals=opC p ⟨v,n⟩:=by unfold opC;rw[Ov h]
theorem a3L{p:Pc}{h:Hu}{x:StW}{l:List StW}{i:Int}(hx:opP p h x)(hi:opI p h.cost x h.heap l i):(0≤i∧i≤3)∧l.length≤2^39+3∧Hd p l:=by
 have h1:=a3K hx;have h2:=hi.1;have h3:=hi.2.2;have h4:=hx.hl
 exact⟨by omega,by omega,h3.2⟩
theorem a3M{p:Pc}{h:Hu}{v:List Int}{n:Int}{l:List StW}{i:Int}(hx:opP p h ⟨v,n⟩)(hi:opI p h.cost ⟨v,n⟩ h.heap l i)(hl:i<opC p ⟨v,n⟩):bndP p (v++[i]):=
 ⟨hx.ok,Wl hx.vo hx.vl hi.1.1 (by unfold opC at hl;exact hl)⟩
theorem WM{p:Pc}{l:List StW}(hp:pcOk p)(h:Hd p l):∀s∈l,s.vals.length<2^62:=fun s hs=>by
 have h1:=(h s hs).1.1;have h2:=hp.rl
 omega
def RB:Sig:= {X:=Pc×Int×Hu×List Int×Int,args:=fun x=>[huA x.1 x.2.1 x.2.2.1,.agg [Ad x.2.2.2.1,.int .i64 x.2.2.2.2]],pre:=fun x=>opP x.1 x.2.2.1 ⟨x.2.2.2.1,x.2.2.2.2⟩,Y:=Unit,post:=fun x y=>True,res:=fun x y=> .tup [],outs:=fun x y=>[huA x.1 x.2.1 ⟨x.2.2.1.best,x.2.2.1.cost,opN x.1 x.2.2.1.cost x.2.2.2.1 (opC x.1 ⟨x.2.2.2.1,x.2.2.2.2⟩).toNat 0 x.2.2.1.heap,x.2.2.1.pops⟩,.top],keep:=true}
def RC(x:Pc×Int×Hu×List Int×Int):LS:= {ι:=List StW×Int,inv:=fun i=>opI x.1 x.2.2.1.cost ⟨x.2.2.2.1,x.2.2.2.2⟩ x.2.2.1.heap i.1 i.2,regs:=fun i=>[(0,huA x.1 x.2.1 ⟨x.2.2.1.best,x.2.2.1.cost,i.1,x.2.2.1.pops⟩),(3,.box 0 [Ad x.2.2.2.1,.int .i64 x.2.2.2.2]),(17,.int .i64 (opC x.1 ⟨x.2.2.2.1,x.2.2.2.2⟩)),(18,.int .i64 i.2)],als:=[],meas:=fun i=>(opC x.1 ⟨x.2.2.2.1,x.2.2.2.2⟩-i.2).toNat}
def WN(x:Pc×Int×Hu×List Int×Int)(i:List StW×Int)(x_1:Jz.X)(x_3:HO.X)(zs:List Int):Prop:=cA KV [AV.sl true 0 2 StW stA i.1,.agg [AW (x_1.1++zs),.int .i64 (Cl x_3.1 x_3.2)]] fun x_5 y=>inR IntKind.i64 (i.2+(1:Int))∧(∃(i':List StW×Int),opI x.1 x.2.2.1.cost {vals:=x.2.2.2.1,sum:=x.2.2.2.2} x.2.2.1.heap i'.1 i'.2∧Int.toNat (opC x.1 {vals:=x.2.2.2.1,sum:=x.2.2.2.2}-i'.2)<Int.toNat (opC x.1 {vals:=x.2.2.2.1,sum:=x.2.2.2.2}-i.2)∧((x.1.ind=x.1.ind∧AV.sl false 0 2 Ru ruA x.1.rules=AV.sl false 0 2 Ru ruA x.1.rules∧AV.sl false 0 5 Ch chA x.1.chunks=AV.sl false 0 5 Ch chA x.1.chunks∧AV.sl false 0 3 Sn snA x.1.spans=AV.sl false 0 3 Sn snA x.1.spans∧AV.sl false 0 2 Ti tiA x.1.ties=AV.sl false 0 2 Ti tiA x.1.ties∧x.2.1=x.2.1∧Ad x.2.2.1.best=Ad x.2.2.1.best∧x.2.2.1.cost.over=x.2.2.1.cost.over∧x.2.2.1.cost.sum=x.2.2.1.cost.sum∧AV.sl true 0 2 StW stA (DD x_5.1 {vals:=x_5.2.1,sum:=x_5.2.2})=AV.sl true 0 2 StW stA i'.1∧x.2.2.1.pops=x.2.2.1.pops∧Ad x.2.2.2.1=Ad x.2.2.2.1∧x.2.2.2.2=x.2.2.2.2∧opC x.1 {vals:=x.2.2.2.1,sum:=x.2.2.2.2}=opC x.1 {vals:=x.2.2.2.1,sum:=x.2.2.2.2}∧i.2+(1:Int)=i'.2∧True)∧True))
def WO(x:Pc×Int×Hu×List Int×Int)(i:List StW×Int):Prop:=eN (RC x) i [.box 0 [.int .i64 x.1.ind,AV.sl false 0 2 Ru ruA x.1.rules,AV.sl false 0 5 Ch chA x.1.chunks,AV.sl false 0 3 Sn snA x.1.spans,AV.sl false 0 2 Ti tiA x.1.ties,.int .i64 x.2.1,Ad x.2.2.1.best,.int .i64 x.2.2.1.cost.over,.int .i64 x.2.2.1.cost.sum,AV.sl true 0 2 StW stA i.1,.int .i64 x.2.2.1.pops],.box 0 [Ad x.2.2.2.1,.int .i64 x.2.2.2.2],.int .i64 (opC x.1 {vals:=x.2.2.2.1,sum:=x.2.2.2.2}),.int .i64 (i.2+(1:Int))]
theorem b4g:Ah G Tryz.prog 219 RB:=
 vcFun_okP [(230,0,Jz),(226,0,HO),(231,0,KW),(232,0,KV)] [(38,⟨Int,CE⟩)] false (fun x=>[(2,RC x)]) Tryz.func219 rfl (by decide) ⟨b4f,a3f,b3Z,b3X,trivial⟩ (fun(x:Pc×Int×Hu×List Int×Int)=>True∧true=true∧true=true∧((0:Int)≤(↑(List.length x.2.2.2.1):Int)∧(↑(List.length x.2.2.2.1):Int)<(↑(List.length x.1.rules):Int))∧∀(e:Ru),x.1.rules[Int.toNat (↑(List.length x.2.2.2.1):Int)]? =some e→eA (RC x) [.box 0 [.int .i64 x.1.ind,AV.sl false 0 2 Ru ruA x.1.rules,AV.sl false 0 5 Ch chA x.1.chunks,AV.sl false 0 3 Sn snA x.1.spans,AV.sl false 0 2 Ti tiA x.1.ties,.int .i64 x.2.1,Ad x.2.2.1.best,.int .i64 x.2.2.1.cost.over,.int .i64 x.2.2.1.cost.sum,AV.sl true 0 2 StW stA x.2.2.1.heap,.int .i64 x.2.2.1.pops],.box 0 [Ad x.2.2.2.1,.int .i64 x.2.2.2.2],.int .i64 e.vals,.int .i64 (0:Int)]∧∀(i:List StW×Int),opI x.1 x.2.2.1.cost {vals:=x.2.2.2.1,sum:=x.2.2.2.2} x.2.2.1.heap i.1 i.2→Ab (decide (i.2<opC x.1 {vals:=x.2.2.2.1,sum:=x.2.2.2.2})) (cA Jz [Ad x.2.2.2.1] fun x_1 y=>∃(x_2:Int),i.2=x_2∧∃(zs:List Int),AW [x_2]=AW zs∧BH CE∧Bb (List.length x_1.1+List.length zs) (8:Nat)∧cA HO [.agg [.int .i64 x.1.ind,AV.sl false 0 2 Ru ruA x.1.rules,AV.sl false 0 5 Ch chA x.1.chunks,AV.sl false 0 3 Sn snA x.1.spans,AV.sl false 0 2 Ti tiA x.1.ties],AW (x_1.1++zs)] fun x_3 y=>cA KW [.agg [.int .i64 x.1.ind,AV.sl false 0 2 Ru ruA x.1.rules,AV.sl false 0 5 Ch chA x.1.chunks,AV.sl false 0 3 Sn snA x.1.spans,AV.sl false 0 2 Ti tiA x.1.ties],AW (x_1.1++zs)] fun x_4 y=>Ab (!KL x_4.1 x_4.2) (inR IntKind.i64 (i.2+(1:Int))∧(WO x i)) (Ab (x.2.2.1.cost.over==(0:Int)) (Ab (decide (Cl x_3.1 x_3.2>x.2.2.1.cost.sum)) (inR IntKind.i64 (i.2+(1:Int))∧(WO x i)) (WN x i x_1 x_3 zs)) (WN x i x_1 x_3 zs))) (rA RB x [.tup [],.box 0 [.int .i64 x.1.ind,AV.sl false 0 2 Ru ruA x.1.rules,AV.sl false 0 5 Ch chA x.1.chunks,AV.sl false 0 3 Sn snA x.1.spans,AV.sl false 0 2 Ti tiA x.1.ties,.int .i64 x.2.1,Ad x.2.2.1.best,.int .i64 x.2.2.1.cost.over,.int .i64 x.2.2.1.cost.sum,AV.sl true 0 2 StW stA i.1,.int .i64 x.2.2.1.pops],.top])) (fun x=>by kernel_rfl) fun(x:Pc×Int×Hu×List Int×Int) (hx:opP x.1 x.2.2.1 ⟨x.2.2.2.1,x.2.2.2.2⟩)=>(by
 dsimp only[WO,WN,cA,Bl,eA,eN,huA,RC,Ad,AW,CA,pcA,rA,Bj,Jz,RB,HO,KV,KW,Bm,sns,HI,Bn,tis,Aq,Aw,mvL,lnL,mvE,lnE,mvG,mvH,lnG,lnH,AZ]
 obtain⟨p,w,h,v,n⟩:=x;dsimp only at hx ⊢
 have h1:=hx.vl;have h2:=hx.ok.rl;have h3:=a3K hx;have h4:=hx.ok.til;dsimp only at h1
 (repeat' first|refine Ds p ?_|(with_reducible first|rfl|exact True.intro|apply AG|apply And.intro|((first|apply Au|apply AE|apply Av|apply AF)<;>intro _))|(apply As<;>intro _)|apply AD|refine Af () ?_ ?_|((first|apply AK|apply AJ|apply AI|apply AH|apply AC|apply AB|apply AA|apply Az|apply Ax)<;>try dsimp only)|apply Af|(refine Prod.forall.2 ?_;intro _;try dsimp only)|(intro _;try dsimp only))
 all_goals try(have hb:=a3L hx (show opI _ _ _ _ _ _ by assumption))
 all_goals first
  |with_reducible rfl
  |rfl
  |exact()
  |omega
  |exact WL ‹_›
  |exact a3I hx
  |(simp only[Bb,Ai,List.length_append,List.length_cons,List.length_nil];omega)
  |exact a3M hx ‹_› ‹_›
  |exact WM hx.ok hb.2.2 _ ‹_›
  |exact(OE hx ‹_› ‹_›).1 (Rz (.inl ‹_›))
  |exact(OE hx ‹_› ‹_›).1 (Rz (.inr ⟨by assumption,by assumption⟩))
  |exact(OE hx ‹_› ‹_›).2 (RA ‹_› (.inl ‹_›))
  |exact(OE hx ‹_› ‹_›).2 (RA ‹_› (.inr ‹_›))
  |exact a3J ‹_› ‹_›
  |skip)
end Go.My
end
