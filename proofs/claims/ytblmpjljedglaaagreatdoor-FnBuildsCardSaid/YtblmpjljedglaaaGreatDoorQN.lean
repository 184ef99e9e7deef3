/- joined -/
import Derived.Test.YtblmpjljedglaaaGreatDoorQM
set_option linter.unusedSimpArgs false
set_option linter.unusedVariables false
section
namespace Go.My
open Go.Eng Go.Proofs
variable {G:GInv}
variable {i:Int}{p:Pc}
def Ko:Sig:= {X:=List UInt8×Unit,args:=fun x=>[.str x.1],pre:=fun x=>x.1.length≤2^62,Y:=Unit,post:=fun x y=>True,res:=fun x y=> .bool (BD x.1),outs:=fun x y=>[.top],keep:=false}
def Vv(x:List UInt8×Unit):LS:= {ι:=Int,inv:=fun i=>Cc BJ x.1 i,regs:=fun i=>[(0,.str x.1),(3,.q i)],als:=[],meas:=fun i=>x.1.length-i.toNat}
theorem a9K:Ai G Tryz.prog 46 Ko:=
 vcFun_okP [(85,0,GX)] [] false (fun x=>[(2,Vv x)]) Tryz.func46 rfl (by decide) ⟨XN,trivial⟩ (fun(x:List UInt8×Unit)=>(∀(y:Unit),True→True∧True∧True)∧eA (Vv x) [.str x.1,.q 0]∧∀(i:Int),Cc BJ x.1 i→Aa (decide (i<(x.1.length:Int))) ((0≤i∧i<(x.1.length:Int))∧∀(c:UInt8),x.1[Int.toNat i]? =some c→cA GX [AV.int IntKind.u8 (↑(UInt8.toNat c):Int)] fun x_1 y=>Aa (!BJ x_1) (rA Ko x [.bool false,.top]) (inR .i64 (i+1)∧eN (Vv x) i [.str x.1,.q (i+1)])) (rA Ko x [.bool true,.top])) (fun x=>by kernel_rfl) fun(x:List UInt8×Unit) (hx:x.1.length≤2^62)=>(by
 dsimp only[cA,eA,eN,Vv,rA,GX,Ko,As,Az,mvL,lnL,mvE,lnE,Bl,AV.q]
 obtain⟨x,_⟩:=x;dsimp only at hx ⊢
 have hx:x.length≤2^62:=hx
 (repeat' first|(with_reducible first|rfl|exact True.intro|apply AK|apply And.intro|((first|apply AA|apply AI|apply AB|apply AJ)<;>intro _))|(apply Av<;>intro _)|apply AH|refine Ae () ?_ ?_|((first|apply AO|apply AN|apply AM|apply AL|apply AG|apply AF|apply AE|apply AD|apply AC)<;>try dsimp only)|apply Ae|(refine Prod.forall.2 ?_;intro _;try dsimp only)|(intro _;try dsimp only))
 all_goals first
  |with_reducible rfl
  |exact Uz
  |exact MR ‹_› ‹_› ‹_› ‹_›
  |exact(Ie ‹_› ‹_›).symm
  |exact(Kg ‹_› ‹_›).symm
  |(have hq:= ‹Cc _ _ _›.1;(try simp only[An]);omega)
  |skip)
def Pj:Sig:= {X:=Pc×Int×Int×Bool×Int,args:=fun x=>[.agg (pcA false x.1),.agg [.q x.2.1,.q x.2.2.1,.bool x.2.2.2.1,.q x.2.2.2.2]],pre:=fun x=>pcS x.1,Y:=Unit,post:=fun x y=>True,res:=fun x y=> .bool (Fb x.1 ⟨[],x.2.1,x.2.2.1,x.2.2.2.1,x.2.2.2.2⟩),outs:=fun x y=>[.top,.top],keep:=false}
theorem c3t:Ai G Tryz.prog 51 Pj:=
 vcFun_okP [(45,0,BU)] [] false (fun x=>[]) Tryz.func51 rfl (by decide) ⟨Ir,trivial⟩ (fun(x:Pc×Int×Int×Bool×Int)=>(∀(y:Unit),True→True∧True∧True∧True)∧true=true∧true=true∧inR .i64 ((x.1.rules.length:Int)-(1:Int))∧∃(x_1:Int×Int×Int),True∧x.2.1=x_1.1∧0=x_1.2.1∧(x.1.rules.length:Int)-1=x_1.2.2∧∃(y0:Unit),(∀(y:Unit),True→AV.bool (inn x_1.1 x_1.2.1 x_1.2.2)=AV.bool (inn x_1.1 x_1.2.1 x_1.2.2))∧true=true∧Aa (inn x_1.1 x_1.2.1 x_1.2.2) ((0≤x.2.1∧x.2.1<(x.1.rules.length:Int))∧∀(e:Ru),x.1.rules[Int.toNat x.2.1]? =some e→inR .i64 (e.vals-1)∧∃(x_2:Int×Int×Int),True∧x.2.2.1=x_2.1∧1=x_2.2.1∧e.vals-1=x_2.2.2∧∃(y0:Unit),(∀(y:Unit),True→AV.bool (inn x_2.1 x_2.2.1 x_2.2.2)=AV.bool (inn x_2.1 x_2.2.1 x_2.2.2))∧true=true∧Aa (inn x_2.1 x_2.2.1 x_2.2.2) (∃(x_3:Int×Int×Int),True∧x.2.2.2.2=x_3.1∧0=x_3.2.1∧40=x_3.2.2∧∃(y0:Unit),(∀(y:Unit),True→AV.bool (inn x_3.1 x_3.2.1 x_3.2.2)=AV.bool (inn x_3.1 x_3.2.1 x_3.2.2))∧true=true∧rA Pj x [.bool (inn x_3.1 x_3.2.1 x_3.2.2),.top,.top]) (rA Pj x [.bool false,.top,.top])) (rA Pj x [.bool false,.top,.top])) (fun x=>by kernel_rfl) fun(x:Pc×Int×Int×Bool×Int) (hx:pcS x.1)=>(by
 dsimp only[CC,pcA,rA,CB,Pj,CD,CE,As,Az,AV.q]
 obtain⟨p,r,f,s,n⟩:=x;dsimp only at hx ⊢
 have hx:pcS p:=hx
 have hz:=hx.1;have hv:=hx.2.2
 (repeat' first|(with_reducible first|rfl|exact True.intro|apply AK|apply And.intro|((first|apply AA|apply AI|apply AB|apply AJ)<;>intro _))|(apply Av<;>intro _)|apply AH|refine Ae () ?_ ?_|((first|apply AO|apply AN|apply AM|apply AL|apply AG|apply AF|apply AE|apply AD|apply AC)<;>try dsimp only)|apply Ae|(refine Prod.forall.2 ?_;intro _;try dsimp only)|(intro _;try dsimp only))
 all_goals first
  |with_reducible rfl
  |((try simp only[BW] at*);omega)
  |(simp [Fb, *];done)
  |(have hm:=hv _ (Bm ‹_›);omega)
  |(rename p.rules[_]? =some _=>hq;have hr:=a7g hq;simp [Fb,hr, *];done)
  |skip)
def qoA(p:Pc):Prop:=(inn p.ind 0 60=true∧p.rules.length≤8)∧inn p.chunks.length 1 80=true∧p.spans.length≤40∧p.ties.length≤20
theorem Rt(h:(((inn p.ind 0 60=false∨(p.rules.length:Int)>8)∨inn p.chunks.length 1 80=false)∨(p.spans.length:Int)>40)∨(p.ties.length:Int)>20):false=Dc p:=by
 symm
 rw[Bool.eq_false_iff]
 simp only[Dc,GQ,Ga,ne_eq,Bool.and_eq_true,decide_eq_true_eq,not_and]
 intro h1 h2 h3 h4
 rw[h1,h3.1] at h
 simp at h;omega
theorem c3u(h:qoA p)(hr:p.rules.all Fs=true):GQ p=true:=by simp [GQ,hr,h.1.2]
theorem c3v(h:p.rules.all Fs=false):false=Dc p:=by
 have:GQ p=false:=by simp [GQ,h]
 exact MT (.inl (.inl (.inr this)))
theorem a1t(h:Ga p=false):false=Dc p:=MT (.inl (.inr h))
theorem c3w(h:qoA p)(hr:p.rules.all Fs=true)(hc:Ga p=true):poA p:=⟨⟨⟨h.1.1,c3u h hr⟩,hc⟩,h.2.2⟩
theorem c3x{s:Sn}(h1:inn s.tuu 0 ((p.chunks.length:Int)-2)=true)(h2:inn s.fr 0 s.tuu=true)(h3:inn s.cost 0 9=true):EJ p s=true:=by
 have a:=BW.1 h1;have b:=BW.1 h2
 exact a7k (by omega) (by omega) (by omega) h3
theorem a1u{s:Sn}(h:(inn s.tuu 0 ((p.chunks.length:Int)-2)=false∨inn s.fr 0 s.tuu=false)∨inn s.cost 0 9=false):EJ p s=false:=by
 rw[Bool.eq_false_iff]
 intro hs
 simp only[EJ,Bool.and_eq_true,decide_eq_true_eq] at hs
 rcases h with(h|h)|h
 ·exact a7h h (by omega)
 ·exact a7h h (by omega)
 ·rw[h] at hs;cases hs.2.2
def Dm:Sig:= {X:=Pc,args:=fun x=>[.agg (pcA false x)],pre:=fun x=>pcS x,Y:=Unit,post:=fun x y=>True,res:=fun x y=> .bool (Dc x),outs:=fun x y=>[.top],keep:=false}
def Vw(x:Pc):LS:= {ι:=Int,inv:=fun i=>qoA x∧Cc Fs x.rules i,regs:=fun i=>[(1,.box 0 (pcA false x)),(3,.q x.chunks.length),(4,.q i)],als:=[],meas:=fun i=>x.rules.length-i.toNat}
def Rv(x:Pc):LS:= {ι:=Int,inv:=fun i=>(qoA x∧x.rules.all Fs=true)∧chI x i,regs:=fun i=>[(1,.box 0 (pcA false x)),(3,.q x.chunks.length),(5,.q i)],als:=[],meas:=fun i=>x.chunks.length-i.toNat}
def Vx(x:Pc):LS:= {ι:=Int,inv:=fun i=>poA x∧Cc (EJ x) x.spans i,regs:=fun i=>[(1,.box 0 (pcA false x)),(3,.q x.chunks.length),(6,.q i)],als:=[],meas:=fun i=>x.spans.length-i.toNat}
def Vy(x:Pc):LS:= {ι:=Int,inv:=fun i=>(poA x∧x.spans.all (EJ x)=true)∧Cc (Hn x) x.ties i,regs:=fun i=>[(1,.box 0 (pcA false x)),(8,.q i)],als:=[],meas:=fun i=>x.ties.length-i.toNat}
theorem a1v:Ai G Tryz.prog 13 Dm:=
 vcFun_okP [(45,0,BU),(46,0,Ko),(51,0,Pj)] [] false (fun x=>[(5,Vw x),(10,Rv x),(17,Vx x),(23,Vy x)]) Tryz.func13 rfl (by decide) ⟨Ir,a9K,c3t,trivial⟩ (fun(x:Pc)=>(∀(y:Unit),True→True∧True∧True)∧cA BU [.q x.ind,.q 0,.q 60] fun x_1 y=>Aa (!inn x_1.1 x_1.2.1 x_1.2.2) (rA Dm x [.bool false,.top]) (Aa (decide ((x.rules.length:Int)>(8:Int))) (rA Dm x [.bool false,.top]) (cA BU [.q (x.chunks.length:Int),.q 1,.q 80] fun x_2 y=>Aa (!inn x_2.1 x_2.2.1 x_2.2.2) (rA Dm x [.bool false,.top]) (Aa (decide ((x.spans.length:Int)>(40:Int))) (rA Dm x [.bool false,.top]) (Aa (decide ((x.ties.length:Int)>(20:Int))) (rA Dm x [.bool false,.top]) (eA (Vw x) [.box 0 (pcA false x),.q (x.chunks.length:Int),.q 0]∧∀(i:Int),qoA x∧Cc Fs x.rules i→Aa (decide (i<(x.rules.length:Int))) ((0≤i∧i<(x.rules.length:Int))∧∀(e:Ru),x.rules[Int.toNat i]? =some e→cA BU [.q e.vals,.q 2,.q 3] fun x_3 y=>Aa (!inn x_3.1 x_3.2.1 x_3.2.2) (rA Dm x [.bool false,.top]) ((0≤i∧i<(x.rules.length:Int))∧∀(e:Ru),x.rules[Int.toNat i]? =some e→cA BU [.q e.cost,.q 0,.q 9] fun x_4 y=>Aa (!inn x_4.1 x_4.2.1 x_4.2.2) (rA Dm x [.bool false,.top]) (inR .i64 (i+1)∧eN (Vw x) i [.box 0 (pcA false x),.q (x.chunks.length:Int),.q (i+1)]))) (eA (Rv x) [.box 0 (pcA false x),.q (x.chunks.length:Int),.q 0]∧∀(i:Int),(qoA x∧List.all x.rules Fs=true)∧chI x i→Aa (decide (i<(x.chunks.length:Int))) (true=true∧true=true∧(0≤i∧i<(x.chunks.length:Int))∧∀(e:Ch),x.chunks[Int.toNat i]? =some e→∃(x_3:List UInt8×Unit),x_3.1.length≤(4611686018427387904:Nat)∧e.text=x_3.1∧∃(y0:Unit),(∀(y:Unit),True→AV.bool (BD x_3.1)=AV.bool (BD x_3.1))∧true=true∧Aa (!BD x_3.1) (rA Dm x [.bool false,.top]) (inR .i64 (i+1)∧Aa (decide (i+1<(x.chunks.length:Int))) ((0≤i∧i<(x.chunks.length:Int))∧∀(e:Ch),x.chunks[Int.toNat i]? =some e→∃(x_4:Pc×Int×Int×Bool×Int),pcS x_4.1∧x.ind=x_4.1.ind∧bRu x.rules=bRu x_4.1.rules∧bCh x.chunks=bCh x_4.1.chunks∧bSn x.spans=bSn x_4.1.spans∧bTi x.ties=bTi x_4.1.ties∧e.rule=x_4.2.1∧e.fr=x_4.2.2.1∧e.space=x_4.2.2.2.1∧e.nest=x_4.2.2.2.2∧∃(y0:Unit),(∀(y:Unit),True→AV.bool (Fb x_4.1 {text:=[],rule:=x_4.2.1,fr:=x_4.2.2.1,space:=x_4.2.2.2.1,nest:=x_4.2.2.2.2})=AV.bool (Fb x_4.1 {text:=[],rule:=x_4.2.1,fr:=x_4.2.2.1,space:=x_4.2.2.2.1,nest:=x_4.2.2.2.2}))∧true=true∧Aa (!Fb x_4.1 {text:=[],rule:=x_4.2.1,fr:=x_4.2.2.1,space:=x_4.2.2.2.1,nest:=x_4.2.2.2.2}) (rA Dm x [.bool false,.top]) (inR .i64 (i+1)∧(eN (Rv x) i [.box 0 (pcA false x),.q (x.chunks.length:Int),.q (i+1)]))) (inR .i64 (i+1)∧(eN (Rv x) i [.box 0 (pcA false x),.q (x.chunks.length:Int),.q (i+1)])))) (inR .i64 ((x.chunks.length:Int)-(1:Int))∧(0≤(x.chunks.length:Int)-(1:Int)∧(x.chunks.length:Int)-1<(x.chunks.length:Int))∧∀(e:Ch),x.chunks[Int.toNat ((x.chunks.length:Int)-(1:Int))]? =some e→Aa (!(true&&e.rule==0&&e.fr==0&&e.space==false&&e.nest==0)) (rA Dm x [.bool false,.top]) (eA (Vx x) [.box 0 (pcA false x),.q (x.chunks.length:Int),.q 0]∧∀(i:Int),poA x∧Cc (EJ x) x.spans i→Aa (decide (i<(x.spans.length:Int))) ((0≤i∧i<(x.spans.length:Int))∧∀(e:Sn),x.spans[Int.toNat i]? =some e→inR .i64 ((x.chunks.length:Int)-(2:Int))∧cA BU [.q e.tuu,.q 0,.q ((x.chunks.length:Int)-(2:Int))] fun x_3 y=>Aa (!inn x_3.1 x_3.2.1 x_3.2.2) (rA Dm x [.bool false,.top]) (cA BU [.q e.fr,.q 0,.q e.tuu] fun x_4 y=>Aa (!inn x_4.1 x_4.2.1 x_4.2.2) (rA Dm x [.bool false,.top]) (cA BU [.q e.cost,.q 0,.q 9] fun x_5 y=>Aa (!inn x_5.1 x_5.2.1 x_5.2.2) (rA Dm x [.bool false,.top]) (inR .i64 (i+1)∧eN (Vx x) i [.box 0 (pcA false x),.q (x.chunks.length:Int),.q (i+1)])))) (eA (Vy x) [.box 0 (pcA false x),.q 0]∧∀(i:Int),(poA x∧List.all x.spans (EJ x)=true)∧Cc (Hn x) x.ties i→Aa (decide (i<(x.ties.length:Int))) ((0≤i∧i<(x.ties.length:Int))∧∀(e:Ti),x.ties[Int.toNat i]? =some e→inR .i64 ((x.rules.length:Int)-(1:Int))∧cA BU [.q e.kid,.q 0,.q ((x.rules.length:Int)-(1:Int))] fun x_3 y=>Aa (!inn x_3.1 x_3.2.1 x_3.2.2) (rA Dm x [.bool false,.top]) (inR .i64 ((x.rules.length:Int)-(1:Int))∧cA BU [.q e.up,.q 0,.q ((x.rules.length:Int)-(1:Int))] fun x_4 y=>Aa (!inn x_4.1 x_4.2.1 x_4.2.2) (rA Dm x [.bool false,.top]) (Aa (e.kid==e.up) (rA Dm x [.bool false,.top]) (inR .i64 (i+1)∧eN (Vy x) i [.box 0 (pcA false x),.q (i+1)])))) (rA Dm x [.bool true,.top]))))))))))) (fun x=>by kernel_rfl) fun(x:Pc) (hx:pcS x)=>(by
 dsimp only[bCh,bRu,bSn,bTi,cA,CC,eA,eN,Rv,Vx,Vy,Vw,pcA,rA,CB,BU,Dm,CD,CE,As,Az,mvL,lnL,mvE,lnE,mvG,mvH,lnG,lnH,Bl,AV.q]
 have hz:=hx.1;have hz2:=hx.2.1.1;have ht:=hx.2.1.2
 (repeat' first|refine Re x ?_|refine Rf x ?_|(with_reducible first|rfl|exact True.intro|apply AK|apply And.intro|((first|apply AA|apply AI|apply AB|apply AJ)<;>intro _))|(apply Av<;>intro _)|apply AH|refine Ae () ?_ ?_|((first|apply AO|apply AN|apply AM|apply AL|apply AG|apply AF|apply AE|apply AD|apply AC)<;>try dsimp only)|apply Ae|(refine Prod.forall.2 ?_;intro _;try dsimp only)|(intro _;try dsimp only))
 all_goals(try(repeat(rename x.rules[_]? =some _=>hq;revert hq;rename x.rules[_]? =some _=>hr;intro hq;rw[hr] at hq;cases hq)))
 all_goals(try(repeat(rename x.chunks[_]? =some _=>hq;revert hq;rename x.chunks[_]? =some _=>hr;intro hq;rw[hr] at hq;cases hq)))
 all_goals first
  |with_reducible rfl
  |with_reducible assumption
  |exact hx
  |exact Uz
  |exact a7i
  |exact Rt (.inl (.inl (.inl (.inl ‹_›))))
  |exact Rt (.inl (.inl (.inl (.inr ‹_›))))
  |exact Rt (.inl (.inl (.inr ‹_›)))
  |exact Rt (.inl (.inr ‹_›))
  |exact Rt (.inr ‹_›)
  |exact⟨⟨by assumption,by omega⟩,by assumption,by omega,by omega⟩
  |exact ‹qoA _∧_›.1
  |exact ‹(qoA _∧_)∧_›.1.1
  |exact ‹(qoA _∧_)∧_›.1.2
  |exact Kg ‹qoA _∧Cc _ _ _›.2 ‹_›
  |exact c3v (Ie ‹_› (by simp [Fs, *]))
  |exact MR ‹qoA _∧Cc _ _ _›.2 ‹_› ‹_› (by simp [Fs, *])
  |(have hq:= ‹qoA _∧Cc _ _ _›.2.1;(try simp only[An]);omega)
  |(have hq:= ‹(qoA _∧_)∧chI _ _›.2.1;(try simp only[An]);omega)
  |(have hq:= ‹(qoA _∧_)∧chI _ _›.2.1;have hq2:=BW.1 ‹(qoA _∧_)∧chI _ _›.1.1.2.1;(try simp only[An]);omega)
  |(have hq:=UA (Bm ‹x.chunks[_]? =some _›);omega)
  |exact a1t (UD ‹(qoA _∧_)∧chI _ _›.2 ‹_› (.inl ‹_›))
  |exact a1t (UD ‹(qoA _∧_)∧chI _ _›.2 ‹_› (.inr ⟨by omega,by assumption⟩))
  |exact UC ‹(qoA _∧_)∧chI _ _›.2 ‹_› ‹_› ‹_› (fun _=>by assumption)
  |exact UC ‹(qoA _∧_)∧chI _ _›.2 ‹_› ‹_› ‹_› (fun _=>by omega)
  |exact a1t (by rw[a0x ‹(qoA _∧_)∧chI _ _›.2 ‹_› ‹_› ‹(qoA _∧_)∧chI _ _›.1.1.2.1];first|assumption|(rw[←a0y];assumption))
  |exact c3w ‹(qoA _∧_)∧chI _ _›.1.1 ‹(qoA _∧_)∧chI _ _›.1.2 (by rw[a0x ‹(qoA _∧_)∧chI _ _›.2 ‹_› ‹_› ‹(qoA _∧_)∧chI _ _›.1.1.2.1];first|assumption|(rw[←a0y];assumption))
  |exact ‹poA _∧_›.1
  |(have hq:= ‹poA _∧Cc _ _ _›.2.1;(try simp only[An]);omega)
  |(have hq:= ‹(poA _∧_)∧Cc _ _ _›.2.1;(try simp only[An]);omega)
  |exact Ki (.inl (Ie ‹_› (a1u (.inl (.inl ‹_›)))))
  |exact Ki (.inl (Ie ‹_› (a1u (.inl (.inr ‹_›)))))
  |exact Ki (.inl (Ie ‹_› (a1u (.inr ‹_›))))
  |exact MR ‹poA _∧Cc _ _ _›.2 ‹_› ‹_› (c3x ‹_› ‹_› ‹_›)
  |exact Kg ‹poA _∧Cc _ _ _›.2 ‹_›
  |exact⟨‹poA _∧Cc _ _ _›.1,Kg ‹poA _∧Cc _ _ _›.2 ‹_›⟩
  |exact Ki (.inr (Ie ‹_› (by simp [Hn, *])))
  |exact MR ‹(poA _∧_)∧Cc _ _ _›.2 ‹_› ‹_› (by simp [Hn, *])
  |exact a7l ‹(poA _∧_)∧Cc _ _ _›.1.1 ‹(poA _∧_)∧Cc _ _ _›.1.2 (Kg ‹(poA _∧_)∧Cc _ _ _›.2 ‹_›)
  |((try simp only[An]);omega)
  |skip)
def Pk:Sig:= {X:=Pc,args:=fun x=>[.agg (pcA false x)],pre:=fun x=>pcS x∧x.rules.length≤100,Y:=Unit,post:=fun x y=>True,res:=fun x y=>Al (Ic x),outs:=fun x y=>[.top],keep:=false}
def Vz(x:Pc):LS:= {ι:=Int,inv:=fun i=>0≤i∧i≤x.rules.length,regs:=fun i=>[(1,.box 0 (pcA false x)),(3,Al ((x.rules.take i.toNat).map fun r=>r.vals-1)),(4,.q i)],als:=[],meas:=fun i=>x.rules.length-i.toNat}
theorem c3y:Ai G Tryz.prog 18 Pk:=
 vcFun_okP [] [(38,⟨Int,Bx⟩)] false (fun x=>[(3,Vz x)]) Tryz.func18 rfl (by decide) trivial (fun(x:Pc)=>(∀(y:Unit),True→(∀(x:Int),True∧True)∧True∧True)∧eA (Vz x) [.box 0 (pcA false x),Al [],.q 0]∧∀(i:Int),0≤i∧i≤(x.rules.length:Int)→Aa (decide (i<(x.rules.length:Int))) ((0≤i∧i<(x.rules.length:Int))∧∀(e:Ru),x.rules[Int.toNat i]? =some e→inR .i64 (e.vals-1)∧∃(x_1:Int),e.vals-1=x_1∧∃(zs:List Int),Al [x_1]=Al zs∧BI Bx∧Bb ((List.map (fun(r:Ru)=>r.vals-1) (List.take (Int.toNat i) x.rules)).length+zs.length) (8:Nat)∧inR .i64 (i+1)∧eN (Vz x) i [.box 0 (pcA false x),Al (List.map (fun(r:Ru)=>r.vals-1) (List.take (Int.toNat i) x.rules)++zs),.q (i+1)]) (rA Pk x [Al (List.map (fun(r:Ru)=>r.vals-1) (List.take (Int.toNat i) x.rules)),.top])) (fun x=>by kernel_rfl) fun(x:Pc) (hx:pcS x∧x.rules.length≤100)=>(by
 dsimp only[CC,eA,eN,Vz,Al,pcA,rA,CB,Pk,CD,CE,As,Az,Bl,AV.q]
 obtain⟨h1,h2⟩:=hx
 have hv:=h1.2.2
 (repeat' first|(with_reducible first|rfl|exact True.intro|apply AK|apply And.intro|((first|apply AA|apply AI|apply AB|apply AJ)<;>intro _))|(apply Av<;>intro _)|apply AH|refine Ae () ?_ ?_|((first|apply AO|apply AN|apply AM|apply AL|apply AG|apply AF|apply AE|apply AD|apply AC)<;>try dsimp only)|apply Ae|(refine Prod.forall.2 ?_;intro _;try dsimp only)|(intro _;try dsimp only))
 all_goals first
  |rfl
  |omega
  |exact()
  |(have hm:=hv _ (Bm ‹_›);omega)
  |(rw[Dd (by omega),ED ‹_›,List.map_append];rfl)
  |(rw[Ic,List.take_of_length_le (by omega)];done)
  |(simp [Bb];omega)
  |((try simp only[Bb,An,List.length_append,List.length_map,List.length_take,List.length_cons,List.length_nil]);omega)
  |skip)
def Pl:Sig:= {X:=Pc×List Int×Int,args:=fun x=>[.agg (pcA false x.1),AQ x.2.1,.q x.2.2],pre:=fun x=>(0≤x.2.2∧x.2.2<x.1.chunks.length)∧(0≤(Kj x.1 x.2.2).rule∧(Kj x.1 x.2.2).rule<x.2.1.length),Y:=Unit,post:=fun x y=>True,res:=fun x y=> .bool (DP x.2.1 (Kj x.1 x.2.2)),outs:=fun x y=>[.top,.top,.top],keep:=false}
theorem c3z:Ai G Tryz.prog 90 Pl:=
 vcFun_okP [] [] false (fun x=>[]) Tryz.func90 rfl (by decide) trivial (fun(x:Pc×List Int×Int)=>(∀(y:Unit),True→True∧True∧True∧True∧True)∧(0≤x.2.2∧x.2.2<(x.1.chunks.length:Int))∧∀(e:Ch),x.1.chunks[Int.toNat x.2.2]? =some e→true=true∧true=true∧(0≤e.rule∧e.rule<(x.2.1.length:Int))∧∀(e_1:Int),x.2.1[Int.toNat e.rule]? =some e_1→rA Pl x [.bool (decide (e_1≥e.fr)),.top,.top,.top]) (fun x=>by kernel_rfl) fun(x:Pc×List Int×Int) (hx:(0≤x.2.2∧x.2.2<x.1.chunks.length)∧(0≤(Kj x.1 x.2.2).rule∧(Kj x.1 x.2.2).rule<x.2.1.length))=>(by
 dsimp only[CC,AQ,pcA,rA,CB,Pl,CD,CE,As,Az,AV.q]
 obtain⟨p,v,i⟩:=x;dsimp only at hx ⊢
 obtain⟨⟨h1,h2⟩,h3,h4⟩:=hx
 (repeat' first|(with_reducible first|rfl|exact True.intro|apply AK|apply And.intro|((first|apply AA|apply AI|apply AB|apply AJ)<;>intro _))|(apply Av<;>intro _)|apply AH|refine Ae () ?_ ?_|((first|apply AO|apply AN|apply AM|apply AL|apply AG|apply AF|apply AE|apply AD|apply AC)<;>try dsimp only)|apply Ae|(refine Prod.forall.2 ?_;intro _;try dsimp only)|(intro _;try dsimp only))
 all_goals first
  |rfl
  |omega
  |(rename p.chunks[_]? =some _=>hq;have e:=a0z hq;rw[e] at h3 h4;first|omega|(rename v[_]? =some _=>hr;have e2:=a7m hr;rw[e,DP,e2];done)|(rename v[_]? =some _=>hr;have e2:=a7m hr;rw[e,DP,e2];exact decide_eq_decide.2 (by omega)))
  |skip)
theorem a9L(h:0≤i):blk i++[32]=blk (i+1):=by
 rw[blk,blk,Dd h,List.replicate_succ']
theorem a9M(h:0≤i):((blk i).length:Int)=i:=by simp [blk];omega
def Pm:Sig:= {X:=Int×Unit,args:=fun x=>[.q x.1],pre:=fun x=>0≤x.1∧x.1≤100000,Y:=Unit,post:=fun x y=>True,res:=fun x y=> .str (blk x.1),outs:=fun x y=>[.top],keep:=false}
def VA(x:Int×Unit):LS:= {ι:=Int,inv:=fun i=>0≤i∧i≤x.1,regs:=fun i=>[(0,.q x.1),(3,.str (blk i)),(4,.q i)],als:=[],meas:=fun i=>(x.1-i).toNat}
theorem c3A:Ai G Tryz.prog 89 Pm:=
 vcFun_okP [] [] false (fun x=>[(3,VA x)]) Tryz.func89 rfl (by decide) trivial (fun(x:Int×Unit)=>(∀(y:Unit),True→True∧True∧True)∧eA (VA x) [.q x.1,.str #[].toList,.q 0]∧∀(i:Int),0≤i∧i≤x.1→Aa (decide (i<x.1)) ((↑((blk i).length+(1:Nat)):Int)≤Ag∧inR .i64 (i+1)∧eN (VA x) i [.q x.1,.str (blk i++ #[(32:UInt8)].toList),.q (i+1)]) (rA Pm x [.str (blk i),.top])) (fun x=>by kernel_rfl) fun(x:Int×Unit) (hx:0≤x.1∧x.1≤100000)=>(by
 dsimp only[eA,eN,VA,rA,Pm,As,Az,Bl,Ag,AV.q]
 obtain⟨x,_⟩:=x;dsimp only at hx ⊢
 obtain⟨h1,h2⟩:=hx
 (repeat' first|(with_reducible first|rfl|exact True.intro|apply AK|apply And.intro|((first|apply AA|apply AI|apply AB|apply AJ)<;>intro _))|(apply Av<;>intro _)|apply AH|refine Ae () ?_ ?_|((first|apply AO|apply AN|apply AM|apply AL|apply AG|apply AF|apply AE|apply AD|apply AC)<;>try dsimp only)|apply Ae|(refine Prod.forall.2 ?_;intro _;try dsimp only)|(intro _;try dsimp only))
 all_goals first
  |with_reducible rfl
  |omega
  |exact a9L (by omega)
  |exact(a9L (by omega))
  |(rename¬_<x=>hq;congr 1;omega)
  |((try simp only[An]);omega)
  |(have hb:=a9M (show(0:Int)≤_ by omega);(try simp only[An]);omega)
  |(rename 0≤_∧_≤x=>hq;have hb:=a9M hq.1;(try simp only[An]);omega)
  |rfl
  |skip)
theorem a1w{v:List Int}{ls:List (List UInt8)}{s:List UInt8}(h:rnI p v i ls s):0≤i∧i<p.chunks.length:=h.1
attribute [local irreducible] rnI CG rnL DP blk
def Nc:Sig:= {X:=Pc×List Int,args:=fun x=>[.agg (pcA false x.1),AQ x.2],pre:=fun x=>renP x.1 x.2,Y:=Unit,post:=fun x y=>True,res:=fun x y=>Ds (CG x.1 x.2),outs:=fun x y=>[.top,.top],keep:=false}
def Pn(x:Pc×List Int):LS:= {ι:=Int×List (List UInt8)×List UInt8,inv:=fun i=>rnI x.1 x.2 i.1 i.2.1 i.2.2,regs:=fun i=>[(1,AQ x.2),(2,.box 0 (pcA false x.1)),(5,Ds i.2.1),(6,.str i.2.2),(7,.q i.1)],als:=[],meas:=fun i=>x.1.chunks.length-i.1.toNat}
theorem c3B:Ai G Tryz.prog 53 Nc:=
 vcFun_okP [(89,0,Pm),(90,0,Pl)] [(42,⟨List UInt8,Be⟩)] false (fun x=>[(4,Pn x)]) Tryz.func53 rfl (by decide) ⟨c3A,c3z,trivial⟩ (fun(x:Pc×List Int)=>(∀(y:Unit),True→(∀(x:List UInt8),True∧True)∧True∧True∧True)∧cA Pm [.q x.1.ind] fun x_1 y=>eA (Pn x) [AQ x.2,.box 0 (pcA false x.1),Ds [],.str (blk x_1.1),.q 0]∧∀(i:Int×List (List UInt8)×List UInt8),rnI x.1 x.2 i.1 i.2.1 i.2.2→Aa (decide (i.1<(x.1.chunks.length:Int))) ((0≤i.1∧i.1<(x.1.chunks.length:Int))∧∀(e:Ch),x.1.chunks[Int.toNat i.1]? =some e→(i.2.2.length+e.text.length:Int)≤Ag∧inR .i64 (i.1+(1:Int))∧Aa (i.1+1==(x.1.chunks.length:Int)) (∃(x_2:List UInt8),i.2.2++e.text=x_2∧(∃(zs:List (List UInt8)),Ds [x_2]=Ds zs∧(BI Be∧(Bb (i.2.1.length+zs.length) (16:Nat)∧rA Nc x [Ds (i.2.1++zs),.top,.top])))) (cA Pl [.agg (pcA false x.1),AQ x.2,.q i.1] fun x_2 y=>Aa (DP x_2.2.1 (Kj x_2.1 x_2.2.2)) (∃(x_3:List UInt8),i.2.2++e.text=x_3∧∃(zs:List (List UInt8)),Ds [x_3]=Ds zs∧BI Be∧Bb (i.2.1.length+zs.length) (16:Nat)∧true=true∧true=true∧(0≤i.1∧i.1<(x.1.chunks.length:Int))∧∀(e:Ch),x.1.chunks[Int.toNat i.1]? =some e→inR .i64 (x.1.ind+e.nest)∧∃(x_4:Int×Unit),(0≤x_4.1∧x_4.1≤(100000:Int))∧x.1.ind+e.nest=x_4.1∧∃(y0:Unit),(∀(y:Unit),True→AV.str (blk x_4.1)=AV.str (blk x_4.1))∧true=true∧inR .i64 (i.1+(1:Int))∧eN (Pn x) i [AQ x.2,.box 0 (pcA false x.1),Ds (i.2.1++zs),.str (blk x_4.1),.q (i.1+(1:Int))]) ((0≤i.1∧i.1<(x.1.chunks.length:Int))∧∀(e_1:Ch),x.1.chunks[Int.toNat i.1]? =some e_1→Aa e_1.space ((↑((i.2.2++e.text).length+(1:Nat)):Int)≤Ag∧inR .i64 (i.1+(1:Int))∧eN (Pn x) i [AQ x.2,.box 0 (pcA false x.1),Ds i.2.1,.str (i.2.2++e.text++ #[(32:UInt8)].toList),.q (i.1+(1:Int))]) (inR .i64 (i.1+(1:Int))∧eN (Pn x) i [AQ x.2,.box 0 (pcA false x.1),Ds i.2.1,.str (i.2.2++e.text),.q (i.1+(1:Int))])))) (∃(x_2:List UInt8),i.2.2=x_2∧(∃(zs:List (List UInt8)),Ds [x_2]=Ds zs∧(BI Be∧(Bb (i.2.1.length+zs.length) (16:Nat)∧rA Nc x [Ds (i.2.1++zs),.top,.top]))))) (fun x=>by kernel_rfl) fun(x:Pc×List Int) (hx:renP x.1 x.2)=>(by
 dsimp only[cA,CC,eA,eN,Pn,AQ,Ds,pcA,rA,CB,Pl,Pm,Nc,CD,CE,As,Az,mvL,lnL,mvE,lnE,mvG,mvH,lnG,lnH,Bl,Ag,AV.q]
 obtain⟨p,v⟩:=x;dsimp only at hx ⊢
 have hx:renP p v:=hx
 have h1:=hx.ok.ind;have h2:=hx.ok.cl;have h3:=hx.ct
 (repeat' first|refine Rf p ?_|(with_reducible first|rfl|exact True.intro|apply AK|apply And.intro|((first|apply AA|apply AI|apply AB|apply AJ)<;>intro _))|(apply Av<;>intro _)|apply AH|refine Ae () ?_ ?_|((first|apply AO|apply AN|apply AM|apply AL|apply AG|apply AF|apply AE|apply AD|apply AC)<;>try dsimp only)|apply Ae|(refine Prod.forall.2 ?_;intro _;try dsimp only)|(intro _;try dsimp only))
 all_goals(try(repeat(rename p.chunks[_]? =some _=>hq;revert hq;rename p.chunks[_]? =some _=>hr;intro hq;rw[hr] at hq;cases hq)))
 all_goals first
  |rfl
  |(simp only[An];omega)
  |omega
  |exact c1x hx.ok
  |(exfalso;have hq:=a1w ‹rnI _ _ _ _ _›;omega)
  |exact c1A ‹_› ‹_› (by omega) (a0I ‹_› ‹_›)
  |exact c1B ‹_› ‹_› (by omega) (a0I ‹_› ‹_›) ‹_›
  |exact c1C ‹_› ‹_› (by omega) (a0I ‹_› ‹_›) ‹_›
  |(have hq:=a1w ‹rnI _ _ _ _ _›;(try simp only[An]);omega)
  |(have hi:= ‹rnI _ _ _ _ _›;have hq:=a1w hi;have hc:=c1D hx hq ‹_› (by omega);(try rw[a0z ‹_›]);(try simp only[An]);omega)
  |(have hi:= ‹rnI _ _ _ _ _›;have hq:=c1y hx.ok hi;have hm:=UA (Bm ‹p.chunks[_]? =some _›);(try simp only[An,Bb,List.length_append,List.length_cons,List.length_nil]);omega)
  |exact c1z ‹_› ‹_› (by omega)
  |exact()
  |skip)
end Go.My
end
section
namespace Go.My
open Go.Eng Go.Proofs
variable {G:GInv}
def ovN(ind w:Int)(v:List Int):List Ch→Int→Int
 |[],n=>max (n-w) 0
 |[c],n=>max (n+c.text.length-w) 0
 |c::d::l,n=>if DP v c then max (n+c.text.length-w) 0+ovN ind w v (d::l) (ind+c.nest) else ovN ind w v (d::l) (n+c.text.length+(if c.space then 1 else 0))
structure ovP (p:Pc) (v:List Int) (w:Int):Prop where
 re:renP p v
 ok:Dc p=true
 w0:0≤w∧w≤100000
def ovJ(p:Pc)(v:List Int)(w:Int)(i o n:Int):Prop:=
 (0≤i∧i≤p.chunks.length)∧(0≤o∧(0≤n∧n+Cz (p.chunks.drop i.toNat)≤Cz p.chunks+101*(i+1)))∧
   (i<p.chunks.length→o+ovN p.ind w v (p.chunks.drop i.toNat) n=ovL w (CG p v))∧(i=p.chunks.length→o=ovL w (CG p v))
attribute [local irreducible] ovJ DP
end Go.My
end
section
namespace Go.My
open Go.Eng Go.Proofs
variable {G:GInv}
def sn0:Sn:=⟨0,0,0⟩
def a1x(p:Pc)(i:Int):Sn:=p.spans.getD i.toNat sn0
def snV(p:Pc)(v:List Int)(i k:Int)(b:Bool):Prop:=((a1x p i).fr≤k∧k≤(a1x p i).tuu+1)∧b=((p.chunks.take k.toNat).drop (a1x p i).fr.toNat).any (a7d p v)
attribute [local irreducible] bdI bdJ Rc snS snV DP
structure qcP (p:Pc) (v:List Int):Prop where
 co:coP p v
 ok:Dc p=true
end Go.My
end
section
namespace Go.My
open Go.Eng Go.Proofs
variable {G:GInv}
attribute [local irreducible] cmI a9D MQ
attribute [local irreducible] upI dwI OO Rd OP dnK
end Go.My
end
section
namespace Go.My
open Go.Eng Go.Proofs
variable {G:GInv}
attribute [local irreducible] upI dwI OO abv Rd OP dnK
attribute [local irreducible] ruI opI a7f srF opN
end Go.My
end
section
namespace Go.My
open Go.Eng Go.Proofs
variable {G:GInv}
variable {a fr i k m nest r:Int}{c:BC}{en op:List UInt8}{ks:List Int}{n:Nat}{s t u v w:Bs}{sp:Bool}
def suA(c:BC)(s:Bs):AV:= .box 0 [nds c.ns,.int .i64 c.ind,.sl true 0 2 Ru ruA s.rules,.sl true 0 5 Ch chA s.chunks,.sl true 0 3 Sn snA s.spans,.sl true 0 2 Ti tiA s.ties,.str s.text,.bool !c.rd]
theorem Po{n:Int}(h:min n 40=min m 40):Ba r fr sp n s=Ba r fr sp m s:=by unfold Ba;rw[h]
def Cd:Sig:= {X:=BC×BX (List UInt8),args:=fun x=>[suA x.1 (xC x),.str x.2.2.2.2.2.2],pre:=fun x=>(xC x).text.length+x.2.2.2.2.2.2.length≤2^62,Y:=BT,post:=fun x y=>isB (Aq x.2.2.2.2.2.2 (xC x)) (yBW y),res:=fun x y=> .tup [],outs:=fun x y=>[suA x.1 (yBW y),.top],keep:=true}
theorem Pp:Ai G Tryz.prog 50 Cd:=
 vcFun_okP [] [] false (fun x=>[]) Tryz.func50 rfl (by decide) trivial (fun(x:BC×BX (List UInt8))=>True∧(↑((xC x).text.length+x.2.2.2.2.2.2.length):Int)≤Ag∧rA Cd x [.tup [],.box 0 [nds x.1.ns,.q x.1.ind,oRu (xC x).rules,oCh (xC x).chunks,oSn (xC x).spans,oTi (xC x).ties,.str ((xC x).text++x.2.2.2.2.2.2),.bool !x.1.rd],.top]) (fun x=>by kernel_rfl) fun(x:BC×BX (List UInt8)) (hx:(xC x).text.length+x.2.2.2.2.2.2.length≤2^62)=>(by
 dsimp only[CC,Br,nds,oCh,oRu,oSn,oTi,rA,CB,Cd,CD,suA,CE,As,Az,Ag,AV.q]
 obtain⟨b,r,c,s,t,u,l⟩:=x;dsimp only[xC] at hx ⊢
 (repeat' first|(with_reducible first|rfl|exact True.intro|apply AK|apply And.intro|((first|apply AA|apply AI|apply AB|apply AJ)<;>intro _))|(apply Av<;>intro _)|apply AH|refine Ae () ?_ ?_|((first|apply AO|apply AN|apply AM|apply AL|apply AG|apply AF|apply AE|apply AD|apply AC)<;>try dsimp only)|apply Ae|(refine Prod.forall.2 ?_;intro _;try dsimp only)|(intro _;try dsimp only))
 all_goals first
  |rfl
  |exact(show isB _ _ from rfl)
  |((try simp only[An]);omega)
  |skip)
def EK:Sig:= {X:=BC×BX (Int×Int),args:=fun x=>[suA x.1 (xC x),.q x.2.2.2.2.2.2.1,.q x.2.2.2.2.2.2.2],pre:=fun x=>bB (xC x),Y:=BT,post:=fun x y=>yBW y=Bo x.1.rd x.2.2.2.2.2.2.1 x.2.2.2.2.2.2.2 (xC x),res:=fun x y=> .q (Au x.1.rd (xC x)),outs:=fun x y=>[suA x.1 (yBW y),.top,.top],keep:=true}
theorem Rw:Ai G Tryz.prog 48 EK:=
 vcFun_okP [] [(27,⟨Ru,ruA⟩)] false (fun x=>[]) Tryz.func48 rfl (by decide) trivial (fun(x:BC×BX (Int×Int))=>True∧Aa (!x.1.rd) (rA EK x [.q (-1:Int),(suA x.1 (xC x)),.top,.top]) (Aa (decide ((↑((xC x).rules.length):Int)≥(8:Int))) (rA EK x [.q (-1:Int),(suA x.1 (xC x)),.top,.top]) (∃(x_1:Ru),x.2.2.2.2.2.2.1=x_1.vals∧x.2.2.2.2.2.2.2=x_1.cost∧∃(zs:List Ru),oRu [x_1]=oRu zs∧BI ruA∧Bb ((xC x).rules.length+zs.length) (16:Nat)∧inR .i64 ((↑(((xC x).rules++zs).length):Int)-(1:Int))∧∃(y:BT),yBW y=Bo x.1.rd x.2.2.2.2.2.2.1 x.2.2.2.2.2.2.2 (xC x)∧(↑(((xC x).rules++zs).length):Int)-1=Au x.1.rd (xC x)∧nds x.1.ns=nds x.1.ns∧x.1.ind=x.1.ind∧oRu ((xC x).rules++zs)=oRu (yBW y).rules∧oCh (xC x).chunks=oCh (yBW y).chunks∧oSn (xC x).spans=oSn (yBW y).spans∧oTi (xC x).ties=oTi (yBW y).ties∧(xC x).text=(yBW y).text∧(!x.1.rd)= !x.1.rd∧True))) (fun x=>by kernel_rfl) fun(x:BC×BX (Int×Int)) (hx:bB (xC x))=>(by
 dsimp only[CC,Br,nds,oCh,oRu,oSn,oTi,rA,CB,EK,CD,suA,CE,As,Az,AV.q]
 obtain⟨b,r,c,s,t,u,e,f⟩:=x;dsimp only[xC] at hx ⊢
 have hx:bB ⟨r,c,s,t,u⟩:=hx
 have h1:=hx.ok.ru;dsimp only at h1
 (repeat' first|refine a7n ?_|(with_reducible first|rfl|exact True.intro|apply AK|apply And.intro|((first|apply AA|apply AI|apply AB|apply AJ)<;>intro _))|(apply Av<;>intro _)|apply AH|refine Ae () ?_ ?_|((first|apply AO|apply AN|apply AM|apply AL|apply AG|apply AF|apply AE|apply AD|apply AC)<;>try dsimp only)|apply Ae|(refine Prod.forall.2 ?_;intro _;try dsimp only)|(intro _;try dsimp only))
 all_goals try(first|(have hF:= @UI b.rd e f ⟨r,c,s,t,u⟩ (.inl ‹_›))|(have hF:= @UI b.rd e f ⟨r,c,s,t,u⟩ (.inr ‹_›))|(have hF:= @a7q b.rd e f ⟨r,c,s,t,u⟩ ‹_› ‹_›))
 all_goals first
  |rfl
  |(simp only[hF];done)
  |(simp only[hF,List.length_append,List.length_cons,List.length_nil];omega)
  |((try simp only[An,Bb,List.length_append,List.length_cons,List.length_nil]);omega)
  |skip)
def Rx(t:List UInt8)(r f:Int)(sp:Bool)(n:Int):Ch:=⟨t,r,f,sp,n⟩
theorem c3C(h:¬r<0)(h2:¬(s.chunks.length:Int)≥79)(hm:min nest 40=m):Ba r fr sp nest s=⟨s.rules,s.chunks++[Rx s.text r fr sp m],s.spans,s.ties,[]⟩:=by rw[Ba,if_pos ⟨by omega,by omega⟩,hm];rfl
theorem a9N(ht:isB (Aq [32] s) t)(h:r<0∨(s.chunks.length:Int)≥79)(h2:sp=true):Ba r fr sp nest s=t:=by rw[Ba,if_neg (by omega),if_pos h2];exact ht.symm
theorem a9O(h:r<0∨(s.chunks.length:Int)≥79)(h2:sp=false):Ba r fr sp nest s=s:=by rw[Ba,if_neg (by omega),if_neg (by simp [h2])]
theorem c3D(h:(¬r<0∧¬(s.chunks.length:Int)≥79)∧min nest 40=m):isB (Ba r fr sp nest s) ⟨s.rules,s.chunks++[Rx s.text r fr sp m],s.spans,s.ties,[]⟩:=(c3C h.1.1 h.1.2 h.2).symm
def DS:Sig:= {X:=BC×BX (Int×Int×Bool×Int),args:=fun x=>[suA x.1 (xC x),.q x.2.2.2.2.2.2.1,.q x.2.2.2.2.2.2.2.1,.bool x.2.2.2.2.2.2.2.2.1,.q x.2.2.2.2.2.2.2.2.2],pre:=fun x=>bB (xC x),Y:=BT,post:=fun x y=>isB (Ba x.2.2.2.2.2.2.1 x.2.2.2.2.2.2.2.1 x.2.2.2.2.2.2.2.2.1 x.2.2.2.2.2.2.2.2.2 (xC x)) (yBW y),res:=fun x y=> .tup [],outs:=fun x y=>[suA x.1 (yBW y),.top,.top,.top,.top],keep:=true}
def c3E(x:BC×BX (Int×Int×Bool×Int)):LS:= {ι:=Int×Unit,inv:=fun m=>(¬x.2.2.2.2.2.2.1<0∧¬((xC x).chunks.length:Int)≥79)∧min x.2.2.2.2.2.2.2.2.2 40=m.1,regs:=fun m=>[(0,suA x.1 ⟨(xC x).rules,(xC x).chunks++[Rx (xC x).text x.2.2.2.2.2.2.1 x.2.2.2.2.2.2.2.1 x.2.2.2.2.2.2.2.2.1 m.1],(xC x).spans,(xC x).ties,(xC x).text⟩)],als:=[],meas:=fun _=>0}
def VB(x:BC×BX (Int×Int×Bool×Int)):LS:= {ι:=Int×Unit,inv:=fun m=>(¬x.2.2.2.2.2.2.1<0∧¬((xC x).chunks.length:Int)≥79)∧min x.2.2.2.2.2.2.2.2.2 40=m.1,regs:=fun m=>[(0,suA x.1 (xC x)),(1,.q x.2.2.2.2.2.2.1),(2,.q x.2.2.2.2.2.2.2.1),(3,.bool x.2.2.2.2.2.2.2.2.1),(4,.q m.1)],als:=[],meas:=fun _=>0}
def IY(x:BC×BX (Int×Int×Bool×Int))(i:Int×Unit):Prop:=∃(x_1:Ch),(xC x).text=x_1.text∧x.2.2.2.2.2.2.1=x_1.rule∧x.2.2.2.2.2.2.2.1=x_1.fr∧x.2.2.2.2.2.2.2.2.1=x_1.space∧i.1=x_1.nest∧(∃(zs:List Ch),oCh [x_1]=oCh zs∧(BI chA∧(Bb ((xC x).chunks.length+zs.length) (48:Nat)∧(true=true∧(∃(i:Int×Unit),((¬x.2.2.2.2.2.2.1<(0:Int)∧¬(↑((xC x).chunks.length):Int)≥(79:Int))∧min x.2.2.2.2.2.2.2.2.2 40=i.1)∧((nds x.1.ns=nds x.1.ns∧x.1.ind=x.1.ind∧oRu (xC x).rules=oRu (xC x).rules∧oCh ((xC x).chunks++zs)=oCh ((xC x).chunks++[Rx (xC x).text x.2.2.2.2.2.2.1 x.2.2.2.2.2.2.2.1 x.2.2.2.2.2.2.2.2.1 i.1])∧oSn (xC x).spans=oSn (xC x).spans∧oTi (xC x).ties=oTi (xC x).ties∧(xC x).text=(xC x).text∧(!x.1.rd)= !x.1.rd∧True)∧True))))))
theorem Ry:Ai G Tryz.prog 47 DS:=
 vcFun_okP [(50,0,Cd)] [(28,⟨Ch,chA⟩)] false (fun x=>[(100005,c3E x),(200005,VB x)]) Tryz.func47 rfl (by decide) ⟨Pp,trivial⟩ (fun(x:BC×BX (Int×Int×Bool×Int))=>True∧Aa (decide (x.2.2.2.2.2.2.1<(0:Int))) (Aa x.2.2.2.2.2.2.2.2.1 (cA Cd [(suA x.1 (xC x)),.str #[(32:UInt8)].toList] fun x_1 y=>rA DS x [.tup [],(suA x_1.1 (yBW y)),.top,.top,.top,.top]) (rA DS x [.tup [],(suA x.1 (xC x)),.top,.top,.top,.top])) (Aa (decide ((↑((xC x).chunks.length):Int)≥(79:Int))) (Aa x.2.2.2.2.2.2.2.2.1 (cA Cd [(suA x.1 (xC x)),.str #[(32:UInt8)].toList] fun x_1 y=>rA DS x [.tup [],(suA x_1.1 (yBW y)),.top,.top,.top,.top]) (rA DS x [.tup [],(suA x.1 (xC x)),.top,.top,.top,.top])) (Aa (decide (x.2.2.2.2.2.2.2.2.2>(40:Int))) (eA (VB x) [(suA x.1 (xC x)),.q x.2.2.2.2.2.2.1,.q x.2.2.2.2.2.2.2.1,.bool x.2.2.2.2.2.2.2.2.1,.q 40]) (eA (VB x) [(suA x.1 (xC x)),.q x.2.2.2.2.2.2.1,.q x.2.2.2.2.2.2.2.1,.bool x.2.2.2.2.2.2.2.2.1,.q x.2.2.2.2.2.2.2.2.2])∧∀(i:Int×Unit),(¬x.2.2.2.2.2.2.1<(0:Int)∧¬(↑((xC x).chunks.length):Int)≥(79:Int))∧min x.2.2.2.2.2.2.2.2.2 40=i.1→true=true∧(((IY x i)∧(IY x i))∧((IY x i)∧((IY x i)∧((IY x i)∧(IY x i))))∧((IY x i)∧((IY x i)∧((IY x i)∧(IY x i)))))∧∀(i:Int×Unit),(¬x.2.2.2.2.2.2.1<(0:Int)∧¬(↑((xC x).chunks.length):Int)≥(79:Int))∧min x.2.2.2.2.2.2.2.2.2 40=i.1→rA DS x [.tup [],.box 0 [nds x.1.ns,.q x.1.ind,oRu (xC x).rules,oCh ((xC x).chunks++[Rx (xC x).text x.2.2.2.2.2.2.1 x.2.2.2.2.2.2.2.1 x.2.2.2.2.2.2.2.2.1 i.1]),oSn (xC x).spans,oTi (xC x).ties,.str #[].toList,.bool !x.1.rd],.top,.top,.top,.top]))) (fun x=>by kernel_rfl) fun(x:BC×BX (Int×Int×Bool×Int)) (hx:bB (xC x))=>(by
 dsimp only[IY,cA,CC,eA,VB,Br,nds,oCh,oRu,oSn,oTi,rA,CB,Cd,DS,CD,suA,CE,As,Az,mvL,lnL,mvE,lnE,Bl,AV.q]
 obtain⟨b,r,c,s,t,u,e,f,g,h⟩:=x;dsimp only[xC] at hx ⊢
 have hx:bB ⟨r,c,s,t,u⟩:=hx
 have h1:=hx.ok.ch;have h2:=IT hx;dsimp only at h1 h2
 (repeat' first|refine UH ?_|(with_reducible first|rfl|exact True.intro|apply AK|apply And.intro|((first|apply AA|apply AI|apply AB|apply AJ)<;>intro _))|(apply Av<;>intro _)|apply AH|refine Ae () ?_ ?_|((first|apply AO|apply AN|apply AM|apply AL|apply AG|apply AF|apply AE|apply AD|apply AC)<;>try dsimp only)|apply Ae|(refine Prod.forall.2 ?_;intro _;try dsimp only)|(intro _;try dsimp only))
 all_goals(try dsimp only[yBW,xC] at*)
 all_goals first
  |with_reducible rfl
  |omega
  |exact(a9N ‹_› (.inl ‹_›) ‹_›).symm
  |exact(a9N ‹_› (.inr ‹_›) ‹_›).symm
  |exact(a9O (.inl ‹_›) ‹_›).symm
  |exact(a9O (.inr ‹_›) ‹_›).symm
  |(rename(¬_∧¬_)∧_=>hq;exact c3D (s:=⟨r,c,s,t,u⟩) hq)
  |(rename(¬_∧¬_)∧_=>hq;rw[hq.2];rfl)
  |(rename(¬_∧¬_)∧_=>hq;first|exact hq.1.1|exact hq.1.2|exact hq.2|exact hq.1.1 ‹_› |exact hq.1.2 ‹_›)
  |((try simp only[An,Bb,List.length_append,List.length_cons,List.length_nil]);omega)
  |exact()
  |rfl
  |skip)
theorem c3F{u:Int}(h:u≥0)(h1:(s.rules.length:Int)>n)(h2:(s.ties.length:Int)<20):isB (CF (DI n s) u s) ⟨s.rules,s.chunks,s.spans,s.ties++[⟨n,u⟩],s.text⟩:=by
 rw[isB,DI,if_pos (by omega),CF,if_pos (by omega)]
theorem a1y{u:Int}(h:(¬u≥0∨¬(s.rules.length:Int)>n)∨¬(s.ties.length:Int)<20):isB (CF (DI n s) u s) s:=by
 rw[isB,DI]
 split
 ·rw[CF,if_neg (by omega)]
 ·rw[CF,if_neg (by omega)]
def IZ:Sig:= {X:=BC×BX (Nat×Int),args:=fun x=>[suA x.1 (xC x),.q x.2.2.2.2.2.2.1,.q x.2.2.2.2.2.2.2],pre:=fun x=>bB (xC x),Y:=BT,post:=fun x y=>isB (CF (DI x.2.2.2.2.2.2.1 (xC x)) x.2.2.2.2.2.2.2 (xC x)) (yBW y),res:=fun x y=> .tup [],outs:=fun x y=>[suA x.1 (yBW y),.top,.top],keep:=true}
theorem a9P:Ai G Tryz.prog 120 IZ:=
 vcFun_okP [] [(30,⟨Ti,tiA⟩)] false (fun x=>[]) Tryz.func120 rfl (by decide) trivial (fun(x:BC×BX (Nat×Int))=>True∧Aa (decide (x.2.2.2.2.2.2.2≥(0:Int))) (Aa (decide ((↑((xC x).rules.length):Int)>(↑x.2.2.2.2.2.2.1:Int))) (Aa (decide ((↑((xC x).ties.length):Int)<(20:Int))) (∃(x_1:Ti),(↑x.2.2.2.2.2.2.1:Int)=x_1.kid∧x.2.2.2.2.2.2.2=x_1.up∧∃(zs:List Ti),oTi [x_1]=oTi zs∧BI tiA∧Bb ((xC x).ties.length+zs.length) (16:Nat)∧∃(y:BT),isB (CF (DI x.2.2.2.2.2.2.1 (xC x)) x.2.2.2.2.2.2.2 (xC x)) (yBW y)∧nds x.1.ns=nds x.1.ns∧x.1.ind=x.1.ind∧oRu (xC x).rules=oRu (yBW y).rules∧oCh (xC x).chunks=oCh (yBW y).chunks∧oSn (xC x).spans=oSn (yBW y).spans∧oTi ((xC x).ties++zs)=oTi (yBW y).ties∧(xC x).text=(yBW y).text∧(!x.1.rd)= !x.1.rd∧True) (rA IZ x [.tup [],(suA x.1 (xC x)),.top,.top])) (rA IZ x [.tup [],(suA x.1 (xC x)),.top,.top])) (rA IZ x [.tup [],(suA x.1 (xC x)),.top,.top])) (fun x=>by kernel_rfl) fun(x:BC×BX (Nat×Int)) (hx:bB (xC x))=>(by
 dsimp only[CC,Br,nds,oCh,oRu,oSn,oTi,rA,CB,IZ,CD,suA,CE,As,Az,AV.q]
 obtain⟨b,r,c,s,t,u,e,f⟩:=x;dsimp only[xC] at hx ⊢
 have hx:bB ⟨r,c,s,t,u⟩:=hx
 have h1:=hx.ok.ti;dsimp only at h1
 (repeat' first|refine a7o ?_|(with_reducible first|rfl|exact True.intro|apply AK|apply And.intro|((first|apply AA|apply AI|apply AB|apply AJ)<;>intro _))|(apply Av<;>intro _)|apply AH|refine Ae () ?_ ?_|((first|apply AO|apply AN|apply AM|apply AL|apply AG|apply AF|apply AE|apply AD|apply AC)<;>try dsimp only)|apply Ae|(refine Prod.forall.2 ?_;intro _;try dsimp only)|(intro _;try dsimp only))
 all_goals(try dsimp only[yBW,xC] at*)
 all_goals first
  |with_reducible rfl
  |exact c3F (s:=⟨r,c,s,t,u⟩) ‹_› ‹_› ‹_›
  |exact a1y (s:=⟨r,c,s,t,u⟩) (.inl (.inl ‹_›))
  |exact a1y (s:=⟨r,c,s,t,u⟩) (.inl (.inr ‹_›))
  |exact a1y (s:=⟨r,c,s,t,u⟩) (.inr ‹_›)
  |((try simp only[An,Bb,List.length_append,List.length_cons,List.length_nil]);omega)
  |rfl
  |skip)
structure vsP (ns:List Nd) (n:Nat) (s:Bs) (k a:Int):Prop where
 up:CS ns k
 lt:k<n
 vl:Bf (Bc ns k)=true
 rm:bR (tW ns n k) s
 ar:0≤a∧a+4*k≤2^40
def vsQ(c:BC)(n:Nat)(s:Bs)(k a:Int)(t:Bs):Prop:=t=bV c.ns c.rd n k (min a 40) s
def CN(n:Nat):Sig:= {X:=BC×List Ru×List Ch×List Sn×List Ti×List UInt8×Int×Int,args:=fun x=>[suA x.1 (xC x),.int .i64 x.2.2.2.2.2.2.1,.int .i64 x.2.2.2.2.2.2.2],pre:=fun x=>vsP x.1.ns n (xC x) x.2.2.2.2.2.2.1 x.2.2.2.2.2.2.2,Y:=BT,post:=fun x y=>vsQ x.1 n (xC x) x.2.2.2.2.2.2.1 x.2.2.2.2.2.2.2 (yBW y),res:=fun x y=> .tup [],outs:=fun x y=>[suA x.1 (yBW y),.top,.top],keep:=true}
def inA(a:Int)(ks:List Int):Prop:=(0≤a∧a≤2^40)∧∀d∈ks,a+4+4*d≤2^40
theorem m40(h:0≤a):min (min a 40+4) 40=min (a+4) 40:=by omega
theorem a1z{ns:List Nd}(h:vlP ns n s k (min (min a 40+4) 40))(ha:0≤a)(hk:a+4+4*k≤2^40):vsP ns n s k (a+4):=⟨h.up,h.lt,h.vl,h.rm,by omega,hk⟩
theorem a1A(h:vsQ c n s k (a+4) t)(ha:0≤a):Cf c n s k (min (min a 40+4) 40) (Ia c.rd (Ab c.ns k) s) t:=⟨by rw[m40 ha];exact h,rfl⟩
theorem a1B(h:isB (Ba r fr sp (a+4) s) t)(ha:0≤a):t=Ba r fr sp (min (min a 40+4) 40) s:=by
 rw[h];exact Po (by omega)
theorem a9Q(h:isB (Ba r fr sp a s) t):t=Ba r fr sp (min a 40) s:=by
 rw[h];exact Po (by omega)
structure lsP (c:BC) (n:Nat) (s:Bs) (op:List UInt8) (ks:List Int) (en:List UInt8) (a:Int):Prop where
 li:liP c n s op ks en (min a 40)
 ar:inA a ks
theorem a1C(h:lsP c n s op ks en a)(hc:ks[i.toNat]? =some k):a+4+4*k≤2^40:=h.ar.2 k (Bm hc)
theorem c3G{w:Bs}(hu:isB (Ba (Au c.rd (Aq op s)) 1 false (a+4) t) u)(ht:t=Bo c.rd (min (ks.length:Int) 2+1) 1 (Aq op s))(h:lsP c n s op ks en a):liI c n s op ks (min a 40) 0 u:=a7K h.li (a1B hu h.ar.1.1) ht
theorem c3H(h:liI c n s op ks (min a 40) i t)(hx:lsP c n s op ks en a)(hc:ks[i.toNat]? =some k):vsP c.ns n t k (a+4):=a1z (a7M h hx.li hc) hx.ar.1.1 (a1C hx hc)
theorem c3I(hu:isB (Ba (Au c.rd (Aq op s)) (min (ks.length:Int) 2) true (a+4) w) u)(hw:isB (Aq [44] t) w)(h:liI c n s op ks (min a 40) i t)(hx:lsP c n s op ks en a)(hc:ks[i.toNat]? =some k):vsP c.ns n u k (a+4):=by
 rw[hw] at hu
 exact a1z (a7N h (a1B hu hx.ar.1.1) hx.li hc) hx.ar.1.1 (a1C hx hc)
theorem c3J(h:liI c n s op ks (min a 40) i t)(hc:ks[i.toNat]? =some k)(hu:vsQ c n t k (a+4) u)(hx:lsP c n s op ks en a)(hi:¬i>0):liI c n s op ks (min a 40) (i+1) u:=a7O (a1A hu hx.ar.1.1) h hx.li hc hi
theorem c3K(h:liI c n s op ks (min a 40) i t)(hc:ks[i.toNat]? =some k)(hv:vsQ c n u k (a+4) v)(hu:isB (Ba (Au c.rd (Aq op s)) (min (ks.length:Int) 2) true (a+4) w) u)(hw:isB (Aq [44] t) w)(hx:lsP c n s op ks en a)(hi:i>0):liI c n s op ks (min a 40) (i+1) v:=by
 rw[hw] at hu
 exact a7P h (a1A hv hx.ar.1.1) (a1B hu hx.ar.1.1) hx.li hc hi
theorem c3L(hw:isB (Aq [44] t) w)(h:liI c n s op ks a i t)(hc:ks[i.toNat]? =some k):bB w:=by rw[hw];exact a7L h hc
theorem a9R(h:liI c n s op ks a i t)(hi:i<ks.length):∃k,ks[i.toNat]? =some k:=by
 have:=a0L h
 exact⟨_,List.getElem?_eq_getElem (by omega)⟩
theorem c3M(h:liI c n s op ks a i t)(hi:i<ks.length):t.text.length≤2^61:=by
 obtain⟨k,hk⟩:=a9R h hi
 exact a0M h hk
theorem c3N(hw:isB (Aq [44] t) w)(h:liI c n s op ks a i t)(hi:i<ks.length):bB w:=by
 obtain⟨k,hk⟩:=a9R h hi
 exact c3L hw h hk
theorem c3O(h:isB (Aq op s) t):((t.rules=(Aq op s).rules∧t.chunks=(Aq op s).chunks)∧t.spans=(Aq op s).spans∧t.ties=(Aq op s).ties)∧t.text=(Aq op s).text:=by rw[h];exact⟨⟨⟨rfl,rfl⟩,rfl,rfl⟩,rfl⟩
theorem a9S(h:isB (Aq op s) t):t.text.length=s.text.length+op.length:=by rw[h];simp [Aq]
theorem c3P(hu:isB (Ba (Au c.rd (Aq op s)) 1 false a t) u)(h:liI c n s op ks (min a 40) i t)(hx:lsP c n s op ks en a)(hi:¬i<ks.length):u.text.length≤2^61:=a7R (a9Q hu) h hx.li hi
theorem c3Q(hv:isB (Aq en u) v)(hu:isB (Ba (Au c.rd (Aq op s)) 1 false a t) u)(h:liI c n s op ks (min a 40) i t)(hx:lsP c n s op ks en a)(hi:¬i<ks.length)(hk:¬(ks.length:Int)=0):isB (Eg c.rd (bV c.ns c.rd n) op ks en (min a 40) s) v:=by
 have:=a7S (a9Q hu) h hx.li hi (by omega)
 rw[hv];exact this
theorem c3R(hv:isB (Aq en u) v)(hu:isB (Aq op s) u)(hk:(ks.length:Int)=0):isB (Eg c.rd (bV c.ns c.rd n) op ks en a s) v:=by
 have:=a7T (c:=c) (n:=n) (s:=s) (op:=op) (ks:=ks) (en:=en) (a:=a) (by omega)
 rw[hv,hu];exact this
attribute [local irreducible] liI
def lsJ(n:Nat)(x:BC×List Ru×List Ch×List Sn×List Ti×List UInt8×List UInt8×List Int×List UInt8×Int):LS:= {ι:=Unit,inv:=fun _=>¬(x.2.2.2.2.2.2.2.1.length:Int)=0,regs:=fun _=>[(0,suA x.1 (Aq x.2.2.2.2.2.2.1 (xC x))),(2,AQ x.2.2.2.2.2.2.2.1),(3,.str x.2.2.2.2.2.2.2.2.1),(4,.int .i64 x.2.2.2.2.2.2.2.2.2),(10,.int .i64 (min (x.2.2.2.2.2.2.2.1.length:Int) 2))],als:=[],meas:=fun _=>0}
def lsL(n:Nat)(x:BC×List Ru×List Ch×List Sn×List Ti×List UInt8×List UInt8×List Int×List UInt8×Int):LS:= {ι:=List Ru×List Ch×List Sn×List Ti×List UInt8×Int,inv:=fun i=>liI x.1 n (xC x) x.2.2.2.2.2.2.1 x.2.2.2.2.2.2.2.1 (min x.2.2.2.2.2.2.2.2.2 40) (zI i) (zBW i),regs:=fun i=>[(0,suA x.1 (zBW i)),(2,AQ x.2.2.2.2.2.2.2.1),(3,.str x.2.2.2.2.2.2.2.2.1),(4,.int .i64 x.2.2.2.2.2.2.2.2.2),(10,.int .i64 (min (x.2.2.2.2.2.2.2.1.length:Int) 2)),(11,.int .i64 (Au x.1.rd (Aq x.2.2.2.2.2.2.1 (xC x)))),(12,.int .i64 (zI i))],als:=[],meas:=fun i=>x.2.2.2.2.2.2.2.1.length-(zI i).toNat}
def Lx(n:Nat):Sig:= {X:=BC×BX (List UInt8×List Int×List UInt8×Int),args:=fun x=>[suA x.1 (xC x),.str x.2.2.2.2.2.2.1,AQ x.2.2.2.2.2.2.2.1,.str x.2.2.2.2.2.2.2.2.1,.q x.2.2.2.2.2.2.2.2.2],pre:=fun x=>lsP x.1 n (xC x) x.2.2.2.2.2.2.1 x.2.2.2.2.2.2.2.1 x.2.2.2.2.2.2.2.2.1 x.2.2.2.2.2.2.2.2.2,Y:=BT,post:=fun x y=>isB (Eg x.1.rd (bV x.1.ns x.1.rd n) x.2.2.2.2.2.2.1 x.2.2.2.2.2.2.2.1 x.2.2.2.2.2.2.2.2.1 (min x.2.2.2.2.2.2.2.2.2 40) (xC x)) (yBW y),res:=fun x y=> .tup [],outs:=fun x y=>[suA x.1 (yBW y),.top,.top,.top,.top],keep:=true}
theorem c3S(n:Nat)(hc:Ai G Go.Proofs.Tryz.prog 49 (CN n)):Ai G Tryz.prog 86 (Lx n):=
 vcFun_okP [(50,0,Cd),(48,0,EK),(47,0,DS),(49,0,(CN n))] [] false (fun x=>[(9,lsL n x),(200006,lsJ n x)]) Tryz.func86 rfl (by decide) ⟨Pp,Rw,Ry,hc,trivial⟩ (fun(x:BC×BX (List UInt8×List Int×List UInt8×Int))=>True∧cA Cd [(suA x.1 (xC x)),.str x.2.2.2.2.2.2.1] fun x_1 y=>Aa ((x.2.2.2.2.2.2.2.1.length:Int)==(0:Int)) (cA Cd [(suA x_1.1 (yBW y)),.str x.2.2.2.2.2.2.2.2.1] fun x_2 y=>rA (Lx n) x [.tup [],(suA x_2.1 (yBW y)),.top,.top,.top,.top]) (Aa ((x.2.2.2.2.2.2.2.1.length:Int)==(1:Int)) (eA (lsJ n x) [(suA x_1.1 (yBW y)),AQ x.2.2.2.2.2.2.2.1,.str x.2.2.2.2.2.2.2.2.1,.q x.2.2.2.2.2.2.2.2.2,.q 1]) (eA (lsJ n x) [(suA x_1.1 (yBW y)),AQ x.2.2.2.2.2.2.2.1,.str x.2.2.2.2.2.2.2.2.1,.q x.2.2.2.2.2.2.2.2.2,.q 2])∧∀(i:Unit),¬(x.2.2.2.2.2.2.2.1.length:Int)=(0:Int)→inR .i64 (min (x.2.2.2.2.2.2.2.1.length:Int) (2:Int)+(1:Int))∧cA EK [(suA x.1 (Aq x.2.2.2.2.2.2.1 (xC x))),.q (min (x.2.2.2.2.2.2.2.1.length:Int) (2:Int)+(1:Int)),.q 1] fun x_2 y=>inR .i64 (x.2.2.2.2.2.2.2.2.2+(4:Int))∧cA DS [(suA x_2.1 (yBW y)),.q (Au x_2.1.rd (xC x_2)),.q 1,.bool false,.q (x.2.2.2.2.2.2.2.2.2+(4:Int))] fun x_3 y=>eA (lsL n x) [(suA x_3.1 (yBW y)),AQ x.2.2.2.2.2.2.2.1,.str x.2.2.2.2.2.2.2.2.1,.q x.2.2.2.2.2.2.2.2.2,.q (min (x.2.2.2.2.2.2.2.1.length:Int) (2:Int)),.q (Au x_2.1.rd (xC x_2)),.q 0]∧∀(i:BX Int),liI x.1 n (xC x) x.2.2.2.2.2.2.1 x.2.2.2.2.2.2.2.1 (min x.2.2.2.2.2.2.2.2.2 (40:Int)) (zI i) (zBW i)→Aa (decide (zI i<(x.2.2.2.2.2.2.2.1.length:Int))) (Aa (decide (zI i>0)) (cA Cd [(suA x.1 (zBW i)),.str #[(44:UInt8)].toList] fun x_4 y=>inR .i64 (x.2.2.2.2.2.2.2.2.2+(4:Int))∧cA DS [(suA x_4.1 (yBW y)),.q (Au x.1.rd (Aq x.2.2.2.2.2.2.1 (xC x))),.q (min (x.2.2.2.2.2.2.2.1.length:Int) (2:Int)),.bool true,.q (x.2.2.2.2.2.2.2.2.2+(4:Int))] fun x_5 y=>(0≤zI i∧zI i<(x.2.2.2.2.2.2.2.1.length:Int))∧∀(e:Int),x.2.2.2.2.2.2.2.1[Int.toNat (zI i)]? =some e→inR .i64 (x.2.2.2.2.2.2.2.2.2+(4:Int))∧cA (CN n) [(suA x_5.1 (yBW y)),.q e,.q (x.2.2.2.2.2.2.2.2.2+(4:Int))] fun x_6 y=>inR .i64 (zI i+1)∧eN (lsL n x) i [(suA x_6.1 (yBW y)),AQ x.2.2.2.2.2.2.2.1,.str x.2.2.2.2.2.2.2.2.1,.q x.2.2.2.2.2.2.2.2.2,.q (min (x.2.2.2.2.2.2.2.1.length:Int) (2:Int)),.q (Au x.1.rd (Aq x.2.2.2.2.2.2.1 (xC x))),.q (zI i+1)]) ((0≤zI i∧zI i<(x.2.2.2.2.2.2.2.1.length:Int))∧∀(e:Int),x.2.2.2.2.2.2.2.1[Int.toNat (zI i)]? =some e→inR .i64 (x.2.2.2.2.2.2.2.2.2+(4:Int))∧cA (CN n) [(suA x.1 (zBW i)),.q e,.q (x.2.2.2.2.2.2.2.2.2+(4:Int))] fun x_4 y=>inR .i64 (zI i+1)∧eN (lsL n x) i [(suA x_4.1 (yBW y)),AQ x.2.2.2.2.2.2.2.1,.str x.2.2.2.2.2.2.2.2.1,.q x.2.2.2.2.2.2.2.2.2,.q (min (x.2.2.2.2.2.2.2.1.length:Int) (2:Int)),.q (Au x.1.rd (Aq x.2.2.2.2.2.2.1 (xC x))),.q (zI i+1)])) (cA DS [(suA x.1 (zBW i)),.q (Au x.1.rd (Aq x.2.2.2.2.2.2.1 (xC x))),.q 1,.bool false,.q x.2.2.2.2.2.2.2.2.2] fun x_4 y=>cA Cd [(suA x_4.1 (yBW y)),.str x.2.2.2.2.2.2.2.2.1] fun x_5 y=>rA (Lx n) x [.tup [],(suA x_5.1 (yBW y)),.top,.top,.top,.top]))) (fun x=>by kernel_rfl) fun(x:BC×BX (List UInt8×List Int×List UInt8×Int)) (hx:lsP x.1 n (xC x) x.2.2.2.2.2.2.1 x.2.2.2.2.2.2.2.1 x.2.2.2.2.2.2.2.2.1 x.2.2.2.2.2.2.2.2.2)=>(by
 dsimp only[cA,CC,eA,eN,AQ,lsJ,lsL,Br,nds,rA,CB,Lx,Cd,EK,DS,CN,CD,suA,CE,As,Az,mvL,lnL,mvE,lnE,Bl,AV.q]
 obtain⟨b,r,c,s,t,u,op,ks,en,a⟩:=x;dsimp only[xC] at hx ⊢
 have hx:lsP b n ⟨r,c,s,t,u⟩ op ks en a:=hx
 have h1:=hx.ar.1;have h2:=hx.li.kl;have h3:=hx.li.ol;have h4:=hx.li.el;have hb0:=IT (DD hx.li.rm);dsimp only at hb0
 (repeat' first|(with_reducible first|rfl|exact True.intro|apply AK|apply And.intro|((first|apply AA|apply AI|apply AB|apply AJ)<;>intro _))|(apply Av<;>intro _)|apply AH|refine Ae () ?_ ?_|((first|apply AO|apply AN|apply AM|apply AL|apply AG|apply AF|apply AE|apply AD|apply AC)<;>try dsimp only)|apply Ae|(refine Prod.forall.2 ?_;intro _;try dsimp only)|(intro _;try dsimp only))
 all_goals(try dsimp only[yBW,xC,zBW,zI] at*)
 all_goals first
  |with_reducible rfl
  |with_reducible assumption
  |omega
  |exact UV hx.li
  |exact a7J hx.li ‹_›
  |exact c3G (w:=⟨r,c,s,t,u⟩) ‹_› ‹_› hx
  |exact c3I ‹_› ‹_› ‹_› hx ‹_›
  |exact c3H ‹_› hx ‹_›
  |exact c3K ‹_› ‹_› ‹_› ‹_› ‹_› hx ‹_›
  |exact c3J ‹_› ‹_› ‹_› hx ‹_›
  |exact c3N ‹_› ‹_› ‹_›
  |(have hq:=c3O ‹isB (Aq op _) _›;first|exact hq.1.1.1|exact hq.1.1.2|exact hq.1.2.1|exact hq.1.2.2|exact hq.2)
  |(have hq:=a9S ‹isB (Aq op _) _›;dsimp only at hq;omega)
  |(have hq:=c3M ‹liI _ _ _ _ _ _ _ _› ‹_›;dsimp only at hq;(try simp only[An,List.length_cons,List.length_nil]);omega)
  |exact a7Q ‹_› hx.li ‹_›
  |exact c3Q ‹_› ‹_› ‹_› hx ‹_› ‹_›
  |exact c3R ‹_› ‹_› ‹_›
  |(have hq:=a0L ‹liI _ _ _ _ _ _ _ _›;(try have hk:=a1C hx ‹_›);(try simp only[An]);omega)
  |(have hq:=a0M ‹liI _ _ _ _ _ _ _ _› ‹_›;dsimp only at hq;(try simp only[An,List.length_cons,List.length_nil]);omega)
  |(have hq:=IT (UV hx.li);(try simp only[An,List.length_append,Aq] at*);omega)
  |(have hq:=c3P ‹_› ‹_› hx ‹_›;dsimp only at hq;(try simp only[An] at*);omega)
  |rfl
  |skip)
theorem a1D{ns:List Nd}(h:vlP ns n s k (min (a+4) 40))(ha:0≤a)(hk:a+4+4*k≤2^40):vsP ns n s k (a+4):=⟨h.up,h.lt,h.vl,h.rm,by omega,hk⟩
theorem Nf(h:vsQ c n s k (a+4) t):Cf c n s k (min (a+4) 40) (Ia c.rd (Ab c.ns k) s) t:=⟨h,rfl⟩
end Go.My
end
section
namespace Go.My
open Go.Eng Go.Proofs
variable {G:GInv}
variable {a i k:Int}{c:BC}{n:Nat}{s t u z:Bs}{x:Nd}
structure pxP (c:BC) (n:Nat) (s:Bs) (x:Nd) (a:Int):Prop where
 pn:pnP c n s x (min (a+4) 40)
 ar:inA a x.kids
theorem a9T(h:pxP c n s x a)(hc:x.kids[i.toNat]? =some k):a+4+4*k≤2^40:=h.ar.2 k (Bm hc)
theorem VC(h:pnI c n s x a i t)(hi:i<x.kids.length):∃k,x.kids[i.toNat]? =some k:=by
 have:=Vd h
 exact⟨_,List.getElem?_eq_getElem (by omega)⟩
theorem c3T(h:pnI c n s x a i t)(hi:i<x.kids.length):bB t:=by
 obtain⟨k,hk⟩:=VC h hi;exact a8c h hk
theorem a9U{r:Int}(h:isB (Ba r 1 true (a+4) s) t):t=Ba r 1 true (min (a+4) 40) s:=by rw[h];exact Po (by omega)
theorem c3U(hu:isB (Ba (Au c.rd s) 1 true (a+4) t) u)(h:pnI c n s x (min (a+4) 40) i t)(hi:i<x.kids.length):u.text.length+4≤2^61:=by
 obtain⟨k,hk⟩:=VC h hi;exact a8e h (a9U hu) hk
def pxJ(c:BC)(n:Nat)(s:Bs)(x:Nd)(a:Int)(z:Bs)(i:Int)(t:Bs):Prop:=∃k,pnJ c n s x a z i k t
theorem c3V(h:pnI c n s x a i t)(hl:i<x.kids.length)(hi:¬i>0):pxJ c n s x a t i t:=by
 obtain⟨k,hk⟩:=VC h hl;exact⟨k,a8f h hk hi⟩
theorem c3W{w:Bs}{l:List UInt8}(h:pnI c n s x (min (a+4) 40) i t)(hw:isB (Aq l u) w)(hu:isB (Ba (Au c.rd s) 1 true (a+4) t) u)(hp:([[],[63,32],[58,32]]:List (List UInt8))[i.toNat]? =some l)(hl:i<x.kids.length)(hi:i>0):pxJ c n s x (min (a+4) 40) t i w:=by
 obtain⟨k,hk⟩:=VC h hl
 rw[hw];exact⟨k,a8m h hk hi (a9U hu) hp⟩
theorem Rz(h:pxJ c n s x a z i t)(hk:x.kids[i.toNat]? =some k):pnJ c n s x a z i k t:=by
 obtain⟨k',h'⟩:=h
 have:=h'.1.2
 rw[hk] at this;cases this;exact h'
theorem c3X(h:pxJ c n s x a z i t):t.rules.length≤8:=by
 obtain⟨k,h⟩:=h;exact(a0X h).1.ru
theorem c3Y(h:pxJ c n s x (min (a+4) 40) z i t)(hx:pxP c n s x a)(hk:x.kids[i.toNat]? =some k):vsP c.ns n t k (a+4):=a1D (a0Y (Rz h hk) hx.pn) hx.ar.1.1 (a9T hx hk)
theorem c3Z(h:pxJ c n s x (min (a+4) 40) z i t)(hu:vsQ c n t k (a+4) u)(hx:pxP c n s x a)(hk:x.kids[i.toNat]? =some k):bB u:=a8g (Rz h hk) (Nf hu) hx.pn
theorem c4a(h:pxJ c n s x a z i t)(hx:pnP c n s x a)(hk:x.kids[i.toNat]? =some k):0≤k∧k<c.ns.length:=a8h (Rz h hk) hx
theorem c4b{e:Nd}(h:pxJ c n s x (min (a+4) 40) z i t)(hu:vsQ c n t k (a+4) u)(hx:pxP c n s x a)(he:c.ns[k.toNat]? =some e)(hk:x.kids[i.toNat]? =some k)(h8:¬e.kind=8):pnI c n s x (min (a+4) 40) (i+1) u:=a8j (Rz h hk) (Nf hu) hx.pn he h8
theorem c4c{v:Bs}{e:Nd}(h:pxJ c n s x (min (a+4) 40) z i t)(hv:isB (CF (DI t.rules.length u) (Au c.rd s) u) v)(hu:vsQ c n t k (a+4) u)(hx:pxP c n s x a)(he:c.ns[k.toNat]? =some e)(hk:x.kids[i.toNat]? =some k)(h8:e.kind=8):pnI c n s x (min (a+4) 40) (i+1) v:=by
 have hkp:=hx.pn.kd k (Bm hk)
 refine a8k (Rz h hk) (Nf hu) ?_ hx.pn he h8
 rw[←UO (a:=min (a+4) 40) hkp.1 hkp.2.1 (.inr (by rw[Gb he];exact h8)),←hu];exact hv
theorem c4d(h:pnI c n s x a i t)(hx:pnP c n s x a)(hi:¬i<x.kids.length):isB (Lj c.ns c.rd (bV c.ns c.rd n) x a s) t:=(a8l h hx hi).1
attribute [local irreducible] pnI pnJ pxJ
def VD(n:Nat)(x:BC×List Ru×List Ch×List Sn×List Ti×List UInt8×Nd×Int)(i:List Ru×List Ch×List Sn×List Ti×List UInt8×Int):LS:= {ι:=List Ru×List Ch×List Sn×List Ti×List UInt8×Unit,inv:=fun j=>pxJ x.1 n (xC x) x.2.2.2.2.2.2.1 (min (x.2.2.2.2.2.2.2+4) 40) (zBW i) (zI i) ⟨j.1,j.2.1,j.2.2.1,j.2.2.2.1,j.2.2.2.2.1⟩,regs:=fun j=>[(0,suA x.1 ⟨j.1,j.2.1,j.2.2.1,j.2.2.2.1,j.2.2.2.2.1⟩),(2,.int .i64 x.2.2.2.2.2.2.2),(4,.box 0 (ndA false x.2.2.2.2.2.2.1)),(6,.int .i64 (Au x.1.rd (xC x))),(7,.int .i64 (zI i))],als:=[],meas:=fun _=>0}
def RA(n:Nat)(x:BC×List Ru×List Ch×List Sn×List Ti×List UInt8×Nd×Int):LS:= {ι:=List Ru×List Ch×List Sn×List Ti×List UInt8×Int,inv:=fun i=>pnI x.1 n (xC x) x.2.2.2.2.2.2.1 (min (x.2.2.2.2.2.2.2+4) 40) (zI i) (zBW i),regs:=fun i=>[(0,suA x.1 (zBW i)),(2,.int .i64 x.2.2.2.2.2.2.2),(4,.box 0 (ndA false x.2.2.2.2.2.2.1)),(6,.int .i64 (Au x.1.rd (xC x))),(7,.int .i64 (zI i))],als:=[],meas:=fun i=>x.2.2.2.2.2.2.1.kids.length-(zI i).toNat,sub:=fun i=>[(200008,VD n x i)]}
def Pq(n:Nat):Sig:= {X:=BC×BX (Nd×Int),args:=fun x=>[suA x.1 (xC x),.agg (ndA false x.2.2.2.2.2.2.1),.q x.2.2.2.2.2.2.2],pre:=fun x=>pxP x.1 n (xC x) x.2.2.2.2.2.2.1 x.2.2.2.2.2.2.2,Y:=BT,post:=fun x y=>isB (Lj x.1.ns x.1.rd (bV x.1.ns x.1.rd n) x.2.2.2.2.2.2.1 (min (x.2.2.2.2.2.2.2+4) 40) (xC x)) (yBW y),res:=fun x y=> .tup [],outs:=fun x y=>[suA x.1 (yBW y),.top,.top],keep:=true}
theorem c4e(n:Nat)(hc:Ai G Go.Proofs.Tryz.prog 49 (CN n)):Ai G Tryz.prog 88 (Pq n):=
 vcFun_okP [(50,0,Cd),(48,0,EK),(47,0,DS),(49,0,(CN n)),(120,0,IZ)] [(42,⟨List UInt8,Be⟩)] false (fun x=>[(3,RA n x)]) Tryz.func88 rfl (by decide) ⟨Pp,Rw,Ry,hc,a9P,trivial⟩ (fun(x:BC×BX (Nd×Int))=>True∧cA EK [(suA x.1 (xC x)),.q 2,.q 1] fun x_1 y=>eA (RA n x) [(suA x_1.1 (yBW y)),.q x.2.2.2.2.2.2.2,.box 0 (ndA false x.2.2.2.2.2.2.1),.q (Au x_1.1.rd (xC x_1)),.q 0]∧∀(i:BX Int),pnI x.1 n (xC x) x.2.2.2.2.2.2.1 (min (x.2.2.2.2.2.2.2+(4:Int)) (40:Int)) (zI i) (zBW i)→Aa (decide (zI i<(x.2.2.2.2.2.2.1.kids.length:Int))) (Aa (decide (zI i>0)) (inR .i64 (x.2.2.2.2.2.2.2+(4:Int))∧cA DS [(suA x.1 (zBW i)),.q (Au x.1.rd (xC x)),.q 1,.bool true,.q (x.2.2.2.2.2.2.2+(4:Int))] fun x_2 y=>∃(x_3:List UInt8),#[].toList=x_3∧∃(x_4:List UInt8),#[(63:UInt8),32].toList=x_4∧∃(x_5:List UInt8),#[(58:UInt8),32].toList=x_5∧(0≤zI i∧zI i<(↑(List.length [x_3,x_4,x_5]):Int))∧Int.toNat (zI i)<List.length [x_3,x_4,x_5]∧∀(x_6:List UInt8),[x_3,x_4,x_5][Int.toNat (zI i)]? =some x_6→cA Cd [(suA x_2.1 (yBW y)),.str x_6] fun x_7 y=>eA (VD n x i) [(suA x_7.1 (yBW y)),.q x.2.2.2.2.2.2.2,.box 0 (ndA false x.2.2.2.2.2.2.1),.q (Au x.1.rd (xC x)),.q (zI i)]) (eA (VD n x i) [(suA x.1 (zBW i)),.q x.2.2.2.2.2.2.2,.box 0 (ndA false x.2.2.2.2.2.2.1),.q (Au x.1.rd (xC x)),.q (zI i)])∧∀(i_1:BX Unit),pxJ x.1 n (xC x) x.2.2.2.2.2.2.1 (min (x.2.2.2.2.2.2.2+(4:Int)) (40:Int)) (zBW i) (zI i) {rules:=i_1.1,chunks:=i_1.2.1,spans:=i_1.2.2.1,ties:=i_1.2.2.2.1,text:=i_1.2.2.2.2.1}→(0≤zI i∧zI i<(x.2.2.2.2.2.2.1.kids.length:Int))∧∀(e:Int),x.2.2.2.2.2.2.1.kids[Int.toNat (zI i)]? =some e→inR .i64 (x.2.2.2.2.2.2.2+(4:Int))∧cA (CN n) [.box 0 [nds x.1.ns,.q x.1.ind,oRu i_1.1,oCh i_1.2.1,oSn i_1.2.2.1,oTi i_1.2.2.2.1,.str i_1.2.2.2.2.1,.bool !x.1.rd],.q e,.q (x.2.2.2.2.2.2.2+(4:Int))] fun x_2 y=>true=true∧true=true∧(0≤zI i∧zI i<(x.2.2.2.2.2.2.1.kids.length:Int))∧∀(e:Int),x.2.2.2.2.2.2.1.kids[Int.toNat (zI i)]? =some e→(0≤e∧e<(x_2.1.ns.length:Int))∧∀(e_1:Nd),x_2.1.ns[Int.toNat e]? =some e_1→Aa (e_1.kind==8) (cA IZ [(suA x_2.1 (yBW y)),.q (i_1.1.length:Int),.q (Au x.1.rd (xC x))] fun x_3 y=>inR .i64 (zI i+1)∧eN (RA n x) i [(suA x_3.1 (yBW y)),.q x.2.2.2.2.2.2.2,.box 0 (ndA false x.2.2.2.2.2.2.1),.q (Au x.1.rd (xC x)),.q (zI i+1)]) (inR .i64 (zI i+1)∧eN (RA n x) i [(suA x_2.1 (yBW y)),.q x.2.2.2.2.2.2.2,.box 0 (ndA false x.2.2.2.2.2.2.1),.q (Au x.1.rd (xC x)),.q (zI i+1)])) (rA (Pq n) x [.tup [],(suA x.1 (zBW i)),.top,.top])) (fun x=>by kernel_rfl) fun(x:BC×BX (Nd×Int)) (hx:pxP x.1 n (xC x) x.2.2.2.2.2.2.1 x.2.2.2.2.2.2.2)=>(by
 dsimp only[cA,CC,eA,eN,Br,nds,oCh,oRu,oSn,oTi,RA,VD,rA,CB,Pq,Cd,EK,DS,IZ,CN,CD,suA,CE,As,Az,mvL,lnL,mvE,lnE,mvG,mvH,lnG,lnH,Bl,AV.q]
 obtain⟨b,r,c,s,t,u,x,a⟩:=x;dsimp only[xC] at hx ⊢
 have hx:pxP b n ⟨r,c,s,t,u⟩ x a:=hx
 have h1:=hx.ar.1;have h2:=hx.pn.kl
 (repeat' first|(with_reducible first|rfl|exact True.intro|apply AK|apply And.intro|((first|apply AA|apply AI|apply AB|apply AJ)<;>intro _))|(apply Av<;>intro _)|apply AH|refine Ae () ?_ ?_|((first|apply AO|apply AN|apply AM|apply AL|apply AG|apply AF|apply AE|apply AD|apply AC)<;>try dsimp only)|apply Ae|(refine Prod.forall.2 ?_;intro _;try dsimp only)|(intro _;try dsimp only))
 all_goals(try(repeat(rename x.kids[_]? =some _=>hq;revert hq;rename x.kids[_]? =some _=>hr;intro hq;rw[hr] at hq;cases hq)))
 all_goals(try dsimp only[yBW,xC,zBW,zI,wB] at*)
 all_goals first
  |with_reducible rfl
  |with_reducible assumption
  |omega
  |exact DD hx.pn.rm
  |exact a8b hx.pn ‹_›
  |exact c3T ‹_› ‹_›
  |exact c3V ‹_› ‹_› ‹_›
  |exact c3W ‹_› ‹_› ‹_› ‹_› ‹_› ‹_›
  |exact c3Y ‹_› hx ‹_›
  |exact c3Z ‹_› ‹_› hx ‹_›
  |exact c4b ‹_› ‹_› hx ‹_› ‹_› ‹_›
  |exact c4c ‹_› ‹_› ‹_› hx ‹_› ‹_› ‹_›
  |exact c4d ‹_› hx.pn ‹_›
  |(have hq:=Vd ‹pnI _ _ _ _ _ _ _›;(try have hk:=a9T hx ‹_›);(try simp only[An,List.length_cons,List.length_nil]);omega)
  |(have hq:=c3U ‹_› ‹_› ‹_›;have hq2:=(a0Z ‹_› ‹_›).2;dsimp only at hq;(try simp only[An,List.length_append,List.length_cons,List.length_nil]);omega)
  |(have hq:=c4a ‹pxJ _ _ _ _ _ _ _ _› hx.pn ‹_›;(try simp only[An]);omega)
  |(have hq:=c3X ‹pxJ _ _ _ _ _ _ _ _›;dsimp only at hq;(try simp only[An]);omega)
  |exact()
  |rfl
  |skip)
end Go.My
end
section
namespace Go.My
open Go.Eng Go.Proofs
variable {G:GInv}
variable {a d i k:Int}{c:BC}{e x:Nd}{n:Nat}{ns:List Nd}{q s t u v w:Bs}
structure cxP (c:BC) (n:Nat) (s:Bs) (x:Nd) (a:Int):Prop where
 cn:cnP c n s x (min (a+4) 40)
 ar:inA a x.kids
def RB(n:Nat):Sig:= {X:=BC×List Ru×List Ch×List Sn×List Ti×List UInt8×Nd×Int,args:=fun x=>[suA x.1 (xC x),.agg (ndA false x.2.2.2.2.2.2.1),.int .i64 x.2.2.2.2.2.2.2],pre:=fun x=>cxP x.1 n (xC x) x.2.2.2.2.2.2.1 x.2.2.2.2.2.2.2,Y:=BT,post:=fun x y=>isB (Kf x.1.ns x.1.rd (bV x.1.ns x.1.rd n) x.2.2.2.2.2.2.1 (min (x.2.2.2.2.2.2.2+4) 40) (xC x)) (yBW y),res:=fun x y=> .tup [],outs:=fun x y=>[suA x.1 (yBW y),.top,.top],keep:=true}
theorem Gc(h:vsP ns n s k a):vlP ns n s k (min a 40):=⟨h.up,h.lt,h.vl,h.rm,by have:=h.ar;have:=BB.1 h.up.1;omega⟩
theorem RC(h:vsP ns n s k a){ks:List Int}(hk:∀d∈ks,d∈(Ab ns k).kids):inA a ks:=by
 have h1:=h.ar;have h2:=BB.1 h.up.1
 refine⟨by omega,fun d hd=> ?_⟩
 have:=FC h.up (hk d hd);omega
theorem a1E(h:vsP ns (n+1) s k a)(hd:(Ab ns k).kids[(0:Nat)]? =some d)(hv:vlP ns n t d (min a 40)):vsP ns n t d a:=by
 have h1:=h.ar;have h2:=BB.1 h.up.1
 have:=FC h.up (Bm hd)
 exact⟨hv.up,hv.lt,hv.vl,hv.rm,by omega,by omega⟩
theorem Ng(h:vsQ c n s k a t):Cf c n s k (min a 40) (Ia c.rd (Ab c.ns k) s) t:=⟨h,rfl⟩
theorem Kp{o:Int}(h:Cf c (n+1) s k (min a 40) o t):vsQ c (n+1) s k a t:=h.1
theorem Pr(h:0≤a):min (min a 40+4) 40=min (a+4) 40:=by omega
theorem c4f(h:isB (Aq (Ab c.ns k).text s) t)(hk:(Ab c.ns k).kind=1∨(Ab c.ns k).kind=2∨(Ab c.ns k).kind=3):vsQ c (n+1) s k a t:=by
 have:=Kp (a1e (c:=c) (n:=n) (s:=s) (a:=min a 40) hk)
 rw[←h] at this;exact this
theorem c4g(h:vsP c.ns (n+1) s k a)(ht:isB (Aq [40] s) t)(hd:(Ab c.ns k).kids[(0:Nat)]? =some d):vsP c.ns n t d a:=by
 rw[ht];exact a1E h hd (a8y (Gc h) hd)
theorem c4h(hu:vsQ c n t d a u)(ht:isB (Aq [40] s) t)(h:vsP c.ns (n+1) s k a)(hd:(Ab c.ns k).kids[(0:Nat)]? =some d):u.text.length+79≤2^61:=by
 rw[ht] at hu;exact a8z (Gc h) (Ng hu) hd
theorem c4i(hv:isB (Aq [41] u) v)(hu:vsQ c n t d a u)(ht:isB (Aq [40] s) t)(hd:(Ab c.ns k).kids[(0:Nat)]? =some d)(hk:(Ab c.ns k).kind=11):vsQ c (n+1) s k a v:=by
 rw[ht] at hu
 have:=Kp (a8A (r1:=u.rules) (r2:=u.chunks) (r3:=u.spans) (r4:=u.ties) (r5:=u.text) (Ng hu) hd hk)
 rw[hv];exact this
theorem c4j(h:vsP c.ns (n+1) s k a)(hd:(Ab c.ns k).kids[(0:Nat)]? =some d):vsP c.ns n s d a:=a1E h hd (a8B (Gc h) hd)
theorem c4k(hu:vsQ c n s d a u)(h:vsP c.ns (n+1) s k a)(hd:(Ab c.ns k).kids[(0:Nat)]? =some d):u.text.length+(Ab c.ns k).text.length+79≤2^61:=a8C (Gc h) (Ng hu) hd
theorem c4l(hv:isB (Aq (46::(Ab c.ns k).text) u) v)(hu:vsQ c n s d a u)(hd:(Ab c.ns k).kids[(0:Nat)]? =some d)(hk:(Ab c.ns k).kind=6):vsQ c (n+1) s k a v:=by
 rw[hv];exact Kp (a8D (Ng hu) hd hk)
theorem c4m(h:vsP c.ns (n+1) s k a):lsP c n s [91] (Ab c.ns k).kids [93] a:=⟨a8E (Gc h),RC h fun _ hd=>hd⟩
theorem c4n(hu:isB (Eg c.rd (bV c.ns c.rd n) [91] (Ab c.ns k).kids [93] (min a 40) s) u)(hk:(Ab c.ns k).kind=4):vsQ c (n+1) s k a u:=Kp (a8F hu hk)
theorem c4o(hu:vsQ c n s d a u)(h:vsP c.ns (n+1) s k a)(hd:(Ab c.ns k).kids[(0:Nat)]? =some d):lsP c n u [40] ((Ab c.ns k).kids.drop 1) [41] a:=⟨a8G (Gc h) (Ng hu) hd,RC h fun _ hd=>List.mem_of_mem_drop hd⟩
theorem c4p(hv:isB (Eg c.rd (bV c.ns c.rd n) [40] ((Ab c.ns k).kids.drop 1) [41] (min a 40) u) v)(hu:vsQ c n s d a u)(hd:(Ab c.ns k).kids[(0:Nat)]? =some d)(hk:(Ab c.ns k).kind=5):vsQ c (n+1) s k a v:=Kp (a8H hv (Ng hu) hd hk)
theorem c4q(h:vsP c.ns (n+1) s k a)(hk:(Ab c.ns k).kind=7):cxP c n s (Ab c.ns k) a:=⟨by have:=a8I (Gc h) hk;rwa [Pr h.ar.1] at this,RC h fun _ hd=>hd⟩
theorem c4r(hu:isB (Kf c.ns c.rd (bV c.ns c.rd n) (Ab c.ns k) (min (a+4) 40) s) u)(h:vsP c.ns (n+1) s k a)(hk:(Ab c.ns k).kind=7):vsQ c (n+1) s k a u:=
 Kp (a8J (o:=Au c.rd s) ⟨by rw[Pr h.ar.1];exact hu,rfl⟩ hk)
theorem c4s(h:vsP c.ns (n+1) s k a)(hk:(Ab c.ns k).kind=8):pxP c n s (Ab c.ns k) a:=⟨by have:=a8K (Gc h) hk;rwa [Pr h.ar.1] at this,RC h fun _ hd=>hd⟩
theorem c4t(hu:isB (Lj c.ns c.rd (bV c.ns c.rd n) (Ab c.ns k) (min (a+4) 40) s) u)(h:vsP c.ns (n+1) s k a)(hk:(Ab c.ns k).kind=8):vsQ c (n+1) s k a u:=
 Kp (a8L (o:=Au c.rd s) ⟨by rw[Pr h.ar.1];exact hu,rfl⟩ hk)
def fxI(c:BC)(s:Bs)(x:Nd)(i:Int)(t:Bs):Prop:=(0≤i∧i≤(fnT x).length)∧t=Aq (40::Fr c.ns ((fnT x).take i.toNat) true) s
theorem a9V{ns:List Nd}:∀ {l:List Int} {b:Bool} {k:Int},Fr ns (l++[k]) b=Fr ns l b++((if l=[]∧b=true then [] else [44,32])++(Ab ns k).text)
 |[],b,k=>by cases b<;>simp [Fr]
 |c::l,b,k=>by
  rw[List.cons_append,Fr,Fr,a9V (l:=l) (b:=false)]
  simp
theorem c4u(h:isB (Aq [40] s) t):fxI c s x 0 t:=⟨by omega,by rw[h];rfl⟩
theorem a9W(hI:fxI c s x i t)(hk:(fnT x)[i.toNat]? =some k)(he:c.ns[k.toNat]? =some e)(hu:u=Aq e.text (if i>0 then Aq [44,32] t else t)):fxI c s x (i+1) u:=by
 have hl:=(Ek hk).1
 refine⟨by have:=hI.1;omega,?_⟩
 rw[hu,hI.2,Dd hI.1.1,ED hk,a9V,BA he]
 by_cases e0:i>0
 ·have:(fnT x).take i.toNat≠[]:=by
   intro h;have h3:((fnT x).take i.toNat).length=0:=by rw[h];rfl
   rw[List.length_take] at h3;omega
  rw[if_pos e0,if_neg (by simp [this])];simp [Aq]
 ·have:(fnT x).take i.toNat=[]:=by rw[show i.toNat=0 by have:=hI.1;omega];rfl
  rw[if_neg e0,if_pos ⟨this,rfl⟩];simp [Aq]
theorem c4v(hI:fxI c s x i t)(hu:isB (Aq e.text w) u)(hw:isB (Aq [44,32] t) w)(hk:(fnT x)[i.toNat]? =some k)(he:c.ns[k.toNat]? =some e)(hi:i>0):fxI c s x (i+1) u:=a9W hI hk he (by rw[if_pos hi,←hw];exact hu)
theorem c4w(hI:fxI c s x i t)(hu:isB (Aq e.text t) u)(hk:(fnT x)[i.toNat]? =some k)(he:c.ns[k.toNat]? =some e)(hi:¬i>0):fxI c s x (i+1) u:=a9W hI hk he (by rw[if_neg hi];exact hu)
theorem c4x(hu:isB (Aq [41,32,61,62] t) u)(hI:fxI c s x i t)(hi:¬i<(fnT x).length):u=Aq (DJ c.ns x++[32,61,62]) s:=by
 have h2:=hI.2
 rw[List.take_of_length_le (by omega)] at h2
 rw[hu,h2,DJ,fnT];simp [Aq]
theorem VE(hI:fxI c s x i t)(hx:fnP c n s x a):t.text.length≤s.text.length+420:=by
 have h1:=QZ (ns:=c.ns) (w:=fun _=>30) (l:=(fnT x).take i.toNat) (first:=true) fun k hk=>by
  have:=List.mem_of_mem_take hk
  exact hx.nm k (List.mem_of_mem_take this) this
 have h2:=a0r (w:=fun _=>30) (b:=30) (l:=(fnT x).take i.toNat) fun _ _=>by omega
 have h3:= @MW x;have h4:=hx.kl
 have h5:((fnT x).take i.toNat).length≤(fnT x).length:=by rw[List.length_take];omega
 rw[hI.2];simp only[Aq,List.length_append,List.length_cons];omega
theorem Kq(h:vsP c.ns (n+1) s k a)(hk:(Ab c.ns k).kind=9):fnP c n s (Ab c.ns k) (min (a+4) 40):=by
 have:=a8M (Gc h) hk;rwa [Pr h.ar.1] at this
theorem a9X{r:Int}(h:isB (Ba r 1 true (a+4) s) t):t=Ba r 1 true (min (a+4) 40) s:=by rw[h];exact Po (by omega)
theorem RD{i:Nat}(h:vsP c.ns (n+1) s k a)(hd:(Ab c.ns k).kids[i]? =some d):a+4+4*d≤2^40:=(RC h fun _ hd=>hd).2 d (Bm hd)
theorem c4y(hu:isB (Ba (Au c.rd q) 1 true (a+4) t) u)(ht:t=Bo c.rd 2 2 q)(hq:q=Aq (DJ c.ns (Ab c.ns k)++[32,61,62]) s)(h:vsP c.ns (n+1) s k a)(hd:(Ab c.ns k).kids[(((Ab c.ns k).kids.length:Int)-1).toNat]? =some d)(hk:(Ab c.ns k).kind=9):vsP c.ns n u d (a+4):=by
 subst hq
 exact a1D (a8t (a9X hu) ht (Kq h hk) hd) h.ar.1 (RD h hd)
theorem c4z(hv:vsQ c n u d (a+4) v)(hu:isB (Ba (Au c.rd q) 1 true (a+4) t) u)(ht:t=Bo c.rd 2 2 q)(hq:q=Aq (DJ c.ns (Ab c.ns k)++[32,61,62]) s)(h:vsP c.ns (n+1) s k a)(hd:(Ab c.ns k).kids[(((Ab c.ns k).kids.length:Int)-1).toNat]? =some d)(hk:(Ab c.ns k).kind=9):vsQ c (n+1) s k a v:=by
 subst hq
 have h1:=a8u (Nf hv) (a9X hu) ht (Kq h hk) hd
 refine Kp (a8N ?_ hk)
 rw[Pr h.ar.1];exact h1
theorem c4A(ht:t=Bo c.rd 2 1 s)(h:vsP c.ns (n+1) s k a)(hd:(Ab c.ns k).kids[(0:Nat)]? =some d):vsP c.ns n t d a:=a1E h hd (a8O ht (Gc h) hd)
theorem c4B(hu:vsQ c n t d a u)(ht:t=Bo c.rd 2 1 s)(h:vsP c.ns (n+1) s k a)(hd:(Ab c.ns k).kids[(0:Nat)]? =some d):vaI c n s k (min a 40) 0 u:=a8P (Ng hu) ht (Gc h) hd
def cbI(c:BC)(n:Nat)(s:Bs)(k a:Int)(i:Int)(t:Bs):Prop:=1≤i∧vaI c n s k (min a 40) (i-1) t
theorem c4C(hu:vsQ c n t d a u)(ht:t=Bo c.rd 2 1 s)(h:vsP c.ns (n+1) s k a)(hd:(Ab c.ns k).kids[(0:Nat)]? =some d):cbI c n s k a 1 u:=⟨by omega,c4B hu ht h hd⟩
theorem VF(hi:1≤i)(hd:(Ab c.ns k).kids[i.toNat]? =some d):((Ab c.ns k).kids.drop 1)[(i-1).toNat]? =some d:=by
 rw[List.getElem?_drop,show 1+(i-1).toNat=i.toNat by omega];exact hd
theorem c4D(h:cbI c n s k a i t)(hx:vsP c.ns (n+1) s k a):1≤i∧i≤14:=by
 have:=a8Q h.2;have:=a8R (Gc hx);have:=h.1;omega
theorem a1F(h:cbI c n s k a i t)(hi:i<(Ab c.ns k).kids.length):∃d,(Ab c.ns k).kids[i.toNat]? =some d:=by
 have:=h.1
 exact⟨_,List.getElem?_eq_getElem (by omega)⟩
theorem c4E(h:cbI c n s k a i t)(hi:i<(Ab c.ns k).kids.length):bB t:=by
 obtain⟨d,hd⟩:=a1F h hi;exact a8T h.2 (VF h.1 hd)
theorem a1G{r:Int}(ha:0≤a)(h:isB (Ba r 1 false (a+4) s) t):t=Ba r 1 false (min (min a 40+4) 40) s:=by rw[h];exact Po (by omega)
theorem c4F(hu:isB (Ba (Au c.rd s) 1 false (a+4) t) u)(h:cbI c n s k a i t)(hx:vsP c.ns (n+1) s k a)(hi:i<(Ab c.ns k).kids.length):u.text.length+4≤2^61:=by
 obtain⟨d,hd⟩:=a1F h hi;exact a8V h.2 (a1G hx.ar.1 hu) (VF h.1 hd)
theorem c4G(hw:isB (Aq [46,46] u) w)(hu:isB (Ba (Au c.rd s) 1 false (a+4) t) u)(h:cbI c n s k a i t)(hx:vsP c.ns (n+1) s k a)(hd:(Ab c.ns k).kids[i.toNat]? =some d):vsP c.ns n w d (a+4):=by
 have:=a8W h.2 (a1G hx.ar.1 hu) (Gc hx) (VF h.1 hd)
 rw[hw];exact a1z this hx.ar.1 (RD hx hd)
theorem c4H(hv:vsQ c n w d (a+4) v)(hw:isB (Aq [46,46] u) w)(hu:isB (Ba (Au c.rd s) 1 false (a+4) t) u)(h:cbI c n s k a i t)(hx:vsP c.ns (n+1) s k a)(hd:(Ab c.ns k).kids[i.toNat]? =some d):cbI c n s k a (i+1) v:=by
 rw[hw] at hv
 have:=a8X h.2 (VF h.1 hd) (a1G hx.ar.1 hu) (a1A hv hx.ar.1) (Gc hx)
 exact⟨by have:=h.1;omega,by rw[show i+1-1=i-1+1 by omega];exact this⟩
theorem c4I(h:cbI c n s k a i t)(hx:vsP c.ns (n+1) s k a)(hi:¬i<(Ab c.ns k).kids.length)(hk:(Ab c.ns k).kind=10):vsQ c (n+1) s k a t:=by
 have h1:=h.1
 exact Kp (a8Y h.2 (Gc hx) (by rw[List.length_drop];omega) hk)
theorem k10(h:vsP c.ns n s k a)(hk:(((((((((¬(Ab c.ns k).kind=1∧¬(Ab c.ns k).kind=2)∧¬(Ab c.ns k).kind=3)∧¬(Ab c.ns k).kind=11)∧¬(Ab c.ns k).kind=6)∧¬(Ab c.ns k).kind=4)∧¬(Ab c.ns k).kind=5)∧¬(Ab c.ns k).kind=7)∧¬(Ab c.ns k).kind=8)∧¬(Ab c.ns k).kind=9)):(Ab c.ns k).kind=10:=by
 have hv:=BW.1 h.vl
 unfold Bc at hv
 omega
theorem RE(h0:0≤i)(hi:i<(x.kids.length:Int)-1)(hk:x.kids[i.toNat]? =some k):(fnT x)[i.toNat]? =some k:=by
 rw[fnT,List.getElem?_take,if_pos (by omega)];exact hk
theorem a9Y{i:Nat}(hx:fnP c n s x a)(hk:(fnT x)[i]? =some k)(he:c.ns[k.toNat]? =some e):e.text.length≤30:=by
 have:=hx.nm k (a8o hk) (Bm hk)
 rwa [BA he] at this
theorem c4J(hI:fxI c s x i t)(hu:isB (Aq e.text w) u)(hw:isB (Aq [44,32] t) w)(hk:x.kids[i.toNat]? =some k)(he:c.ns[k.toNat]? =some e)(hl:i<(x.kids.length:Int)-1)(hi:i>0):fxI c s x (i+1) u:=c4v hI hu hw (RE hI.1.1 hl hk) he hi
theorem c4K(hI:fxI c s x i t)(hu:isB (Aq e.text t) u)(hk:x.kids[i.toNat]? =some k)(he:c.ns[k.toNat]? =some e)(hl:i<(x.kids.length:Int)-1)(hi:¬i>0):fxI c s x (i+1) u:=c4w hI hu (RE hI.1.1 hl hk) he hi
theorem VG(hu:isB (Aq [41,32,61,62] t) u)(hI:fxI c s x i t)(hi:¬i<(x.kids.length:Int)-1):u=Aq (DJ c.ns x++[32,61,62]) s:=c4x hu hI (by have:=hI.1;rw[MW] at this ⊢;omega)
theorem c4L(hu:isB (Aq [41,32,61,62] t) u)(hI:fxI c s (Ab c.ns k) i t)(hi:¬i<((Ab c.ns k).kids.length:Int)-1)(h:vsP c.ns (n+1) s k a)(hk:(Ab c.ns k).kind=9):bB u:=by
 rw[VG hu hI hi];exact DD (Vf (Kq h hk))
theorem c4M(ht:u=Bo c.rd 2 2 q)(hu:isB (Aq [41,32,61,62] t) q)(hI:fxI c s (Ab c.ns k) i t)(hi:¬i<((Ab c.ns k).kids.length:Int)-1)(h:vsP c.ns (n+1) s k a)(hk:(Ab c.ns k).kind=9):bB u:=by
 rw[VG hu hI hi] at ht;exact a8s ht (Kq h hk)
theorem c4N(hu:isB (Ba (Au c.rd q) 1 true (a+4) t) u)(ht:t=Bo c.rd 2 2 q)(hw:isB (Aq [41,32,61,62] w) q)(hI:fxI c s (Ab c.ns k) i w)(hi:¬i<((Ab c.ns k).kids.length:Int)-1)(h:vsP c.ns (n+1) s k a)(hd:(Ab c.ns k).kids[(((Ab c.ns k).kids.length:Int)-1).toNat]? =some d)(hk:(Ab c.ns k).kind=9):vsP c.ns n u d (a+4):=c4y hu ht (VG hw hI hi) h hd hk
theorem c4O(hv:vsQ c n u d (a+4) v)(hu:isB (Ba (Au c.rd q) 1 true (a+4) t) u)(ht:t=Bo c.rd 2 2 q)(hw:isB (Aq [41,32,61,62] w) q)(hI:fxI c s (Ab c.ns k) i w)(hi:¬i<((Ab c.ns k).kids.length:Int)-1)(h:vsP c.ns (n+1) s k a)(hd:(Ab c.ns k).kids[(((Ab c.ns k).kids.length:Int)-1).toNat]? =some d)(hk:(Ab c.ns k).kind=9):vsQ c (n+1) s k a v:=c4z hv hu ht (VG hw hI hi) h hd hk
theorem a1H(h:fxI c s x i t):0≤i∧i≤x.kids.length:=by have:=h.1;have:= @MW x;omega
theorem c4P(h:fxI c s x i t)(hi:i<(x.kids.length:Int)-1):x.kids.length-(i+1).toNat<x.kids.length-i.toNat:=by have:=h.1;omega
theorem c4Q(hw:isB (Aq [44,32] t) w)(hI:fxI c s x i t)(hx:fnP c n s x a):w.text.length≤s.text.length+422:=by
 have:=VE hI hx
 have h2:=a9S hw
 simp only[List.length_cons,List.length_nil] at h2;omega
theorem a9Z(hx:fnP c n s x a)(hI:fxI c s x i t)(hi:i<(x.kids.length:Int)-1)(hk:x.kids[i.toNat]? =some k)(he:c.ns[k.toNat]? =some e):e.text.length≤30:=a9Y hx (RE hI.1.1 hi hk) he
attribute [local irreducible] fxI cbI
def vaC(n:Nat)(x:BC×List Ru×List Ch×List Sn×List Ti×List UInt8×Int×Int)(i:List Ru×List Ch×List Sn×List Ti×List UInt8×Int):LS:= {ι:=List Ru×List Ch×List Sn×List Ti×List UInt8×Unit,inv:=fun j=>fxI x.1 (xC x) (Ab x.1.ns x.2.2.2.2.2.2.1) (zI i+1) ⟨j.1,j.2.1,j.2.2.1,j.2.2.2.1,j.2.2.2.2.1⟩,regs:=fun j=>[(0,suA x.1 ⟨j.1,j.2.1,j.2.2.1,j.2.2.2.1,j.2.2.2.2.1⟩),(2,.int .i64 x.2.2.2.2.2.2.2),(6,.box 0 (ndA false (Ab x.1.ns x.2.2.2.2.2.2.1))),(7,.int .i64 (((Ab x.1.ns x.2.2.2.2.2.2.1).kids.length:Int)-1)),(8,.int .i64 (zI i))],als:=[],meas:=fun _=>0}
def vaN(n:Nat)(x:BC×List Ru×List Ch×List Sn×List Ti×List UInt8×Int×Int):LS:= {ι:=List Ru×List Ch×List Sn×List Ti×List UInt8×Int,inv:=fun i=>fxI x.1 (xC x) (Ab x.1.ns x.2.2.2.2.2.2.1) (zI i) (zBW i),regs:=fun i=>[(0,suA x.1 (zBW i)),(2,.int .i64 x.2.2.2.2.2.2.2),(6,.box 0 (ndA false (Ab x.1.ns x.2.2.2.2.2.2.1))),(7,.int .i64 (((Ab x.1.ns x.2.2.2.2.2.2.1).kids.length:Int)-1)),(8,.int .i64 (zI i))],als:=[],meas:=fun i=>(Ab x.1.ns x.2.2.2.2.2.2.1).kids.length-(zI i).toNat,sub:=fun i=>[(100038,vaC n x i)]}
def vaL(n:Nat)(x:BC×List Ru×List Ch×List Sn×List Ti×List UInt8×Int×Int):LS:= {ι:=List Ru×List Ch×List Sn×List Ti×List UInt8×Int,inv:=fun i=>cbI x.1 n (xC x) x.2.2.2.2.2.2.1 x.2.2.2.2.2.2.2 (zI i) (zBW i),regs:=fun i=>[(0,suA x.1 (zBW i)),(2,.int .i64 x.2.2.2.2.2.2.2),(6,.box 0 (ndA false (Ab x.1.ns x.2.2.2.2.2.2.1))),(9,.int .i64 (Au x.1.rd (xC x))),(10,.int .i64 (zI i))],als:=[],meas:=fun i=>(Ab x.1.ns x.2.2.2.2.2.2.1).kids.length-(zI i).toNat}
def Ht(n:Nat):Sig:= {X:=BC×BX (Int×Int),args:=fun x=>[suA x.1 (xC x),.q x.2.2.2.2.2.2.1,.q x.2.2.2.2.2.2.2],pre:=fun x=>vsP x.1.ns (n+1) (xC x) x.2.2.2.2.2.2.1 x.2.2.2.2.2.2.2,Y:=BT,post:=fun x y=>vsQ x.1 (n+1) (xC x) x.2.2.2.2.2.2.1 x.2.2.2.2.2.2.2 (yBW y),res:=fun x y=> .tup [],outs:=fun x y=>[suA x.1 (yBW y),.top,.top],keep:=true}
def a1I(n:Nat)(x:BC×BX (Int×Int))(i:BX Int):Prop:=∀(i_1:BX Unit),fxI x.1 (xC x) (Ab x.1.ns x.2.2.2.2.2.2.1) (zI i+1) {rules:=i_1.1,chunks:=i_1.2.1,spans:=i_1.2.2.1,ties:=i_1.2.2.2.1,text:=i_1.2.2.2.2.1}→inR .i64 (zI i+1)∧(eN (vaN n x) i [.box 0 [nds x.1.ns,.q x.1.ind,oRu i_1.1,oCh i_1.2.1,oSn i_1.2.2.1,oTi i_1.2.2.2.1,.str i_1.2.2.2.2.1,.bool !x.1.rd],.q x.2.2.2.2.2.2.2,.box 0 (ndA false (Ab x.1.ns x.2.2.2.2.2.2.1)),.q ((↑((Ab x.1.ns x.2.2.2.2.2.2.1).kids.length):Int)-(1:Int)),.q (zI i+1)])
def a1J(n:Nat)(x:BC×BX (Int×Int))(i:BX Int)(x_2:Cd.X)(y:Cd.Y):Prop:=(0≤zI i∧zI i<(↑((Ab x.1.ns x.2.2.2.2.2.2.1).kids.length):Int))∧(∀(e:Int),(Ab x.1.ns x.2.2.2.2.2.2.1).kids[Int.toNat (zI i)]? =some e→(0≤e∧e<(x_2.1.ns.length:Int))∧(∀(e_1:Nd),x_2.1.ns[Int.toNat e]? =some e_1→cA Cd [(suA x_2.1 (yBW y)),.str e_1.text] fun x_3 y=>true=true∧(eA (vaC n x i) [(suA x_3.1 (yBW y)),.q x.2.2.2.2.2.2.2,.box 0 (ndA false (Ab x.1.ns x.2.2.2.2.2.2.1)),.q ((↑((Ab x.1.ns x.2.2.2.2.2.2.1).kids.length):Int)-(1:Int)),.q (zI i)])))
def a1K(n:Nat)(x:BC×BX (Int×Int))(i:BX Int):Prop:=(0≤zI i∧zI i<(↑((Ab x.1.ns x.2.2.2.2.2.2.1).kids.length):Int))∧(∀(e:Int),(Ab x.1.ns x.2.2.2.2.2.2.1).kids[Int.toNat (zI i)]? =some e→(0≤e∧e<(x.1.ns.length:Int))∧(∀(e_1:Nd),x.1.ns[Int.toNat e]? =some e_1→cA Cd [(suA x.1 (zBW i)),.str e_1.text] fun x_2 y=>true=true∧(eA (vaC n x i) [(suA x_2.1 (yBW y)),.q x.2.2.2.2.2.2.2,.box 0 (ndA false (Ab x.1.ns x.2.2.2.2.2.2.1)),.q ((↑((Ab x.1.ns x.2.2.2.2.2.2.1).kids.length):Int)-(1:Int)),.q (zI i)])))
set_option maxHeartbeats 8000000 in
theorem c4R(n:Nat)(hc:Ai G Go.Proofs.Tryz.prog 49 (CN n))(hch:Ai G Go.Proofs.Tryz.prog 87 (RB n)):Ai G Tryz.prog 49 (Ht n):=
 vcFun_okP [(50,0,Cd),(49,0,(CN n)),(48,0,EK),(47,0,DS),(86,0,(Lx n)),(87,0,(RB n)),(88,0,(Pq n))] [] false (fun x=>[(5,vaL n x),(34,vaN n x)]) Tryz.func49 rfl (by decide) ⟨Pp,hc,Rw,Ry,(c3S n hc),hch,(c4e n hc),trivial⟩ (fun(x:BC×BX (Int×Int))=>True∧(0≤x.2.2.2.2.2.2.1∧x.2.2.2.2.2.2.1<(x.1.ns.length:Int))∧∀(e:Nd),x.1.ns[Int.toNat x.2.2.2.2.2.2.1]? =some e→Aa (e.kind==1) (cA Cd [(suA x.1 (xC x)),.str e.text] fun x_1 y=>rA (Ht n) x [.tup [],(suA x_1.1 (yBW y)),.top,.top]) (Aa (e.kind==2) (cA Cd [(suA x.1 (xC x)),.str e.text] fun x_1 y=>rA (Ht n) x [.tup [],(suA x_1.1 (yBW y)),.top,.top]) (Aa (e.kind==3) (cA Cd [(suA x.1 (xC x)),.str e.text] fun x_1 y=>rA (Ht n) x [.tup [],(suA x_1.1 (yBW y)),.top,.top]) (Aa (e.kind==11) (cA Cd [(suA x.1 (xC x)),.str #[(40:UInt8)].toList] fun x_1 y=>((0:Int)≤(0:Int)∧0<(e.kids.length:Int))∧∀(e_1:Int),e.kids[(0:Nat)]? =some e_1→cA (CN n) [(suA x_1.1 (yBW y)),.q e_1,.q x.2.2.2.2.2.2.2] fun x_2 y=>cA Cd [(suA x_2.1 (yBW y)),.str #[(41:UInt8)].toList] fun x_3 y=>rA (Ht n) x [.tup [],(suA x_3.1 (yBW y)),.top,.top]) (Aa (e.kind==6) (((0:Int)≤(0:Int)∧0<(e.kids.length:Int))∧∀(e_1:Int),e.kids[(0:Nat)]? =some e_1→cA (CN n) [(suA x.1 (xC x)),.q e_1,.q x.2.2.2.2.2.2.2] fun x_1 y=>(↑((1:Nat)+e.text.length):Int)≤Ag∧cA Cd [(suA x_1.1 (yBW y)),.str (#[(46:UInt8)].toList++e.text)] fun x_2 y=>rA (Ht n) x [.tup [],(suA x_2.1 (yBW y)),.top,.top]) (Aa (e.kind==4) (cA (Lx n) [(suA x.1 (xC x)),.str #[(91:UInt8)].toList,AQ e.kids,.str #[(93:UInt8)].toList,.q x.2.2.2.2.2.2.2] fun x_1 y=>rA (Ht n) x [.tup [],(suA x_1.1 (yBW y)),.top,.top]) (Aa (e.kind==5) (((0:Int)≤(0:Int)∧0<(e.kids.length:Int))∧∀(e_1:Int),e.kids[(0:Nat)]? =some e_1→cA (CN n) [(suA x.1 (xC x)),.q e_1,.q x.2.2.2.2.2.2.2] fun x_1 y=>((0:Int)≤(1:Int)∧1≤(e.kids.length:Int)∧(e.kids.length:Int)≤(e.kids.length:Int))∧cA (Lx n) [(suA x_1.1 (yBW y)),.str #[(40:UInt8)].toList,AQ (List.drop (1:Nat) e.kids),.str #[(41:UInt8)].toList,.q x.2.2.2.2.2.2.2] fun x_2 y=>rA (Ht n) x [.tup [],(suA x_2.1 (yBW y)),.top,.top]) (Aa (e.kind==7) (cA (RB n) [(suA x.1 (xC x)),.agg (ndA false e),.q x.2.2.2.2.2.2.2] fun x_1 y=>rA (Ht n) x [.tup [],(suA x_1.1 (yBW y)),.top,.top]) (Aa (e.kind==8) (cA (Pq n) [(suA x.1 (xC x)),.agg (ndA false e),.q x.2.2.2.2.2.2.2] fun x_1 y=>rA (Ht n) x [.tup [],(suA x_1.1 (yBW y)),.top,.top]) (Aa (e.kind==9) (cA Cd [(suA x.1 (xC x)),.str #[(40:UInt8)].toList] fun x_1 y=>inR .i64 ((e.kids.length:Int)-(1:Int))∧eA (vaN n x) [(suA x_1.1 (yBW y)),.q x.2.2.2.2.2.2.2,.box 0 (ndA false e),.q ((e.kids.length:Int)-(1:Int)),.q 0]∧∀(i:BX Int),fxI x.1 (xC x) (Ab x.1.ns x.2.2.2.2.2.2.1) (zI i) (zBW i)→Aa (decide (zI i<(↑((Ab x.1.ns x.2.2.2.2.2.2.1).kids.length):Int)-(1:Int))) (Aa (decide (zI i>0)) (cA Cd [(suA x.1 (zBW i)),.str #[(44:UInt8),32].toList] fun x_2 y=>true=true∧((a1J n x i x_2 y)∧(a1J n x i x_2 y))∧(a1I n x i)) (true=true∧((a1K n x i)∧(a1K n x i))∧(a1I n x i))) (cA Cd [(suA x.1 (zBW i)),.str #[(41:UInt8),32,61,62].toList] fun x_2 y=>cA EK [(suA x_2.1 (yBW y)),.q 2,.q 2] fun x_3 y=>inR .i64 (x.2.2.2.2.2.2.2+(4:Int))∧cA DS [(suA x_3.1 (yBW y)),.q (Au x_3.1.rd (xC x_3)),.q 1,.bool true,.q (x.2.2.2.2.2.2.2+(4:Int))] fun x_4 y=>(0≤(↑((Ab x.1.ns x.2.2.2.2.2.2.1).kids.length):Int)-(1:Int)∧(↑((Ab x.1.ns x.2.2.2.2.2.2.1).kids.length):Int)-1<(↑((Ab x.1.ns x.2.2.2.2.2.2.1).kids.length):Int))∧∀(e:Int),(Ab x.1.ns x.2.2.2.2.2.2.1).kids[Int.toNat ((↑((Ab x.1.ns x.2.2.2.2.2.2.1).kids.length):Int)-(1:Int))]? =some e→inR .i64 (x.2.2.2.2.2.2.2+(4:Int))∧cA (CN n) [(suA x_4.1 (yBW y)),.q e,.q (x.2.2.2.2.2.2.2+(4:Int))] fun x_5 y=>rA (Ht n) x [.tup [],(suA x_5.1 (yBW y)),.top,.top])) (cA EK [(suA x.1 (xC x)),.q 2,.q 1] fun x_1 y=>((0:Int)≤(0:Int)∧0<(e.kids.length:Int))∧∀(e_1:Int),e.kids[(0:Nat)]? =some e_1→cA (CN n) [(suA x_1.1 (yBW y)),.q e_1,.q x.2.2.2.2.2.2.2] fun x_2 y=>eA (vaL n x) [(suA x_2.1 (yBW y)),.q x.2.2.2.2.2.2.2,.box 0 (ndA false e),.q (Au x_1.1.rd (xC x_1)),.q 1]∧∀(i:BX Int),cbI x.1 n (xC x) x.2.2.2.2.2.2.1 x.2.2.2.2.2.2.2 (zI i) (zBW i)→Aa (decide (zI i<(↑((Ab x.1.ns x.2.2.2.2.2.2.1).kids.length):Int))) (inR .i64 (x.2.2.2.2.2.2.2+(4:Int))∧cA DS [(suA x.1 (zBW i)),.q (Au x.1.rd (xC x)),.q 1,.bool false,.q (x.2.2.2.2.2.2.2+(4:Int))] fun x_3 y=>cA Cd [(suA x_3.1 (yBW y)),.str #[(46:UInt8),46].toList] fun x_4 y=>(0≤zI i∧zI i<(↑((Ab x.1.ns x.2.2.2.2.2.2.1).kids.length):Int))∧∀(e:Int),(Ab x.1.ns x.2.2.2.2.2.2.1).kids[Int.toNat (zI i)]? =some e→inR .i64 (x.2.2.2.2.2.2.2+(4:Int))∧cA (CN n) [(suA x_4.1 (yBW y)),.q e,.q (x.2.2.2.2.2.2.2+(4:Int))] fun x_5 y=>inR .i64 (zI i+1)∧eN (vaL n x) i [(suA x_5.1 (yBW y)),.q x.2.2.2.2.2.2.2,.box 0 (ndA false (Ab x.1.ns x.2.2.2.2.2.2.1)),.q (Au x.1.rd (xC x)),.q (zI i+1)]) (rA (Ht n) x [.tup [],(suA x.1 (zBW i)),.top,.top])))))))))))) (fun x=>by kernel_rfl) fun(x:BC×BX (Int×Int)) (hx:vsP x.1.ns (n+1) (xC x) x.2.2.2.2.2.2.1 x.2.2.2.2.2.2.2)=>(by
 dsimp only[a1K,a1J,a1I,cA,CC,eA,eN,AQ,Br,nds,oCh,oRu,oSn,oTi,rA,CB,RB,Lx,Pq,Cd,EK,DS,CN,Ht,CD,suA,CE,vaC,vaL,vaN,As,Az,mvL,lnL,mvE,lnE,mvG,mvH,lnG,lnH,Bl,Ag,AV.q]
 obtain⟨b,r,c,s,t,u,k,a⟩:=x;dsimp only[xC] at hx ⊢
 have hx:vsP b.ns (n+1) ⟨r,c,s,t,u⟩ k a:=hx
 have h1:=hx.ar;have hr:=BB.1 hx.up.1;have hv:=Gc hx
 have hz:=a8v hv;have h1t:=a8w hv;have hkl:=Lu hv;dsimp only at h1t
 simp only[hz,Option.some.injEq,forall_eq']
 (repeat' first|(with_reducible first|rfl|exact True.intro|apply AK|apply And.intro|((first|apply AA|apply AI|apply AB|apply AJ)<;>intro _))|(apply Av<;>intro _)|apply AH|refine Ae () ?_ ?_|((first|apply AO|apply AN|apply AM|apply AL|apply AG|apply AF|apply AE|apply AD|apply AC)<;>try dsimp only)|apply Ae|(refine Prod.forall.2 ?_;intro _;try dsimp only)|(intro _;try dsimp only))
 all_goals(try dsimp only[yBW,xC,zBW,zI,wB] at*)
 all_goals first
  |with_reducible rfl
  |with_reducible assumption
  |omega
  |exact c4f ‹_› (by omega)
  |exact c4g hx ‹_› ‹_›
  |exact c4i ‹_› ‹_› ‹_› ‹_› ‹_›
  |exact c4j hx ‹_›
  |exact c4l ‹_› ‹_› ‹_› ‹_›
  |exact c4m hx
  |exact c4n ‹_› ‹_›
  |exact c4o ‹_› hx ‹_›
  |exact c4p ‹_› ‹_› ‹_› ‹_›
  |exact c4q hx ‹_›
  |exact c4r ‹_› hx ‹_›
  |exact c4s hx ‹_›
  |exact c4t ‹_› hx ‹_›
  |exact DD (Kn hv)
  |exact c4u ‹_›
  |exact c4J ‹_› ‹_› ‹_› ‹_› ‹_› ‹_› ‹_›
  |exact c4K ‹_› ‹_› ‹_› ‹_› ‹_› ‹_›
  |exact c4L ‹_› ‹_› ‹_› hx ‹_›
  |exact c4M ‹_› ‹_› ‹_› ‹_› hx ‹_›
  |exact c4N ‹_› ‹_› ‹_› ‹_› ‹_› hx ‹_› ‹_›
  |exact c4O ‹_› ‹_› ‹_› ‹_› ‹_› ‹_› hx ‹_› ‹_›
  |exact c4A ‹_› hx ‹_›
  |exact c4C ‹_› ‹_› hx ‹_›
  |exact c4E ‹_› ‹_›
  |exact c4G ‹_› ‹_› ‹_› hx ‹_›
  |exact c4H ‹_› ‹_› ‹_› ‹_› hx ‹_›
  |exact c4I ‹_› hx ‹_› (k10 hx (by omega))
  |((try simp only[An,List.length_append,List.length_cons,List.length_nil]);omega)
  |(have hq:=a1d hv ‹_› ‹_› ‹_› (by first|assumption|omega);(try simp only[An]);omega)
  |(have hq:=c4h ‹_› ‹_› hx ‹_›;dsimp only at hq;(try simp only[An,List.length_append,List.length_cons,List.length_nil]);omega)
  |(have hq:=c4k ‹_› hx ‹_›;dsimp only at hq;(try simp only[An,List.length_append,List.length_cons,List.length_nil]);omega)
  |(have hq:=a1H ‹fxI _ _ _ _ _›;(try simp only[An]);omega)
  |(have hq:=a1H ‹fxI _ _ _ _ _›;have hf:=Kq hx ‹_›;have hk:=RE hq.1 ‹_› ‹_›;have hd:=a8p hf hk;(try simp only[An]);omega)
  |(have hq:=a1H ‹fxI _ _ _ _ _›;have hf:=Kq hx ‹_›;have hl:=VE ‹fxI _ _ _ _ _› hf;have hk:=RE hq.1 ‹_› ‹_›;have he:=a9Y hf hk ‹_›;dsimp only at hl;(try simp only[An,List.length_append,List.length_cons,List.length_nil]);omega)
  |(have hf:=Kq hx ‹_›;have hl:=VE ‹fxI _ _ _ _ _› hf;dsimp only at hl;(try simp only[An,List.length_append,List.length_cons,List.length_nil]);omega)
  |(have hq:=c4D ‹cbI _ _ _ _ _ _ _› hx;(try have hk:=RD hx ‹_›);(try simp only[An]);omega)
  |(have hq:=a1F ‹cbI _ _ _ _ _ _ _› ‹_›;obtain⟨d,hd⟩:=hq;have hk:=RD hx hd;have hm:=FC hx.up (Bm hd);(try simp only[An]);omega)
  |(have hq:=c4F ‹_› ‹_› hx ‹_›;dsimp only at hq;(try simp only[An,List.length_append,List.length_cons,List.length_nil]);omega)
  |(have hk:=RD hx ‹_›;have hm:=FC hx.up (Bm ‹(Ab b.ns k).kids[_]? =some _›);(try simp only[An]);omega)
  |exact c4P ‹_› ‹_›
  |(have hf:=Kq hx ‹_›;have hw:=c4Q ‹_› ‹_› hf;have he:=a9Z hf ‹_› ‹_› ‹_› ‹_›;dsimp only at hw;omega)
  |(have hf:=Kq hx ‹_›;have hw:=VE ‹_› hf;have he:=a9Z hf ‹_› ‹_› ‹_› ‹_›;dsimp only at hw;omega)
  |exact()
  |rfl
  |skip)
end Go.My
end
section
namespace Go.My
open Go.Eng Go.Proofs
variable {G:GInv}
variable {b:UInt8}{ind k:Int}{n:Nat}{ns:List Nd}{post pre s:List UInt8}{t v:Bs}
theorem Nh{ns:List Nd}{n:Nat}{k ind:Int}{pre post:List UInt8}(h:(Cx ns k=0∨(BG ns k=true∧Bf (Bc ns k)=false))∨(inn ind 0 60=false∨((pre.length:Int)>40∨(post.length:Int)>40))∨(BD pre=false∨BD post=false)):pfR ns n k pre post ind=pc0∧Di ns k pre post ind=false:=by
 refine Rp ?_
 rcases h with(h|h)|(h|h|h)|(h|h)
 ·exact .inl (.inl (.inl (by simp [Ca,h])))
 ·exact .inl (.inl (.inl (by simp [Ca,h.2])))
 ·exact .inl (.inl (.inr h))
 ·exact .inl (.inr (by rw[Em,decide_eq_false (by omega)];rfl))
 ·exact .inr (by rw[Em,decide_eq_false (by omega)];rfl)
 ·exact .inl (.inr (by simp [Em,h]))
 ·exact .inr (by simp [Em,h])
theorem c4S{ns:List Nd}{n:Nat}{k ind:Int}{pre post:List UInt8}{e:Nd}(hd:¬Cx ns k=0)(he:ns[k.toNat]? =some e)(hv:Bf e.kind=true)(hi:inn ind 0 60=true)(h1:¬(pre.length:Int)>40)(h2:¬(post.length:Int)>40)(h3:BD pre=true)(h4:BD post=true):(Ca ns k=true∧Em pre=true)∧Em post=true:=by
 have h0:= @XJ ns k
 refine⟨⟨?_,by simp [Em,h3];omega⟩,by simp [Em,h4];omega⟩
 simp only[Ca,Bool.and_eq_true,decide_eq_true_eq]
 exact⟨(KT hd).1,by rw[Gb he];exact hv,by omega⟩
def isP(p q:Pc):Prop:=q=p
theorem b0a(h:s≠[])(hb:s[((s.length:Int)-1).toNat]? =some b):((b.toNat:Int)==61)=CU s:=by
 have hl:0<s.length:=List.length_pos_iff.2 h
 rw[show((s.length:Int)-1).toNat=s.length-1 by omega] at hb
 rw[CU,List.getLast?_eq_getElem?,hb,Bool.eq_iff_iff]
 simp only[beq_iff_eq,Option.some.injEq]
 constructor
 ·intro e
  have h4:(61:UInt8).toNat=61:=rfl
  exact UInt8.toNat_inj.1 (by omega)
 ·intro e;rw[e];rfl
theorem c4T{u:Bs}(ht:isB (Ba (Au true (b00 pre)) 1 true 4 u) t)(hu:u=Bo true 2 2 (b00 pre))(he:CU pre=true)(h:bdQ ns n k pre post ind)(hk:k≤2^30):vsP ns n t k 0:=by
 have:=a9b ht hu he h
 exact⟨this.up,this.lt,this.vl,this.rm,by omega⟩
theorem c4U(he:CU pre=false)(h:bdQ ns n k pre post ind)(hk:k≤2^30):vsP ns n (b00 pre) k 0:=by
 have:=a9c he h
 exact⟨this.up,this.lt,this.vl,this.rm,by omega⟩
theorem c4V{u:Bs}(hv:vsQ ⟨ind,ns,true⟩ n t k 0 v)(ht:isB (Ba (Au true (b00 pre)) 1 true 4 u) t)(hu:u=Bo true 2 2 (b00 pre))(he:CU pre=true):v=Cu ns n k pre:=a9d (ind:=ind) (o:=Ia true (Ab ns k) t) ⟨hv,rfl⟩ ht hu he
theorem c4W(hv:vsQ ⟨ind,ns,true⟩ n (b00 pre) k 0 v)(he:CU pre=false):v=Cu ns n k pre:=a9e (ind:=ind) (o:=Ia true (Ab ns k) (b00 pre)) ⟨hv,rfl⟩ he
theorem c4X{w:Bs}(hw:isB (Aq post v) w)(hv:v=Cu ns n k pre):isP (bdP ns n k pre post ind) ⟨ind,w.rules,w.chunks++[⟨w.text,0,0,false,0⟩],w.spans,w.ties⟩:=by
 rw[isP,bdP,Kl,←hv,hw];rfl
theorem b0b(hv:v=Cu ns n k pre)(hx:bdQ ns n k pre post ind):v.chunks.length≤79∧v.text.length≤2^61:=by
 rw[hv];have:=UQ hx;exact⟨this.1.ch,IT (DD this)⟩
theorem c4Y{w:Bs}(hw:isB (Aq post v) w)(hv:v=Cu ns n k pre)(hx:bdQ ns n k pre post ind):w.chunks.length≤79:=by
 have:=(b0b hv hx).1
 rw[hw];exact this
theorem c4Z{ns:List Nd}{n:Nat}{k ind:Int}{pre post:List UInt8}{e:Nd}(hd:¬Cx ns k=0)(he:ns[k.toNat]? =some e)(hv:Bf e.kind=false):pfR ns n k pre post ind=pc0∧Di ns k pre post ind=false:=Nh (.inl (.inr ⟨(KT hd).1,by rw[Gb he];exact hv⟩))
theorem c5a(h:¬(pre.length:Int)>40):bB (b00 pre):=a1i (by omega)
theorem c5b(ht:t=Bo true 2 2 (b00 pre))(h:¬(pre.length:Int)>40):bB t:=a9a ht (by omega)
theorem c5c(h:pfP ns n k pre post)(hd:¬Cx ns k=0):(0≤k∧k<ns.length)∧k≤2^30:=by
 have:=BB.1 (KT hd).1
 have:=h.l30
 omega
theorem c5d(h:s=[]):CU s=false:=by rw[h];rfl
theorem c5e{ns:List Nd}{n:Nat}{k:Int}{e:Nd}(hd:¬Cx ns k=0)(he:ns[k.toNat]? =some e)(hv:Bf e.kind=true):Ca ns k=true:=by
 have h0:= @XJ ns k
 simp only[Ca,Bool.and_eq_true,decide_eq_true_eq]
 exact⟨(KT hd).1,by rw[Gb he];exact hv,by omega⟩
theorem c5f{ns:List Nd}{k:Int}(hd:Cx ns k=0):Ca ns k=false:=by simp [Ca,hd]
theorem c5g{ns:List Nd}{k:Int}{e:Nd}(he:ns[k.toNat]? =some e)(hv:Bf e.kind=false):Ca ns k=false:=by simp [Ca,Gb he,hv]
theorem c5h(h3:ns.length≤n)(h4:Ca ns k=true→tW ns n k≤2^60)(h:Ca ns k=true)(h2:ns.length≤2^30):vsP ns n (b00 []) k 0:=by
 have hv:=Vn h
 have hr:=BB.1 hv.1.1
 have:=a9f (ns:=ns) (n:=n) (k:=k) ⟨hv.1,by omega,hv.2,h4 h⟩
 exact⟨this.up,this.lt,this.vl,this.rm,by omega⟩
theorem c5i{e:Nd}(hx:pfP ns n k pre post)(hd:Cx ns k≠0)(he:ns[k.toNat]? =some e)(hv:Bf e.kind=true)(hi:inn ind 0 60=true)(h1:¬(pre.length:Int)>40)(h2:¬(post.length:Int)>40)(h3:BD pre=true)(h4:BD post=true):bdQ ns n k pre post ind∧Di ns k pre post ind=true∧pfR ns n k pre post ind=bdP ns n k pre post ind:=by
 have hT:= @c4S ns n k ind pre post e hd he hv hi h1 h2 h3 h4
 have:=a1k (n:=n) hT.1.1 hi hT.1.2 hT.2
 exact⟨Vo hx hT.1.1 hi hT.1.2 hT.2,this.2,this.1⟩
theorem c5j(h:(s==[])=false)(hb:s[((s.length:Int)-1).toNat]? =some b)(h61:(b.toNat:Int)=61):CU s=true:=by
 rw[←b0a (by intro e;rw[e] at h;cases h) hb];simp [h61]
theorem c5k(h:(s==[])=true):CU s=false:=c5d (by simpa using h)
theorem c5l(h:(s==[])=false)(hb:s[((s.length:Int)-1).toNat]? =some b)(h61:(b.toNat:Int)≠61):CU s=false:=by
 rw[←b0a (by intro e;rw[e] at h;cases h) hb];simp only[beq_eq_false_iff_ne,ne_eq];exact h61
theorem c5m(h:(s==[])=false):0<s.length:=List.length_pos_iff.2 (by intro e;rw[e] at h;cases h)
theorem b0c{p:Pc}(h:isP (bdP ns n k pre post ind) p):p=bdP ns n k pre post ind:=h
def VH(n:Nat):Sig:= {X:=List Nd×Int×List UInt8×List UInt8×Int,args:=fun x=>[nds x.1,.q x.2.1,.str x.2.2.1,.str x.2.2.2.1,.q x.2.2.2.2],pre:=fun x=>pfP x.1 n x.2.1 x.2.2.1 x.2.2.2.1,Y:=Unit,post:=fun x y=>True,res:=fun x y=> .tup [.agg (pcA true (pfR x.1 n x.2.1 x.2.2.1 x.2.2.2.1 x.2.2.2.2)),.bool (Di x.1 x.2.1 x.2.2.1 x.2.2.2.1 x.2.2.2.2)],outs:=fun x y=>[.top,.top,.top,.top,.top],keep:=false}
def c5n(n:Nat)(x:List Nd×Int×List UInt8×List UInt8×Int):LS:= {ι:=BT,inv:=fun j=>isP (bdP x.1 n x.2.1 x.2.2.1 x.2.2.2.1 x.2.2.2.2) ⟨x.2.2.2.2,j.1,j.2.1,j.2.2.1,j.2.2.2.1⟩∧bdQ x.1 n x.2.1 x.2.2.1 x.2.2.2.1 x.2.2.2.2∧Di x.1 x.2.1 x.2.2.1 x.2.2.2.1 x.2.2.2.2=true,regs:=fun j=>[(10,.box 0 (pcA true pc0)),(12,suA ⟨x.2.2.2.2,x.1,true⟩ (yBW j))],als:=[],meas:=fun _=>0}
def RF(n:Nat)(x:List Nd×Int×List UInt8×List UInt8×Int)(x_7:Cd.X)(y:Cd.Y):Prop:=∃(x_8:Ch),(yBW y).text=x_8.text∧0=x_8.rule∧0=x_8.fr∧false=x_8.space∧0=x_8.nest∧(∃(zs:List Ch),oCh [x_8]=oCh zs∧(BI chA∧(Bb ((yBW y).chunks.length+zs.length) (48:Nat)∧(true=true∧(∃(i:BT),(isP (bdP x.1 n x.2.1 x.2.2.1 x.2.2.2.1 x.2.2.2.2) {ind:=x.2.2.2.2,rules:=i.1,chunks:=i.2.1,spans:=i.2.2.1,ties:=i.2.2.2.1}∧bdQ x.1 n x.2.1 x.2.2.1 x.2.2.2.1 x.2.2.2.2∧Di x.1 x.2.1 x.2.2.1 x.2.2.2.1 x.2.2.2.2=true)∧((0=pc0.ind∧pc0.rules=[]∧pc0.chunks=[]∧pc0.spans=[]∧pc0.ties=[]∧nds x_7.1.ns=nds x.1∧x_7.1.ind=x.2.2.2.2∧oRu (yBW y).rules=oRu (yBW i).rules∧oCh ((yBW y).chunks++zs)=oCh (yBW i).chunks∧oSn (yBW y).spans=oSn (yBW i).spans∧oTi (yBW y).ties=oTi (yBW i).ties∧(yBW y).text=(yBW i).text∧(!x_7.1.rd)=false∧True)∧True))))))
def Jz(n:Nat)(x:List Nd×Int×List UInt8×List UInt8×Int):Prop:=∃(y:Unit),True∧0=(pfR x.1 n x.2.1 x.2.2.1 x.2.2.2.1 x.2.2.2.2).ind∧((pfR x.1 n x.2.1 x.2.2.1 x.2.2.2.1 x.2.2.2.2).rules=[]∧((pfR x.1 n x.2.1 x.2.2.1 x.2.2.2.1 x.2.2.2.2).chunks=[]∧((pfR x.1 n x.2.1 x.2.2.1 x.2.2.2.1 x.2.2.2.2).spans=[]∧((pfR x.1 n x.2.1 x.2.2.1 x.2.2.2.1 x.2.2.2.2).ties=[]∧false=Di x.1 x.2.1 x.2.2.1 x.2.2.2.1 x.2.2.2.2∧True))))
def RG(n:Nat)(x:List Nd×Int×List UInt8×List UInt8×Int)(x_9:Cd.X)(y:Cd.Y):Prop:=∃(x_10:Ch),(yBW y).text=x_10.text∧0=x_10.rule∧0=x_10.fr∧false=x_10.space∧0=x_10.nest∧(∃(zs:List Ch),oCh [x_10]=oCh zs∧(BI chA∧(Bb ((yBW y).chunks.length+zs.length) (48:Nat)∧(true=true∧(∃(i:BT),(isP (bdP x.1 n x.2.1 x.2.2.1 x.2.2.2.1 x.2.2.2.2) {ind:=x.2.2.2.2,rules:=i.1,chunks:=i.2.1,spans:=i.2.2.1,ties:=i.2.2.2.1}∧bdQ x.1 n x.2.1 x.2.2.1 x.2.2.2.1 x.2.2.2.2∧Di x.1 x.2.1 x.2.2.1 x.2.2.2.1 x.2.2.2.2=true)∧((0=pc0.ind∧pc0.rules=[]∧pc0.chunks=[]∧pc0.spans=[]∧pc0.ties=[]∧nds x_9.1.ns=nds x.1∧x_9.1.ind=x.2.2.2.2∧oRu (yBW y).rules=oRu (yBW i).rules∧oCh ((yBW y).chunks++zs)=oCh (yBW i).chunks∧oSn (yBW y).spans=oSn (yBW i).spans∧oTi (yBW y).ties=oTi (yBW i).ties∧(yBW y).text=(yBW i).text∧(!x_9.1.rd)=false∧True)∧True))))))
def a1L(n:Nat)(x:List Nd×Int×List UInt8×List UInt8×Int):Prop:=cA (CN n) [.box 0 [nds x.1,.q x.2.2.2.2,.nil,.nil,.nil,.nil,.str x.2.2.1,.bool false],.q x.2.1,.q 0] fun x_6 y=>cA Cd [(suA x_6.1 (yBW y)),.str x.2.2.2.1] fun x_7 y=>true=true∧(((RF n x x_7 y)∧((RF n x x_7 y)∧((RF n x x_7 y)∧(RF n x x_7 y))))∧(∀(i:BT),isP (bdP x.1 n x.2.1 x.2.2.1 x.2.2.2.1 x.2.2.2.2) {ind:=x.2.2.2.2,rules:=i.1,chunks:=i.2.1,spans:=i.2.2.1,ties:=i.2.2.2.1}∧bdQ x.1 n x.2.1 x.2.2.1 x.2.2.2.1 x.2.2.2.2∧Di x.1 x.2.1 x.2.2.1 x.2.2.2.1 x.2.2.2.2=true→cA Dm [.agg [.q x.2.2.2.2,oRu (yBW i).rules,oCh (yBW i).chunks,oSn (yBW i).spans,oTi (yBW i).ties]] fun x_8 y=>Aa (!Dc x_8) (Jz n x) (∃(y:Unit),True∧x.2.2.2.2=(pfR x.1 n x.2.1 x.2.2.1 x.2.2.2.1 x.2.2.2.2).ind∧oRu (yBW i).rules=oRu (pfR x.1 n x.2.1 x.2.2.1 x.2.2.2.1 x.2.2.2.2).rules∧oCh (yBW i).chunks=oCh (pfR x.1 n x.2.1 x.2.2.1 x.2.2.2.1 x.2.2.2.2).chunks∧oSn (yBW i).spans=oSn (pfR x.1 n x.2.1 x.2.2.1 x.2.2.2.1 x.2.2.2.2).spans∧oTi (yBW i).ties=oTi (pfR x.1 n x.2.1 x.2.2.1 x.2.2.2.1 x.2.2.2.2).ties∧true=Di x.1 x.2.1 x.2.2.1 x.2.2.2.1 x.2.2.2.2∧True)))
set_option maxHeartbeats 8000000 in
theorem c5o(n:Nat)(hv:Ai G Go.Proofs.Tryz.prog 49 (CN n)):Ai G Tryz.prog 11 (VH n):=
 vcFun_okP [(44,0,Hb),(34,0,DW),(45,0,BU),(46,0,Ko),(48,0,EK),(47,0,DS),(49,0,(CN n)),(50,0,Cd),(13,0,Dm)] [(28,⟨Ch,chA⟩)] false (fun x=>[(100008,c5n n x)]) Tryz.func11 rfl (by decide) ⟨Yu,Qt,Ir,a9K,Rw,Ry,hv,Pp,a1v,trivial⟩ (fun(x:List Nd×Int×List UInt8×List UInt8×Int)=>(∀(y:Unit),True→((True∧(∀(x:Ru),True∧True∧True)∧(∀(x:Ch),True∧True∧True∧True∧True∧True)∧(∀(x:Sn),True∧True∧True∧True)∧(∀(x:Ti),True∧True∧True)∧True)∧True∧True)∧True∧True∧True∧True∧True∧True)∧cA Hb [nds x.1,.q x.2.1] fun x_1 y=>Aa (Cx x_1.1 x_1.2==(0:Int)) (Jz n x) ((0≤x.2.1∧x.2.1<(x.1.length:Int))∧∀(e:Nd),x.1[Int.toNat x.2.1]? =some e→cA DW [.q e.kind] fun x_2 y=>Aa (!Bf x_2) (Jz n x) (cA BU [.q x.2.2.2.2,.q 0,.q 60] fun x_3 y=>Aa (!inn x_3.1 x_3.2.1 x_3.2.2) (Jz n x) (Aa (decide ((x.2.2.1.length:Int)>(40:Int))) (Jz n x) (Aa (decide ((x.2.2.2.1.length:Int)>(40:Int))) (Jz n x) (cA Ko [.str x.2.2.1] fun x_4 y=>Aa (!BD x_4.1) (Jz n x) (cA Ko [.str x.2.2.2.1] fun x_5 y=>Aa (!BD x_5.1) (Jz n x) (Aa (!x.2.2.1== #[].toList) (inR .i64 ((x.2.2.1.length:Int)-(1:Int))∧(0≤(x.2.2.1.length:Int)-(1:Int)∧(x.2.2.1.length:Int)-1<(x.2.2.1.length:Int))∧∀(c:UInt8),x.2.2.1[Int.toNat ((x.2.2.1.length:Int)-(1:Int))]? =some c→Aa ((↑(UInt8.toNat c):Int)==(61:Int)) (cA EK [.box 0 [nds x.1,.q x.2.2.2.2,.nil,.nil,.nil,.nil,.str x.2.2.1,.bool false],.q 2,.q 2] fun x_6 y=>cA DS [(suA x_6.1 (yBW y)),.q (Au x_6.1.rd (xC x_6)),.q 1,.bool true,.q 4] fun x_7 y=>cA (CN n) [(suA x_7.1 (yBW y)),.q x.2.1,.q 0] fun x_8 y=>cA Cd [(suA x_8.1 (yBW y)),.str x.2.2.2.1] fun x_9 y=>true=true∧((RG n x x_9 y)∧(RG n x x_9 y)∧(RG n x x_9 y)∧(RG n x x_9 y))∧∀(i:BT),isP (bdP x.1 n x.2.1 x.2.2.1 x.2.2.2.1 x.2.2.2.2) {ind:=x.2.2.2.2,rules:=i.1,chunks:=i.2.1,spans:=i.2.2.1,ties:=i.2.2.2.1}∧bdQ x.1 n x.2.1 x.2.2.1 x.2.2.2.1 x.2.2.2.2∧Di x.1 x.2.1 x.2.2.1 x.2.2.2.1 x.2.2.2.2=true→cA Dm [.agg [.q x.2.2.2.2,oRu (yBW i).rules,oCh (yBW i).chunks,oSn (yBW i).spans,oTi (yBW i).ties]] fun x_10 y=>Aa (!Dc x_10) (Jz n x) (∃(y:Unit),True∧x.2.2.2.2=(pfR x.1 n x.2.1 x.2.2.1 x.2.2.2.1 x.2.2.2.2).ind∧oRu (yBW i).rules=oRu (pfR x.1 n x.2.1 x.2.2.1 x.2.2.2.1 x.2.2.2.2).rules∧oCh (yBW i).chunks=oCh (pfR x.1 n x.2.1 x.2.2.1 x.2.2.2.1 x.2.2.2.2).chunks∧oSn (yBW i).spans=oSn (pfR x.1 n x.2.1 x.2.2.1 x.2.2.2.1 x.2.2.2.2).spans∧oTi (yBW i).ties=oTi (pfR x.1 n x.2.1 x.2.2.1 x.2.2.2.1 x.2.2.2.2).ties∧true=Di x.1 x.2.1 x.2.2.1 x.2.2.2.1 x.2.2.2.2∧True)) (a1L n x)) (a1L n x))))))))) (fun x=>by kernel_rfl) fun(x:List Nd×Int×List UInt8×List UInt8×Int) (hx:pfP x.1 n x.2.1 x.2.2.1 x.2.2.2.1)=>(by
 dsimp only[a1L,RG,Jz,RF,cA,CC,Br,nds,oCh,oRu,oSn,oTi,pcA,CB,BU,DW,Dm,Ko,Hb,Cd,EK,DS,CN,CD,suA,CE,As,Az,mvL,lnL,mvE,lnE,mvG,mvH,lnG,lnH,AV.q]
 obtain⟨ns,k,pre,post,ind⟩:=x;dsimp only at hx ⊢
 have hx:pfP ns n k pre post:=hx
 (repeat' first|refine UH ?_|refine Vk ⟨ind,ns,true⟩ ?_|refine Re (bdP ns n k pre post ind) ?_|(with_reducible first|rfl|exact True.intro|apply AK|apply And.intro|((first|apply AA|apply AI|apply AB|apply AJ)<;>intro _))|(apply Av<;>intro _)|apply AH|refine Ae () ?_ ?_|((first|apply AO|apply AN|apply AM|apply AL|apply AG|apply AF|apply AE|apply AD|apply AC)<;>try dsimp only)|apply Ae|(refine Prod.forall.2 ?_;intro _;try dsimp only)|(intro _;try dsimp only))
 all_goals(try dsimp only[yBW,xC,zBW,zI,wB] at*)
 all_goals(try(have hkk:=c5c hx ‹_›))
 all_goals(try(have hQQ:=c5i (ind:=ind) hx ‹Cx ns k≠0› ‹ns[k.toNat]? =some _› ‹_› ‹_› ‹¬(pre.length:Int)>40› ‹¬(post.length:Int)>40› ‹_› ‹_›;have hQ:=hQQ.1))
 all_goals(try(first
  |(have hF:= @Nh ns n k ind pre post (.inl (.inl ‹_›)))
  |(have hF:= @c4Z ns n k ind pre post _ ‹_› ‹_› ‹_›)
  |(have hF:= @Nh ns n k ind pre post (.inr (.inl (.inl ‹_›))))
  |(have hF:= @Nh ns n k ind pre post (.inr (.inl (.inr (.inl ‹_›)))))
  |(have hF:= @Nh ns n k ind pre post (.inr (.inl (.inr (.inr ‹_›)))))
  |(have hF:= @Nh ns n k ind pre post (.inr (.inr (.inl ‹_›))))
  |(have hF:= @Nh ns n k ind pre post (.inr (.inr (.inr ‹_›))))))
 all_goals(try(first|(have hE:CU pre=true:=c5j ‹_› ‹_› ‹_›)|(have hE:CU pre=false:=c5k ‹_›)|(have hE:CU pre=false:=c5l ‹_› ‹_› ‹_›)))
 all_goals(try(have hZ:=c5m ‹(pre==[])=false›))
 all_goals(try(first|(have hA:=c4V (ind:=ind) ‹_› ‹_› ‹_› hE)|(have hA:=c4W (ind:=ind) ‹_› hE)))
 all_goals(try(have hL:=b0b hA hQ;dsimp only at hL))
 all_goals(try(have hW:=c4Y ‹isB (Aq post _) _› hA hQ;dsimp only at hW))
 all_goals first
  |with_reducible rfl
  |with_reducible assumption
  |omega
  |exact hx.ok
  |exact hx.ok.1
  |exact hx.l30
  |(rw[hF.1];done)
  |(rw[hF.1];rfl)
  |exact hF.2.symm
  |exact c5a ‹_›
  |exact c5b ‹_› ‹_›
  |exact c4T ‹_› ‹_› hE hQ hkk.2
  |exact c4U hE hQ hkk.2
  |exact c4X ‹_› hA
  |exact hQ
  |exact hQQ.2.1
  |(have hq:= ‹isP _ _∧_›.1;have e:=b0c hq;first|exact congrArg Pc.ind e|exact congrArg Pc.rules e|exact congrArg Pc.chunks e|exact congrArg Pc.spans e|exact congrArg Pc.ties e)
  |exact US ‹isP _ _∧bdQ _ _ _ _ _ _∧_›.2.1
  |(exfalso;rename Dc _=false=>hf;rw[UR ‹isP _ _∧bdQ _ _ _ _ _ _∧_›.2.1] at hf;cases hf)
  |(have hq:= ‹isP _ _∧bdQ _ _ _ _ _ _∧_›;have e:=b0c hq.1;have eR:=hQQ.2.2;rw[eR];first|exact congrArg Pc.ind e|exact(congrArg Pc.ind e).symm|exact congrArg Pc.rules e|exact(congrArg Pc.rules e).symm|exact congrArg Pc.chunks e|exact(congrArg Pc.chunks e).symm|exact congrArg Pc.spans e|exact(congrArg Pc.spans e).symm|exact congrArg Pc.ties e|exact(congrArg Pc.ties e).symm)
  |exact ‹isP _ _∧bdQ _ _ _ _ _ _∧Di ns k pre post ind=true›.2.2.symm
  |((try simp only[An,Bb,List.length_cons,List.length_nil]);omega)
  |rfl
  |exact()
  |skip)
def Ly(n:Nat):Sig:= {X:=List Nd×Int,args:=fun x=>[nds x.1,.q x.2],pre:=fun x=>(BH x.1∧x.1.length≤2^30)∧(x.1.length≤n∧(Ca x.1 x.2=true→tW x.1 n x.2≤2^60)),Y:=Unit,post:=fun x y=>True,res:=fun x y=> .str (if Ca x.1 x.2 then Dg x.1 n x.2 else []),outs:=fun x y=>[.top,.top],keep:=false}
theorem c5p(n:Nat)(hv:Ai G Go.Proofs.Tryz.prog 49 (CN n)):Ai G Tryz.prog 15 (Ly n):=
 vcFun_okP [(44,0,Hb),(34,0,DW),(49,0,(CN n))] [] false (fun x=>[]) Tryz.func15 rfl (by decide) ⟨Yu,Qt,hv,trivial⟩ (fun(x:List Nd×Int)=>(∀(y:Unit),True→True∧True∧True∧True)∧cA Hb [nds x.1,.q x.2] fun x_1 y=>Aa (Cx x_1.1 x_1.2==(0:Int)) (rA (Ly n) x [.str #[].toList,.top,.top]) ((0≤x.2∧x.2<(x.1.length:Int))∧∀(e:Nd),x.1[Int.toNat x.2]? =some e→cA DW [.q e.kind] fun x_2 y=>Aa (!Bf x_2) (rA (Ly n) x [.str #[].toList,.top,.top]) (cA (CN n) [.box 0 [nds x.1,.q 0,.nil,.nil,.nil,.nil,.str #[].toList,.bool true],.q x.2,.q 0] fun x_3 y=>rA (Ly n) x [.str (yBW y).text,.top,.top]))) (fun x=>by kernel_rfl) fun(x:List Nd×Int) (hx:(BH x.1∧x.1.length≤2^30)∧(x.1.length≤n∧(Ca x.1 x.2=true→tW x.1 n x.2≤2^60)))=>(by
 dsimp only[cA,CC,Br,nds,rA,CB,DW,Hb,CN,Ly,CD,suA,CE,As,Az,mvL,lnL,mvE,lnE,AV.q]
 obtain⟨ns,k⟩:=x;dsimp only at hx ⊢
 obtain⟨⟨h1,h2⟩,h3,h4⟩:=hx
 (repeat' first|refine Vk ⟨0,ns,false⟩ ?_|(with_reducible first|rfl|exact True.intro|apply AK|apply And.intro|((first|apply AA|apply AI|apply AB|apply AJ)<;>intro _))|(apply Av<;>intro _)|apply AH|refine Ae () ?_ ?_|((first|apply AO|apply AN|apply AM|apply AL|apply AG|apply AF|apply AE|apply AD|apply AC)<;>try dsimp only)|apply Ae|(refine Prod.forall.2 ?_;intro _;try dsimp only)|(intro _;try dsimp only))
 all_goals(try dsimp only[yBW,xC,zBW,zI,wB] at*)
 all_goals(try(have hkk:=BB.1 (KT ‹Cx ns k≠0›).1))
 all_goals(try(have hT:= @c5e ns n k _ ‹_› ‹_› ‹_›))
 all_goals(try(first|(have hF:= @c5f ns k ‹_›)|(have hF:= @c5g ns k _ ‹_› ‹_›)))
 all_goals first
  |with_reducible rfl
  |with_reducible assumption
  |omega
  |exact h1
  |exact h1.1
  |(rw[if_neg (by rw[hF];simp)];done)
  |exact c5h h3 h4 hT h2
  |(rw[if_pos hT];rename vsQ _ _ _ _ _ _=>hq;exact congrArg Bs.text hq)
  |rfl
  |skip)
end Go.My
end
