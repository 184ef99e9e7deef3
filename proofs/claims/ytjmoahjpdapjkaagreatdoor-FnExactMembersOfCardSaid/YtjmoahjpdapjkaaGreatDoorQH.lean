/- A part of the proof: the engine and the contracts, joined. -/
import Derived.Test.YtjmoahjpdapjkaaGreatDoorQG
section
set_option linter.unusedVariables false
set_option linter.unusedSimpArgs false
namespace Go.My
open Go.Eng Go.Proofs
variable {G:GInv}
theorem Lk{sg:List Sg}{f:Ps→PR}{x:Gs}{y:Int×Gs}(h:Af sg x f y)(hb:x.bad=false→x.deep≤20):y.2.bad=false→y.2.deep≤20:=fun hy=>by
 have:=CC h;have h2:=hb (this.2.2.2 hy).1;omega
theorem FE{sg:List Sg}{x:Gs}{m:List UInt8}(h:gsOk sg x):gsOk sg (Al sg x m)∧(Al sg x m).deep=x.deep∧x.pos≤(Al sg x m).pos∧((Al sg x m).bad=false→x.bad=false):=by
 obtain⟨a1,a2,a3,a4⟩:=(MB (m:=m) h).1
 refine⟨a1,a2,a3,fun hb=> ?_⟩
 cases hx:x.bad with
 |false=>rfl
 |true=>rw[DJ hx,CX hb] at a4;cases a4
theorem a9s{s:ST}{x:Gs}(h:rOk s x):rOk s (Al s.sg x [40]):=⟨h.1,(FE h.2).1⟩
theorem a9t{s:ST}{x:Gs}{one:Ps→PR}{l:List Int×Gs}(h:rOk s x)(hl:Bm s.sg (Al s.sg x [40]) (Bl s.sg one [41] (s.sg.length+1) []) l∧l.1.length≤3001):rOk s l.2:=⟨h.1,hl.1.1⟩
theorem a9u{s:ST}{x:Gs}{one:Ps→PR}{l:List Int×Gs}(h:rOk s x)(hl:Bm s.sg (Al s.sg x [40]) (Bl s.sg one [41] (s.sg.length+1) []) l∧l.1.length≤3001):rOk s (Al s.sg l.2 [41]):=⟨h.1,(FE hl.1.1).1⟩
theorem a0l{s:ST}{x:Gs}{n:Nat}{one:Ps→PR}{l:List Int×Gs}(h:rOk s x)(hd:x.deep≤20)(hq:isG s.sg x 4 [40]=true)(hn:12*((s.sg.length:Int)-x.pos)≤n+2)(hl:Bm s.sg (Al s.sg x [40]) (Bl s.sg one [41] (s.sg.length+1) []) l∧l.1.length≤3001):
 vP 10 n s (Al s.sg (Al s.sg l.2 [41]) [61,62]):=by
 have a:=FE (m:=[40]) h.2;have b:=FE (m:=[41]) hl.1.1;have c:=FE (m:=[61,62]) b.1
 have e1:=hl.1.2.1;have e2:=hl.1.2.2.1
 have e3:(Al s.sg x [40]).pos=x.pos+1:=by rw[Al,if_pos hq];rfl
 exact⟨⟨⟨h.1,c.1⟩,by omega⟩,by omega⟩
theorem Dq{s:ST}{x y:Gs}{f:Ps→PR}{z:Int×Gs}(h:rOk s x)(hz:Af s.sg y f z):rOk s z.2:=⟨h.1,Ey hz⟩
theorem a9v{s:ST}{x:Gs}{n:Nat}{l:List Int×Gs}{z:Int×Gs}(h:rOk s x)(hl:Bm s.sg (Al s.sg x [40]) (Bl s.sg (Bz s.sg) [41] (s.sg.length+1) []) l∧l.1.length≤3001)
 (hz:Af s.sg (Al s.sg (Al s.sg l.2 [41]) [61,62]) (pE s.sg n .pick) z):Af s.sg x (fnR s.sg n) (Ax z.2,Ag z.2 ⟨9,[],l.1++[z.1],false⟩):=a0f h.2 hl.1 hl.2 hz
theorem a0m{e:Int}{v:List (List UInt8)}(ha:[[[124,124]],[[38,38]],[[61,61]],[[60]],[[43],[45]],[[42]]][e.toNat]? =some v)(h0:0≤e)(h5:e≤5):v=Bu e.toNat:=by
 have:e=0∨e=1∨e=2∨e=3∨e=4∨e=5:=by omega
 rcases this with rfl|rfl|rfl|rfl|rfl|rfl<;>(simp at ha;rw[←ha];rfl)
theorem a0n{l:Nat}:(Bu l).length≤2:=by
 unfold Bu;split<;>simp
def mkP(sg:List Sg)(g:Gs)(l:Nat)(i:Int):Prop:=(0≤i∧i≤(Bu l).length)∧BC sg l g=(((Bu l).drop i.toNat).find? fun m=>isG sg g 4 m).getD []
theorem a9w{sg:List Sg}{g:Gs}{l:Nat}:mkP sg g l 0:=⟨by omega,rfl⟩
theorem a9x{sg:List Sg}{g:Gs}{l:Nat}{i:Int}{m:List UInt8}(h:mkP sg g l i)(ha:(Bu l)[i.toNat]? =some m)(hg:isG sg g 4 m=true):m=BC sg l g:=by
 rw[h.2,List.drop_eq_getElem_cons (List.getElem?_eq_some_iff.1 ha).1,(List.getElem?_eq_some_iff.1 ha).2,List.find?_cons_of_pos hg];rfl
theorem a9y{sg:List Sg}{g:Gs}{l:Nat}{i:Int}{m:List UInt8}(h:mkP sg g l i)(ha:(Bu l)[i.toNat]? =some m)(hg:isG sg g 4 m=false):mkP sg g l (i+1):=by
 have hlt:=(List.getElem?_eq_some_iff.1 ha).1
 obtain⟨h1,h2⟩:=h
 refine⟨by omega,?_⟩
 rw[h2,List.drop_eq_getElem_cons hlt,(List.getElem?_eq_some_iff.1 ha).2,List.find?_cons_of_neg (by simp [hg]),show(i+1).toNat=i.toNat+1 by omega]
theorem a9z{sg:List Sg}{g:Gs}{l:Nat}{i:Int}(h:mkP sg g l i)(hi:¬i<((Bu l).length:Int)):[]=BC sg l g:=by
 rw[h.2,List.drop_eq_nil_of_le (by omega)];rfl
def faI(sg:List Sg)(p:Int)(i:Int)(N:Nat):Prop:=(1≤i∧i≤sg.length+2∧(sg.length:Int)-p-i<N)∧Dl sg (sg.length+1) (p+1)=Dl sg N (p+i)
theorem a9A{sg:List Sg}{p:Int}(h:0≤p):faI sg p 1 (sg.length+1):=⟨by omega,rfl⟩
theorem Uy{sg:List Sg}{g:Gs}{i:Int}(hb:g.bad=false):nmG sg g i=Dh sg (g.pos+i):=JV (CX hb)
theorem a0o{sg:List Sg}{g:Gs}{i:Int}{N:Nat}(hp:0≤g.pos)(h:faI sg g.pos i N)(hb:g.bad=false)(hn:nmG sg g i=true)(ht:((pkG sg g (i+1)).text==[44])=true):faI sg g.pos (i+1+1) (N-1)∧N-1<N:=by
 have ht:(pkG sg g (i+1)).text=[44]:=by simpa using ht
 obtain⟨⟨h1,h2,h3⟩,h4⟩:=h
 have hl:=(Iq hn).2
 rw[Uy hb] at hn
 rw[GA hb] at ht
 match N with
 |0=>omega
 |N+1=>
  refine⟨⟨⟨by omega,by omega,by simp;omega⟩,?_⟩,by omega⟩
  rw[h4,Dl,if_pos hn,if_pos (by rw[show g.pos+i+1=g.pos+(i+1) by omega];exact ht)]
  simp only[Nat.add_sub_cancel];congr 1;omega
theorem a9B{sg:List Sg}{g:Gs}{i:Int}{N:Nat}(h:faI sg g.pos i N)(hb:g.bad=false)(hn:nmG sg g i=false):Eo sg ⟨g.pos,g.deep,g.nodes⟩=(((pkG sg g i).text==[41])&&((pkG sg g (i+1)).text==[61,62])):=by
 rw[Uy hb] at hn
 have e:Dl sg (sg.length+1) (g.pos+1)=g.pos+i:=by
  rw[h.2]
  match N with
  |0=>rfl
  |N+1=>rw[Dl,if_neg (by simp [hn])]
 simp only[Eo,e,GA hb,show g.pos+(i+1)=g.pos+i+1 by omega]
theorem a9C{sg:List Sg}{g:Gs}{i:Int}{N:Nat}(h:faI sg g.pos i N)(hb:g.bad=false)(hn:nmG sg g i=true)(ht:((pkG sg g (i+1)).text==[44])=false):
 Eo sg ⟨g.pos,g.deep,g.nodes⟩=(((pkG sg g (i+1)).text==[41])&&((pkG sg g (i+1+1)).text==[61,62])):=by
 have ht:(pkG sg g (i+1)).text≠[44]:=by simpa using ht
 have hl:=(Iq hn).2
 rw[Uy hb] at hn
 rw[GA hb] at ht
 have e:Dl sg (sg.length+1) (g.pos+1)=g.pos+(i+1):=by
  obtain⟨⟨h1,h2,h3⟩,h4⟩:=h
  rw[h4]
  match N with
  |0=>omega
  |N+1=>rw[Dl,if_pos hn,if_neg (by rw[show g.pos+i+1=g.pos+(i+1) by omega];exact ht)];omega
 simp only[Eo,e,GA hb,show g.pos+(i+1+1)=g.pos+(i+1)+1 by omega]
attribute [local irreducible] pE Bl CP fnR Af Bm gsOk Al Bs Ag BX CY Ah Cz Dj Ax BB pkG isG nmG
def Ll:Sig:= {X:=ST×Int×Int×Bool×List Nd×Int,args:=fun x=>[rdG x.1 (xh x),.int .i64 x.2.2.2.2.2],pre:=fun x=>rOk x.1 (xh x)∧0≤x.2.2.2.2.2∧x.2.2.2.2.2≤5,Y:=Unit,post:=fun x y=>True,res:=fun x y=> .str (BC x.1.sg x.2.2.2.2.2.toNat (xh x)),outs:=fun x y=>[rdG x.1 (xh x),.top],keep:=true}
def Qt(x:ST×Int×Int×Bool×List Nd×Int):LS:= {ι:=Int,inv:=fun i=>mkP x.1.sg (xh x) x.2.2.2.2.2.toNat i,regs:=fun i=>[(0,rdG x.1 (xh x)),(18,.sl false 0 1 (List UInt8) BW (Bu x.2.2.2.2.2.toNat)),(19,.int .i64 (Bu x.2.2.2.2.2.toNat).length),(20,.int .i64 i)],als:=[],meas:=fun i=>(Bu x.2.2.2.2.2.toNat).length-i.toNat}
theorem a9D:Aj G Tryz.prog 194 Ll:=
 vcFun_okP [(166,0,Cw)] [(41,⟨List UInt8,BW⟩),(152,⟨List (List UInt8),fun l=>[.sl false 0 1 (List UInt8) BW l]⟩)] false (fun x=>[(3,Qt x)]) Tryz.func194 rfl (by decide) ⟨HB,trivial⟩ (fun(x:ST×Int×Int×Bool×List Nd×Int)=>True∧∃(x_1:List UInt8),#[(124:UInt8),(124:UInt8)].toList=x_1∧∃(x_2:List UInt8),#[(38:UInt8),(38:UInt8)].toList=x_2∧∃(x_3:List UInt8),#[(61:UInt8),(61:UInt8)].toList=x_3∧∃(x_4:List UInt8),#[(60:UInt8)].toList=x_4∧∃(x_5:List UInt8),#[(43:UInt8)].toList=x_5∧∃(x_6:List UInt8),#[(45:UInt8)].toList=x_6∧∃(x_7:List UInt8),#[(42:UInt8)].toList=x_7∧∃(x_8:List (List UInt8)),AV.sl false (0:Nat) (1:Nat) (List UInt8) (fun(x:List UInt8)=>fzL (BW x)) [x_1]=AV.sl false (0:Nat) (1:Nat) (List UInt8) BW x_8∧∃(x_9:List (List UInt8)),AV.sl false (0:Nat) (1:Nat) (List UInt8) (fun(x:List UInt8)=>fzL (BW x)) [x_2]=AV.sl false (0:Nat) (1:Nat) (List UInt8) BW x_9∧∃(x_10:List (List UInt8)),AV.sl false (0:Nat) (1:Nat) (List UInt8) (fun(x:List UInt8)=>fzL (BW x)) [x_3]=AV.sl false (0:Nat) (1:Nat) (List UInt8) BW x_10∧∃(x_11:List (List UInt8)),AV.sl false (0:Nat) (1:Nat) (List UInt8) (fun(x:List UInt8)=>fzL (BW x)) [x_4]=AV.sl false (0:Nat) (1:Nat) (List UInt8) BW x_11∧∃(x_12:List (List UInt8)),AV.sl false (0:Nat) (1:Nat) (List UInt8) (fun(x:List UInt8)=>fzL (BW x)) [x_5,x_6]=AV.sl false (0:Nat) (1:Nat) (List UInt8) BW x_12∧∃(x_13:List (List UInt8)),AV.sl false (0:Nat) (1:Nat) (List UInt8) (fun(x:List UInt8)=>fzL (BW x)) [x_7]=AV.sl false (0:Nat) (1:Nat) (List UInt8) BW x_13∧((0:Int)≤x.2.2.2.2.2∧x.2.2.2.2.2<(↑(List.length [x_8,x_9,x_10,x_11,x_12,x_13]):Int))∧Int.toNat x.2.2.2.2.2<List.length [x_8,x_9,x_10,x_11,x_12,x_13]∧∀(x_14:List (List UInt8)),[x_8,x_9,x_10,x_11,x_12,x_13][Int.toNat x.2.2.2.2.2]? =some x_14→eA (Qt x) [rdG x.1 (xh x),AV.sl false (0:Nat) (1:Nat) (List UInt8) BW x_14,.int .i64 (↑(List.length x_14):Int),.int .i64 (0:Int)]∧∀(i:Int),mkP x.1.sg (xh x) (Int.toNat x.2.2.2.2.2) i→Aa (decide (i<(↑(List.length (Bu (Int.toNat x.2.2.2.2.2))):Int))) (((0:Int)≤i∧i<(↑(List.length (Bu (Int.toNat x.2.2.2.2.2))):Int))∧∀(e:List UInt8),(Bu (Int.toNat x.2.2.2.2.2))[Int.toNat i]? =some e→cA Cw [rdG x.1 (xh x),.str e] fun x_15 y=>Aa (isG x_15.1.sg (xh x_15) (4:Int) x_15.2.2.2.2.2) (rA Ll x [.str e,rdG x_15.1 (xh x_15),.top]) (inR IntKind.i64 (i+(1:Int))∧eN (Qt x) i [rdG x_15.1 (xh x_15),AV.sl false (0:Nat) (1:Nat) (List UInt8) BW (Bu (Int.toNat x.2.2.2.2.2)),.int .i64 (↑(List.length (Bu (Int.toNat x.2.2.2.2.2))):Int),.int .i64 (i+(1:Int))])) (rA Ll x [.str #[].toList,rdG x.1 (xh x),.top])) (fun x=>by kernel_rfl) fun(x:ST×Int×Int×Bool×List Nd×Int) (hx:rOk x.1 (xh x)∧0≤x.2.2.2.2.2∧x.2.2.2.2.2≤5)=>(by
 dsimp only[cA,eA,eN,Qt,mbs,Bg,Au,rA,rdG,Cw,Ll,Bj,sgs,Av,AB,mvL,lnL,mvE,lnE,Bw]
 obtain⟨s,p,d,b,ns,e⟩:=x;dsimp only[xg,xh] at hx ⊢
 obtain⟨h1,h2,h3⟩:=hx
 (repeat' first|(with_reducible first|rfl|exact True.intro|apply AK|apply And.intro|((first|apply Az|apply AI|apply AA|apply AJ)<;>intro _))|(apply Aw<;>intro _)|apply AH|refine Ae () ?_ ?_|((first|apply AO|apply AN|apply AM|apply AL|apply AG|apply AF|apply AE|apply AD|apply AC)<;>try dsimp only)|apply Ae|(refine Prod.forall.2 ?_;intro _;try dsimp only)|(intro _;try dsimp only))
 all_goals(try dsimp only[xg,xh,yG,yS,iG] at*)
 all_goals first
  |rfl
  |exact h1
  |exact a9w
  |exact a0m ‹_› h2 h3
  |(rename _=some _=>ha;rw[a0m ha h2 h3];done)
  |exact a9x ‹_› ‹_› ‹_›
  |exact a9y ‹_› ‹_› ‹_›
  |exact a9z ‹_› ‹_›
  |((try simp only[List.length_cons,List.length_nil]);omega)
  |(have hq:=And.left (show mkP _ _ _ _ by assumption);have hl:= @a0n e.toNat;(try simp only[AR]);omega)
  |((try simp only[AS,List.length_cons,List.length_nil]);omega)
  |skip)
def Je:Sig:= {X:=ST×Int×Int×Bool×List Nd,args:=fun x=>[rdG x.1 (xg x)],pre:=fun x=>rOk x.1 (xg x)∧(xg x).bad=false,Y:=Unit,post:=fun x y=>True,res:=fun x y=> .bool (Eo x.1.sg ⟨(xg x).pos,(xg x).deep,(xg x).nodes⟩),outs:=fun x y=>[rdG x.1 (xg x)],keep:=true}
def Qu(x:ST×Int×Int×Bool×List Nd):LS:= {ι:=Int×Nat,inv:=fun i=>faI x.1.sg (xg x).pos i.1 i.2,regs:=fun i=>[(0,rdG x.1 (xg x)),(3,.int .i64 i.1)],als:=[],meas:=fun i=>i.2}
theorem a9E:Aj G Tryz.prog 197 Je:=
 vcFun_okP [(167,0,Er),(141,0,EI)] [] false (fun x=>[(2,Qu x)]) Tryz.func197 rfl (by decide) ⟨Oa,Qj,trivial⟩ (fun(x:ST×Int×Int×Bool×List Nd)=>True∧eA (Qu x) [rdG x.1 (xg x),.int .i64 (1:Int)]∧∀(i:Int×Nat),faI x.1.sg (xg x).pos i.1 i.2→cA Er [rdG x.1 (xg x),.int .i64 i.1] fun x_1 y=>Aa (nmG x_1.1.sg (xh x_1) x_1.2.2.2.2.2) (inR IntKind.i64 (i.1+(1:Int))∧cA EI [rdG x_1.1 (xh x_1),.int .i64 (i.1+(1:Int))] fun x_2 y=>Aa (!(pkG x_2.1.sg (xh x_2) x_2.2.2.2.2.2).text== #[(44:UInt8)].toList) (cA EI [rdG x_2.1 (xh x_2),.int .i64 (i.1+(1:Int))] fun x_3 y=>Aa ((pkG x_3.1.sg (xh x_3) x_3.2.2.2.2.2).text== #[(41:UInt8)].toList) (inR IntKind.i64 (i.1+(1:Int)+(1:Int))∧cA EI [rdG x_3.1 (xh x_3),.int .i64 (i.1+(1:Int)+(1:Int))] fun x_4 y=>rA Je x [.bool ((pkG x_4.1.sg (xh x_4) x_4.2.2.2.2.2).text== #[(61:UInt8),(62:UInt8)].toList),rdG x_4.1 (xh x_4)]) (rA Je x [.bool false,rdG x_3.1 (xh x_3)])) (inR IntKind.i64 (i.1+(1:Int)+(1:Int))∧eN (Qu x) i [rdG x_2.1 (xh x_2),.int .i64 (i.1+(1:Int)+(1:Int))])) (cA EI [rdG x_1.1 (xh x_1),.int .i64 i.1] fun x_2 y=>Aa ((pkG x_2.1.sg (xh x_2) x_2.2.2.2.2.2).text== #[(41:UInt8)].toList) (inR IntKind.i64 (i.1+(1:Int))∧cA EI [rdG x_2.1 (xh x_2),.int .i64 (i.1+(1:Int))] fun x_3 y=>rA Je x [.bool ((pkG x_3.1.sg (xh x_3) x_3.2.2.2.2.2).text== #[(61:UInt8),(62:UInt8)].toList),rdG x_3.1 (xh x_3)]) (rA Je x [.bool false,rdG x_2.1 (xh x_2)]))) (fun x=>by kernel_rfl) fun(x:ST×Int×Int×Bool×List Nd) (hx:rOk x.1 (xg x)∧(xg x).bad=false)=>(by
 dsimp only[cA,eA,eN,Qu,mbs,Bg,Au,rA,rdG,Je,Er,EI,Bj,sgs,Av,AB,mvL,lnL,mvE,lnE,Bw]
 obtain⟨s,p,d,b,ns⟩:=x;dsimp only[xg,xh] at hx ⊢
 obtain⟨h1,h2⟩:=hx;subst h2
 have hs:=DK h1;dsimp only at hs
 (repeat' first|(with_reducible first|rfl|exact True.intro|apply AK|apply And.intro|((first|apply Az|apply AI|apply AA|apply AJ)<;>intro _))|(apply Aw<;>intro _)|apply AH|refine Ae () ?_ ?_|((first|apply AO|apply AN|apply AM|apply AL|apply AG|apply AF|apply AE|apply AD|apply AC)<;>try dsimp only)|apply Ae|(refine Prod.forall.2 ?_;intro _;try dsimp only)|(intro _;try dsimp only))
 all_goals(try dsimp only[xg,xh,yG,yS,iG] at*)
 all_goals first
  |(show Nat;skip)
  |rfl
  |exact h1
  |exact a9A hs.1.1.1
  |exact(a0o (g:=⟨p,d,false,ns⟩) hs.1.1.1 ‹_› rfl ‹_› ‹_›).1
  |(have he:=a9B (g:=⟨p,d,false,ns⟩) ‹_› rfl ‹_›;dsimp only at he;rw[he];simp [*];done)
  |(have he:=a9C (g:=⟨p,d,false,ns⟩) ‹_› rfl ‹_› ‹_›;dsimp only at he;rw[he];simp [*];done)
  |(have hq:=And.left (show faI _ _ _ _ by assumption);(try simp only[AR]);omega)
  |skip
 all_goals first
  |exact(a0o (g:=⟨p,d,false,ns⟩) hs.1.1.1 ‹_› rfl ‹_› ‹_›).2
  |skip)
def MG(n:Nat):Sig:= {X:=ST×Int×Int×Bool×List Nd,args:=fun x=>[rdG x.1 (xg x)],pre:=fun x=>((rOk x.1 (xg x)∧(xg x).deep≤20)∧isG x.1.sg (xg x) 4 [40]=true)∧12*((x.1.sg.length:Int)-(xg x).pos)≤n+2,Y:=Int×Int×Int×Bool×List Nd,post:=fun x y=>Af x.1.sg (xg x) (fnR x.1.sg n) (yS y),res:=fun x y=> .int .i64 y.1,outs:=fun x y=>[rdG x.1 (yG y.2)],keep:=true}
theorem a9F(n:Nat)(h:rAll G n):Aj G Tryz.prog 198 (MG n):=
 vcFun_okP [(137,0,CA),(138,139+1,Gc),(180,0,(HD n)),(104,0,BS)] [(45,⟨Int,Bb⟩)] false (fun x=>[]) Tryz.func198 rfl (by decide) ⟨Jb,Ux,h.pick,GB,trivial⟩ (fun(x:ST×Int×Int×Bool×List Nd)=>True∧cA CA [rdG x.1 (xg x),.str #[(40:UInt8)].toList] fun x_1 y=>(True∧True)∧cA Gc [rdG x_1.1 (Al x_1.1.sg (xh x_1) x_1.2.2.2.2.2),.str #[(41:UInt8)].toList,AV.clo (Fn.yield (139:Nat)) [AV.al (0:Nat)]] fun x_2 y=>cA CA [rdG x_2.1 (yG y.2),.str #[(41:UInt8)].toList] fun x_3 y_1=>cA CA [rdG x_3.1 (Al x_3.1.sg (xh x_3) x_3.2.2.2.2.2),.str #[(61:UInt8),(62:UInt8)].toList] fun x_4 y_2=>cA (HD n) [rdG x_4.1 (Al x_4.1.sg (xh x_4) x_4.2.2.2.2.2)] fun x_5 y_3=>∃(x_6:Int),y_3.1=x_6∧∃(zs:List Int),Ab [x_6]=Ab zs∧Be Bb∧AS (List.length y.1+List.length zs) (8:Nat)∧cA BS [rdG x_5.1 (yG y_3.2),.agg [.int .i64 (9:Int),.str #[].toList,Ab (y.1++zs),.bool false]] fun x_7 y=>rA (MG n) x [.int .i64 (Ax (xh x_7)),rdG x_7.1 (Ag (xh x_7) {kind:=x_7.2.2.2.2.2.1,text:=x_7.2.2.2.2.2.2.1,kids:=x_7.2.2.2.2.2.2.2.1,blank:=x_7.2.2.2.2.2.2.2.2})]) (fun x=>by kernel_rfl) fun(x:ST×Int×Int×Bool×List Nd) (hx:((rOk x.1 (xg x)∧(xg x).deep≤20)∧isG x.1.sg (xg x) 4 [40]=true)∧12*((x.1.sg.length:Int)-(xg x).pos)≤n+2)=>(by
 dsimp only[cA,mbs,Bg,Ab,Au,rA,rdG,BS,MG,Gc,HD,CA,Bj,sgs,Av,AB,mvL,lnL,mvE,lnE]
 obtain⟨s,p,d,b,ns⟩:=x;dsimp only[xg,xh] at hx ⊢
 obtain⟨⟨⟨h1,h2⟩,hq⟩,h3⟩:=hx
 (repeat' first|(with_reducible first|rfl|exact True.intro|apply AK|apply And.intro|((first|apply Az|apply AI|apply AA|apply AJ)<;>intro _))|(apply Aw<;>intro _)|apply AH|refine Ae () ?_ ?_|((first|apply AO|apply AN|apply AM|apply AL|apply AG|apply AF|apply AE|apply AD|apply AC)<;>try dsimp only)|apply Ae|(refine Prod.forall.2 ?_;intro _;try dsimp only)|(intro _;try dsimp only))
 all_goals(try dsimp only[xg,xh,yG,yS,iG] at*)
 all_goals(try simp only[CM] at*)
 all_goals first
  |rfl
  |exact h1
  |exact a9s h1
  |exact a9t h1 ‹_›
  |exact a9u h1 ‹_›
  |exact a0l h1 h2 hq h3 ‹_›
  |exact Dq h1 ‹_›
  |exact a9v h1 ‹_› ‹_›
  |(have hq2:=And.right (show Bm _ _ _ _∧_ by assumption);(try simp only[AS,List.length_append,List.length_cons,List.length_nil]);omega)
  |skip)
end Go.My
end
section
set_option linter.unusedVariables false
set_option linter.unusedSimpArgs false
namespace Go.My
open Go.Eng Go.Proofs
variable {G:GInv}
theorem a0p{sg:List Sg}{x:Gs}{a:Bool}(h:Eo sg ⟨x.pos,x.deep,x.nodes⟩=a):∀s,pur x=some s→Eo sg s=a:=fun s hs=>by
 obtain⟨_,rfl⟩:=Ep.1 hs;exact h
theorem Qv{s:ST}{x:Gs}{n r:Nat}{k:Int}{m:List UInt8}(hq:isG s.sg x k m=true)(hk:k≠0)(h1:rOk s x)(h2:x.bad=false→x.deep≤20)(h3:12*((s.sg.length:Int)-x.pos)+1≤(n+1:Nat))(hr:r≤12):wP r n s (Ai x)∧vP r n s (Ai x):=by
 have hl:=Cy hq hk
 have ha:=EY h1.2 hl.2
 have hd:=h2 hl.1
 have e:(Ai x).pos=x.pos+1:=rfl
 have e2:(Ai x).deep=x.deep:=rfl
 have a:12*((s.sg.length:Int)-(Ai x).pos)+r≤n:=by omega
 exact⟨⟨⟨⟨h1.1,ha⟩,fun _=>by omega⟩,a⟩,⟨⟨⟨h1.1,ha⟩,by omega⟩,a⟩⟩
theorem a0q{s:ST}{x:Gs}{n:Nat}(hq:isG s.sg x 4 [40]=true)(h1:rOk s x)(h2:x.bad=false→x.deep≤20)(h3:12*((s.sg.length:Int)-x.pos)+1≤(n+1:Nat)):
 x.deep≤20∧12*((s.sg.length:Int)-x.pos)≤n+2:=⟨h2 (Cy hq (by omega)).1,by omega⟩
theorem a0r{s:ST}{x y:Gs}{f:Ps→PL}{l:List Int×Gs}{k:Int}(h1:rOk s x)(hl:Bm s.sg y f l∧l.1.length≤3001):rOk s l.2∧Cv ⟨k,[],l.1,false⟩:=⟨⟨h1.1,hl.1.1⟩,by simp,by have:=hl.2;simp only;omega⟩
theorem a9G{s:ST}{x:Gs}{n:Nat}{l:List Int×Gs}(h:rOk s x)(h1:(pkG s.sg x 0).kind≠1)(h2:(pkG s.sg x 0).kind≠2)(h3:(pkG s.sg x 0).kind≠3)(hq:isG s.sg x 4 [91]=true)
 (hl:Bm s.sg (Ai x) (Bl s.sg (pE s.sg n .value) [93] (s.sg.length+1) []) l∧l.1.length≤3001):
 Af s.sg x (pE s.sg (n+1) .base) (BB s.sg l.2 [93],Bs s.sg l.2 [93] ⟨4,[],l.1,false⟩):=a0c h.2 h1 h2 h3 hq hl.1 hl.2
theorem a9H{s:ST}{x:Gs}{n:Nat}{z:Int×Gs}(h:rOk s x)(h1:(pkG s.sg x 0).kind≠1)(h2:(pkG s.sg x 0).kind≠2)(h3:(pkG s.sg x 0).kind≠3)(hn:isG s.sg x 4 [91]=false)(hq:isG s.sg x 4 [40]=true)
 (ha:Eo s.sg ⟨x.pos,x.deep,x.nodes⟩=false) (hz:Af s.sg (Ai x) (pE s.sg n .value) z):
 Af s.sg x (pE s.sg (n+1) .base) (BB s.sg z.2 [41],Bs s.sg z.2 [41] ⟨11,[],[z.1],false⟩):=a0d h.2 h1 h2 h3 hn hq (a0p ha) hz
theorem a9I{s:ST}{x:Gs}{n:Nat}{z:Int×Gs}(h1:(pkG s.sg x 0).kind≠1)(h2:(pkG s.sg x 0).kind≠2)(h3:(pkG s.sg x 0).kind≠3)(hn:isG s.sg x 4 [91]=false)(hq:isG s.sg x 4 [40]=true)
 (ha:Eo s.sg ⟨x.pos,x.deep,x.nodes⟩=true) (hz:Af s.sg x (fnR s.sg n) z):Af s.sg x (pE s.sg (n+1) .base) z:=a9l h1 h2 h3 hn hq (a0p ha) hz
theorem a0s{s:ST}{x:Gs}{k:Int}(h:(pkG s.sg x 0).kind=k)(hk:k=2∨k=3):x.pos<s.sg.length:=(Of (by rw[h];omega)).2
theorem a0t{s:ST}{x:Gs}{k:Int}{m:List UInt8}(hq:isG s.sg x k m=true)(hk:k≠0):x.bad=false:=(Cy hq hk).1
abbrev enJ (sg:List Sg) (n:Nat) (x y:Gs) (k:Int) (N:Nat):Prop:=enI sg n x y k N∧(y.bad=false→y.deep≤20)
theorem Uz{s:ST}{x:Gs}{n:Nat}{z:Int×Gs}(h1:rOk s x)(h2:x.bad=false→x.deep≤20)(hz:Af s.sg x (pE s.sg n .base) z):enJ s.sg n x z.2 z.1 (s.sg.length+1):=⟨a9j h1.2 hz,Lk hz h2⟩
theorem a9J{s:ST}{x y:Gs}{n:Nat}{k:Int}{N:Nat}(h1:rOk s x)(h:enJ s.sg n x y k N):rOk s y:=⟨h1.1,h.1.1.1⟩
theorem a9K{s:ST}{x y:Gs}{n:Nat}{k:Int}{N:Nat}(h1:rOk s x)(h3:12*((s.sg.length:Int)-x.pos)+2≤(n+1:Nat))(h:enJ s.sg n x y k N)(hq:isG s.sg y 4 [40]=true):wP 11 n s y:=by
 have hb:=(Cy hq (by omega)).1
 have:=h.1.2.2 hb
 exact⟨⟨⟨h1.1,h.1.1.1⟩,h.2⟩,by omega⟩
theorem Qw{sg:List Sg}{n:Nat}{x y:Gs}{k:Int}{N:Nat}{w:Int×Gs}(h:enJ sg n x y k N)(hw:Af sg y (CP sg (pE sg n .value) k) w)(hq:isG sg y 4 [40]=true):enJ sg n x w.2 w.1 (N-1)∧N-1<N:=by
 obtain⟨a,b⟩:=Hd (a9k h.1 hq hw)
 exact⟨⟨a,Lk hw h.2⟩,b⟩
theorem UA{sg:List Sg}{n:Nat}{x y:Gs}{k:Int}{N:Nat}(hs:sgB sg)(h:enJ sg n x y k N)(hp:isG sg y 4 [40]=false)(hq:isG sg y 4 [46]=true)(hn:nmG sg (Ah sg y [46]) 0=true):
 enJ sg n x (BX (Ag (Ah sg y [46]) ⟨6,(pkG sg (Ah sg y [46]) 0).text,[k],false⟩)) (Ax (Ah sg y [46])) (N-1)∧N-1<N:=by
 rw[Da hq] at hn ⊢
 obtain⟨a,b⟩:=Hd (ZZ hs h.1 hp hq hn)
 have hl:=Cy hq (by omega)
 have hl2:=Iq hn
 have e:(BX (Ag (Ai y) ⟨6,(pkG sg (Ai y) 0).text,[k],false⟩)).deep=y.deep:=by
  have:=(@Hb (Ai y) ⟨6,(pkG sg (Ai y) 0).text,[k],false⟩).1
  unfold BX;split
  ·exact this
  ·exact this
 exact⟨⟨a,fun _=>by rw[e];exact h.2 hl.1⟩,b⟩
theorem a0u{s:ST}{x y:Gs}{n:Nat}{k:Int}{N:Nat}{t:List UInt8}(h1:rOk s x)(h:enJ s.sg n x y k N)(hq:isG s.sg y 4 [46]=true):rOk s (Ah s.sg y [46])∧rOk s (Ag (Ah s.sg y [46]) ⟨6,(pkG s.sg (Ah s.sg y [46]) 0).text,[k],false⟩):=by
 rw[Da hq]
 have hl:=Cy hq (by omega)
 have ha:=EY h.1.1.1 hl.2
 exact⟨⟨h1.1,ha⟩,h1.1,Ir ha ⟨JX h1.1,by simp⟩⟩
theorem a9L{sg:List Sg}{n:Nat}{x y:Gs}{k a:Int}{N:Nat}(h:enJ sg n x y k N)(hp:isG sg y 4 [40]=false)(hq:isG sg y 4 [46]=true)(hn:nmG sg (Ah sg y [46]) 0=false):
 Af sg x (pE sg (n+1) .fin) (a,Bd (Ah sg y [46])):=by
 rw[Da hq] at hn ⊢
 exact a0a h.1 hp hq hn
theorem a9M{sg:List Sg}{n:Nat}{x y:Gs}{k:Int}{N:Nat}(h:enJ sg n x y k N)(hb:y.bad=false)(hp:isG sg y 4 [40]=false)(hq:isG sg y 4 [46]=false):Af sg x (pE sg (n+1) .fin) (k,Ah sg y [46]):=by
 rw[CZ hq];exact a0b h.1 hb hp hq
theorem a0v{s:ST}{x:Gs}{n:Nat}(h1:rOk s x)(h2:x.bad=false→x.deep≤20)(h3:12*((s.sg.length:Int)-x.pos)+2≤(n+1:Nat)):wP 1 n s x:=⟨⟨h1,h2⟩,by omega⟩
attribute [local irreducible] pE Bl CP fnR Af Bm gsOk Al Bs Ag BX CY Ah Cz Dj Ax BB pkG isG nmG
def HF(n:Nat):Sig:= {X:=ST×Int×Int×Bool×List Nd,args:=fun x=>[rdG x.1 (xg x)],pre:=fun x=>wP 1 (n+1) x.1 (xg x),Y:=Int×Int×Int×Bool×List Nd,post:=fun x y=>Af x.1.sg (xg x) (pE x.1.sg (n+1) .base) (yS y),res:=fun x y=> .int .i64 y.1,outs:=fun x y=>[rdG x.1 (yG y.2)],keep:=true}
theorem a9N(n:Nat)(h:rAll G n):Aj G Tryz.prog 196 (HF n):=
 vcFun_okP [(103,0,Cq),(139,0,GC),(168,0,It),(163,0,CL),(166,0,Cw),(197,0,Je),(198,0,(MG n)),(164,0,(Kb n)),(138,164+1,(HE n)),(165,0,CE)] [(45,⟨Int,Bb⟩)] false (fun x=>[]) Tryz.func196 rfl (by decide) ⟨GZ,Ul,ZI,Ja,HB,a9E,(a9F n h),h.val,(a0j n h),Lj,trivial⟩ (fun(x:ST×Int×Int×Bool×List Nd)=>True∧cA Cq [rdG x.1 (xg x)] fun x_1 y=>Aa ((pkG x_1.1.sg (xg x_1) (0:Int)).kind==(1:Int)) (cA GC [rdG x_1.1 (xg x_1)] fun x_2 y=>rA (HF n) x [.int .i64 (Dj x_2.1.sg (xg x_2)),rdG x_2.1 (Cz x_2.1.sg (xg x_2))]) (Aa ((pkG x_1.1.sg (xg x_1) (0:Int)).kind==(2:Int)) (cA It [rdG x_1.1 (xg x_1),.int .i64 (2:Int)] fun x_2 y=>rA (HF n) x [.int .i64 (Ax (xh x_2)),rdG x_2.1 (CY x_2.1.sg (xh x_2) x_2.2.2.2.2.2 false)]) (Aa ((pkG x_1.1.sg (xg x_1) (0:Int)).kind==(3:Int)) (cA It [rdG x_1.1 (xg x_1),.int .i64 (3:Int)] fun x_2 y=>rA (HF n) x [.int .i64 (Ax (xh x_2)),rdG x_2.1 (CY x_2.1.sg (xh x_2) x_2.2.2.2.2.2 false)]) (cA CL [rdG x_1.1 (xg x_1),.str #[(91:UInt8)].toList] fun x_2 y=>Aa (isG x_2.1.sg (xh x_2) (4:Int) x_2.2.2.2.2.2) ((True∧True)∧cA (HE n) [rdG x_2.1 (Ah x_2.1.sg (xh x_2) x_2.2.2.2.2.2),.str #[(93:UInt8)].toList,AV.clo (Fn.yield (164:Nat)) [AV.al (0:Nat)]] fun x_3 y=>cA CE [rdG x_3.1 (yG y.2),.str #[(93:UInt8)].toList,.agg [.int .i64 (4:Int),.str #[].toList,Ab y.1,.bool false]] fun x_4 y=>rA (HF n) x [.int .i64 (BB x_4.1.sg (xh x_4) x_4.2.2.2.2.2.1),rdG x_4.1 (Bs x_4.1.sg (xh x_4) x_4.2.2.2.2.2.1 {kind:=x_4.2.2.2.2.2.2.1,text:=x_4.2.2.2.2.2.2.2.1,kids:=x_4.2.2.2.2.2.2.2.2.1,blank:=x_4.2.2.2.2.2.2.2.2.2})]) (cA Cw [rdG x_2.1 (Ah x_2.1.sg (xh x_2) x_2.2.2.2.2.2),.str #[(40:UInt8)].toList] fun x_3 y=>Aa (isG x_3.1.sg (xh x_3) (4:Int) x_3.2.2.2.2.2) (cA Je [rdG x_3.1 (xh x_3)] fun x_4 y=>Aa (Eo x_4.1.sg {pos:=(xg x_4).pos,deep:=(xg x_4).deep,nodes:=(xg x_4).nodes}) (cA (MG n) [rdG x_4.1 (xg x_4)] fun x_5 y=>rA (HF n) x [.int .i64 y.1,rdG x_5.1 (yG y.2)]) (cA CL [rdG x_4.1 (xg x_4),.str #[(40:UInt8)].toList] fun x_5 y=>Aa (isG x_5.1.sg (xh x_5) (4:Int) x_5.2.2.2.2.2) (cA (Kb n) [rdG x_5.1 (Ah x_5.1.sg (xh x_5) x_5.2.2.2.2.2)] fun x_6 y=>∃(x_7:Int),y.1=x_7∧cA CE [rdG x_6.1 (yG y.2),.str #[(41:UInt8)].toList,.agg [.int .i64 (11:Int),.str #[].toList,Ab [x_7],.bool false]] fun x_8 y=>rA (HF n) x [.int .i64 (BB x_8.1.sg (xh x_8) x_8.2.2.2.2.2.1),rdG x_8.1 (Bs x_8.1.sg (xh x_8) x_8.2.2.2.2.2.1 {kind:=x_8.2.2.2.2.2.2.1,text:=x_8.2.2.2.2.2.2.2.1,kids:=x_8.2.2.2.2.2.2.2.2.1,blank:=x_8.2.2.2.2.2.2.2.2.2})]) (rA (HF n) x [.int .i64 (0:Int),.box 0 [sgs x_5.1.sg,.int .i64 x_5.1.z,.int .i64 (Ah x_5.1.sg (xh x_5) x_5.2.2.2.2.2).pos,.int .i64 (Ah x_5.1.sg (xh x_5) x_5.2.2.2.2.2).deep,.bool true,Au (Ah x_5.1.sg (xh x_5) x_5.2.2.2.2.2).nodes,mbs x_5.1.ms]]))) (cA CL [rdG x_3.1 (xh x_3),.str #[(40:UInt8)].toList] fun x_4 y=>Aa (isG x_4.1.sg (xh x_4) (4:Int) x_4.2.2.2.2.2) (cA (Kb n) [rdG x_4.1 (Ah x_4.1.sg (xh x_4) x_4.2.2.2.2.2)] fun x_5 y=>∃(x_6:Int),y.1=x_6∧cA CE [rdG x_5.1 (yG y.2),.str #[(41:UInt8)].toList,.agg [.int .i64 (11:Int),.str #[].toList,Ab [x_6],.bool false]] fun x_7 y=>rA (HF n) x [.int .i64 (BB x_7.1.sg (xh x_7) x_7.2.2.2.2.2.1),rdG x_7.1 (Bs x_7.1.sg (xh x_7) x_7.2.2.2.2.2.1 {kind:=x_7.2.2.2.2.2.2.1,text:=x_7.2.2.2.2.2.2.2.1,kids:=x_7.2.2.2.2.2.2.2.2.1,blank:=x_7.2.2.2.2.2.2.2.2.2})]) (rA (HF n) x [.int .i64 (0:Int),.box 0 [sgs x_4.1.sg,.int .i64 x_4.1.z,.int .i64 (Ah x_4.1.sg (xh x_4) x_4.2.2.2.2.2).pos,.int .i64 (Ah x_4.1.sg (xh x_4) x_4.2.2.2.2.2).deep,.bool true,Au (Ah x_4.1.sg (xh x_4) x_4.2.2.2.2.2).nodes,mbs x_4.1.ms]]))))))) (fun x=>by kernel_rfl) fun(x:ST×Int×Int×Bool×List Nd) (hx:wP 1 (n+1) x.1 (xg x))=>(by
 dsimp only[cA,mbs,Bg,Ab,Au,rA,rdG,HF,CE,MG,Je,Cw,It,HE,GC,Cq,CL,Kb,Bj,sgs,Av,AB,mvL,lnL,mvE,lnE]
 obtain⟨s,p,d,b,ns⟩:=x;dsimp only[xg,xh] at hx ⊢
 obtain⟨⟨h1,h2⟩,h3⟩:=hx
 (repeat' first|(with_reducible first|rfl|exact True.intro|apply AK|apply And.intro|((first|apply Az|apply AI|apply AA|apply AJ)<;>intro _))|(apply Aw<;>intro _)|apply AH|refine Ae () ?_ ?_|((first|apply AO|apply AN|apply AM|apply AL|apply AG|apply AF|apply AE|apply AD|apply AC)<;>try dsimp only)|apply Ae|(refine Prod.forall.2 ?_;intro _;try dsimp only)|(intro _;try dsimp only))
 all_goals(try dsimp only[xg,xh,yG,yS,iG] at*)
 all_goals(try simp only[CM] at*)
 all_goals(try(have e:=CZ (show isG s.sg ⟨p,d,b,ns⟩ 4 [91]=false by assumption);simp only[e] at*))
 all_goals(try(have e:=Da (show isG s.sg ⟨p,d,b,ns⟩ 4 [91]=true by assumption);simp only[e] at*))
 all_goals(try(have e:=CZ (show isG s.sg ⟨p,d,b,ns⟩ 4 [40]=false by assumption);simp only[e] at*))
 all_goals(try(have e:=Da (show isG s.sg ⟨p,d,b,ns⟩ 4 [40]=true by assumption);simp only[e] at*))
 all_goals first
  |rfl
  |assumption
  |(exfalso;have q1:=(show isG s.sg ⟨p,d,b,ns⟩ 4 [40]=false by assumption);have q2:=(show isG s.sg ⟨p,d,b,ns⟩ 4 [40]=true by assumption);rw[q1] at q2;cases q2)
  |exact Ur h1.1 h1.2 ‹_›
  |exact Us h1.1 h1.2 ‹_› (.inl rfl)
  |exact Us h1.1 h1.2 ‹_› (.inr rfl)
  |exact a0s (x:=⟨p,d,b,ns⟩) ‹_› (.inl rfl)
  |exact a0s (x:=⟨p,d,b,ns⟩) ‹_› (.inr rfl)
  |exact(Qv (k:=4) (m:=[91]) (x:=⟨p,d,b,ns⟩) ‹_› (by omega) h1 h2 h3 (by omega)).1
  |exact(Qv (k:=4) (m:=[40]) (x:=⟨p,d,b,ns⟩) ‹_› (by omega) h1 h2 h3 (by omega)).2
  |exact(a0r (k:=4) h1 ‹_›).1
  |exact(a0r h1 ‹_›).2
  |exact a9G h1 ‹_› ‹_› ‹_› ‹_› ‹_›
  |exact a0t (x:=⟨p,d,b,ns⟩) (k:=4) (m:=[40]) ‹_› (by omega)
  |exact(a0q (x:=⟨p,d,b,ns⟩) ‹_› h1 h2 h3).1
  |exact(a0q (x:=⟨p,d,b,ns⟩) ‹_› h1 h2 h3).2
  |exact a9I ‹_› ‹_› ‹_› ‹_› ‹_› ‹_› ‹_›
  |exact a9H h1 ‹_› ‹_› ‹_› ‹_› ‹_› ‹_› ‹_›
  |exact Dq h1 ‹_›
  |exact⟨by simp,by simp⟩
  |exact a0e h1.2 ‹_› ‹_› ‹_› ‹_› ‹_›
  |skip)
def Oh(n:Nat):Sig:= {X:=ST×Int×Int×Bool×List Nd,args:=fun x=>[rdG x.1 (xg x)],pre:=fun x=>wP 2 (n+1) x.1 (xg x),Y:=Int×Int×Int×Bool×List Nd,post:=fun x y=>Af x.1.sg (xg x) (pE x.1.sg (n+1) .fin) (yS y),res:=fun x y=> .int .i64 y.1,outs:=fun x y=>[rdG x.1 (yG y.2)],keep:=true}
def Oi(n:Nat)(x:ST×Int×Int×Bool×List Nd):LS:= {ι:=Int×Int×Bool×List Nd×Int×Nat,inv:=fun i=>enJ x.1.sg n (xg x) (iG i) i.2.2.2.2.1 i.2.2.2.2.2,regs:=fun i=>[(0,rdG x.1 (iG i)),(3,.int .i64 i.2.2.2.2.1)],als:=[],meas:=fun i=>i.2.2.2.2.2}
theorem a9O(n:Nat)(h:rAll G n):Aj G Tryz.prog 193 (Oh n):=
 vcFun_okP [(196,0,(Qs n)),(166,0,Cw),(181,0,(Jd n)),(163,0,CL),(167,0,Er),(103,0,Cq),(104,0,BS),(162,0,CN)] [(45,⟨Int,Bb⟩)] false (fun x=>[(2,Oi n x)]) Tryz.func193 rfl (by decide) ⟨h.base,HB,(a0k n h),Ja,Oa,GZ,GB,Jc,trivial⟩ (fun(x:ST×Int×Int×Bool×List Nd)=>True∧cA (Qs n) [rdG x.1 (xg x)] fun x_1 y=>eA (Oi n x) [rdG x_1.1 (yG y.2),.int .i64 y.1]∧∀(i:Int×Int×Bool×List Nd×Int×Nat),enJ x.1.sg n (xg x) (iG i) i.2.2.2.2.1 i.2.2.2.2.2→Aa (!(iG i).bad) (cA Cw [rdG x.1 (iG i),.str #[(40:UInt8)].toList] fun x_2 y=>Aa (isG x_2.1.sg (xh x_2) (4:Int) x_2.2.2.2.2.2) (cA (Jd n) [rdG x_2.1 (xh x_2),.int .i64 i.2.2.2.2.1] fun x_3 y=>eN (Oi n x) i [rdG x_3.1 (yG y.2),.int .i64 y.1]) (cA CL [rdG x_2.1 (xh x_2),.str #[(46:UInt8)].toList] fun x_3 y=>Aa (isG x_3.1.sg (xh x_3) (4:Int) x_3.2.2.2.2.2) (cA Er [rdG x_3.1 (Ah x_3.1.sg (xh x_3) x_3.2.2.2.2.2),.int .i64 (0:Int)] fun x_4 y=>Aa (!nmG x_4.1.sg (xh x_4) x_4.2.2.2.2.2) (rA (Oh n) x [.int .i64 (0:Int),.box 0 [sgs x_4.1.sg,.int .i64 x_4.1.z,.int .i64 (xh x_4).pos,.int .i64 (xh x_4).deep,.bool true,Au (xh x_4).nodes,mbs x_4.1.ms]]) (cA Cq [rdG x_4.1 (xh x_4)] fun x_5 y=>∃(x_6:Int),i.2.2.2.2.1=x_6∧cA BS [rdG x_5.1 (xg x_5),.agg [.int .i64 (6:Int),.str (pkG x_5.1.sg (xg x_5) (0:Int)).text,Ab [x_6],.bool false]] fun x_7 y=>cA CN [rdG x_7.1 (Ag (xh x_7) {kind:=x_7.2.2.2.2.2.1,text:=x_7.2.2.2.2.2.2.1,kids:=x_7.2.2.2.2.2.2.2.1,blank:=x_7.2.2.2.2.2.2.2.2})] fun x_8 y=>eN (Oi n x) i [rdG x_8.1 (BX (xg x_8)),.int .i64 (Ax (xh x_7))])) (rA (Oh n) x [.int .i64 i.2.2.2.2.1,rdG x_3.1 (Ah x_3.1.sg (xh x_3) x_3.2.2.2.2.2)]))) (rA (Oh n) x [.int .i64 i.2.2.2.2.1,rdG x.1 (iG i)])) (fun x=>by kernel_rfl) fun(x:ST×Int×Int×Bool×List Nd) (hx:wP 2 (n+1) x.1 (xg x))=>(by
 dsimp only[cA,eA,eN,Oi,mbs,Bg,Ab,Au,rA,rdG,BS,Qs,Jd,Oh,Cw,Cq,Er,CN,CL,Bj,sgs,Av,AB,mvL,lnL,mvE,lnE,Bw]
 obtain⟨s,p,d,b,ns⟩:=x;dsimp only[xg,xh] at hx ⊢
 obtain⟨⟨h1,h2⟩,h3⟩:=hx
 (repeat' first|(with_reducible first|rfl|exact True.intro|apply AK|apply And.intro|((first|apply Az|apply AI|apply AA|apply AJ)<;>intro _))|(apply Aw<;>intro _)|apply AH|refine Ae () ?_ ?_|((first|apply AO|apply AN|apply AM|apply AL|apply AG|apply AF|apply AE|apply AD|apply AC)<;>try dsimp only)|apply Ae|(refine Prod.forall.2 ?_;intro _;try dsimp only)|(intro _;try dsimp only))
 all_goals(try dsimp only[xg,xh,yG,yS,iG] at*)
 all_goals(try simp only[CM] at*)
 all_goals first
  |(show Nat;skip)
  |rfl
  |assumption
  |exact a0v h1 h2 h3
  |exact(Uz h1 h2 ‹_›).1
  |exact(Uz h1 h2 ‹_›).2 ‹_›
  |exact a9J h1 ‹_›
  |exact ZY (And.left ‹_›) ‹_›
  |exact a9K (x:=⟨p,d,b,ns⟩) h1 h3 ‹_› ‹_›
  |exact(Qw ‹_› ‹_› ‹_›).1.1
  |exact(Qw ‹_› ‹_› ‹_›).1.2 ‹_›
  |exact(UA h1.1 ‹_› ‹_› ‹_› ‹_›).1.1
  |exact(UA h1.1 ‹_› ‹_› ‹_› ‹_›).1.2 ‹_›
  |exact(a0u (t:=[]) h1 ‹_› ‹_›).1
  |exact(a0u (t:=[]) h1 ‹_› ‹_›).2
  |exact a9L ‹_› ‹_› ‹_› ‹_›
  |exact a9M ‹_› ‹_› ‹_› ‹_›
  |omega
  |skip
 all_goals first
  |exact(Qw ‹_› ‹_› ‹_›).2
  |exact(UA h1.1 ‹_› ‹_› ‹_› ‹_›).2
  |skip)
end Go.My
end
section
set_option linter.unusedVariables false
set_option linter.unusedSimpArgs false
namespace Go.My
open Go.Eng Go.Proofs
variable {G:GInv}
def Kd(sg:List Sg)(n l:Nat)(x y:Gs)(k:Int)(N:Nat):Prop:=chO sg n l x y k N∧(y.bad=false→y.deep≤20)
theorem a0w{sg:List Sg}{n l:Nat}{x y:Gs}{k:Int}{N:Nat}(h:chO sg n l x y k N∧(y.bad=false→y.deep≤20)):Kd sg n l x y k N:=h
def Hf(sg:List Sg)(n l:Nat)(m:List UInt8)(x y:Gs)(ks:List Int)(N M:Nat):Prop:=(chN sg n l m x y ks N∧N≤M)∧(y.bad=false→y.deep≤20)
theorem a0x{sg:List Sg}{n l:Nat}{m:List UInt8}{x y:Gs}{ks:List Int}{N M:Nat}(h:(chN sg n l m x y ks N∧N≤M)∧(y.bad=false→y.deep≤20)):Hf sg n l m x y ks N M:=h
theorem a9P{s:ST}{x:Gs}{n:Nat}{l:Int}{z:Int×Gs}(h1:rOk s x)(h2:x.bad=false→x.deep≤20)(hl:l≠6)(h0:0≤l)(h1z:Af s.sg x (pE s.sg n (.chain (l+1).toNat)) z):Kd s.sg n l.toNat x z.2 z.1 (2*s.sg.length+4):=by
 rw[show(l+1).toNat=l.toNat+1 by omega] at h1z
 exact a0w ⟨ZW h1.2 (by omega) h1z,Lk h1z h2⟩
theorem a9Q{s:ST}{x:Gs}{n:Nat}{l:Int}(h1:rOk s x)(h2:x.bad=false→x.deep≤20)(h3:12*((s.sg.length:Int)-x.pos)+(9-l.toNat:Nat)≤(n+1:Nat))(h0:0≤l)(h6:l≤6)(hl:l≠6):wP (9-(l+1).toNat) n s x:=⟨⟨h1,h2⟩,by omega⟩
theorem a9R{s:ST}{x:Gs}{n:Nat}{l:Int}(h1:rOk s x)(h2:x.bad=false→x.deep≤20)(h3:12*((s.sg.length:Int)-x.pos)+(9-l.toNat:Nat)≤(n+1:Nat))(hl:l=6):wP 2 n s x:=by
 subst hl;exact⟨⟨h1,h2⟩,by simp at h3;omega⟩
theorem a0y{s:ST}{x:Gs}{n:Nat}{l:Int}{z:Int×Gs}(hl:l=6)(h:Af s.sg x (pE s.sg n .fin) z):Af s.sg x (pE s.sg (n+1) (.chain l.toNat)) z:=by subst hl;exact a9d h
theorem a9S{s:ST}{x y:Gs}{n l:Nat}{k:Int}{N:Nat}(h1:rOk s x)(h:Kd s.sg n l x y k N):rOk s y:=⟨h1.1,h.1.1.1⟩
theorem a9T{s:ST}{x y:Gs}{n l:Nat}{m:List UInt8}{ks:List Int}{N M:Nat}(h1:rOk s x)(h:Hf s.sg n l m x y ks N M):rOk s y:=⟨h1.1,h.1.1.1.1⟩
theorem a9U{sg:List Sg}{n l:Nat}{x y:Gs}{k:Int}{N:Nat}(h:Kd sg n l x y k N)(hm:BC sg l y=[]):Af sg x (pE sg (n+1) (.chain l)) (k,y):=a9f h.1 hm
theorem a9V{sg:List Sg}{n l:Nat}{x y:Gs}{k:Int}{N:Nat}(h:Kd sg n l x y k N)(hm:BC sg l y≠[]):Hf sg n l (BC sg l y) x y [k] N N:=a0x ⟨⟨a9g h.1 hm,Nat.le_refl _⟩,h.2⟩
theorem a9W{s:ST}{x y:Gs}{n:Nat}{l:Int}{m:List UInt8}{ks:List Int}{N M:Nat}(h1:rOk s x)(h3:12*((s.sg.length:Int)-x.pos)+(9-l.toNat:Nat)≤(n+1:Nat))(h0:0≤l)(h6:l≤6)(hl:l≠6)
 (h:Hf s.sg n l.toNat m x y ks N M) (hq:isG s.sg y 4 m=true):wP (9-(l+1).toNat) n s (Ah s.sg y m):=by
 rw[Da hq]
 have hl2:=Cy hq (by omega)
 have ha:=EY h.1.1.1.1 hl2.2
 have hd:=h.2 hl2.1
 have hp:=h.1.1.2.2.2 hl2.1
 have e:(Ai y).pos=y.pos+1:=rfl
 have e2:(Ai y).deep=y.deep:=rfl
 exact⟨⟨⟨h1.1,ha⟩,fun _=>by omega⟩,by omega⟩
theorem a0z{sg:List Sg}{n:Nat}{l:Int}{x y y0:Gs}{ks:List Int}{N M:Nat}{z:Int×Gs}(h0:0≤l)(hm:BC sg l.toNat y0≠[])(h:Hf sg n l.toNat (BC sg l.toNat y0) x y ks N M)
 (hz:Af sg (Ah sg y (BC sg l.toNat y0)) (pE sg n (.chain (l+1).toNat)) z) (hq:isG sg y 4 (BC sg l.toNat y0)=true):Hf sg n l.toNat (BC sg l.toNat y0) x z.2 (ks++[z.1]) (N-1) M∧N-1<N:=by
 rw[Da hq] at hz
 rw[show(l+1).toNat=l.toNat+1 by omega] at hz
 obtain⟨a,b⟩:=Hd (a9h (Hc hm).2 h.1.1 hq hz)
 have hl2:=Cy hq (by omega)
 exact⟨a0x ⟨⟨a,by have:=h.1.2;omega⟩,Lk hz (fun _=>h.2 hl2.1)⟩,b⟩
theorem a0A{s:ST}{n l:Nat}{x y y0:Gs}{ks:List Int}{N M:Nat}(hs:sgB s.sg)(hm:BC s.sg l y0≠[])(h:Hf s.sg n l (BC s.sg l y0) x y ks N M)(hq:isG s.sg y 4 (BC s.sg l y0)=false):
 Kd s.sg n l x (Ag (Ah s.sg y (BC s.sg l y0)) ⟨7,BC s.sg l y0,ks,false⟩) (Ax (Ah s.sg y (BC s.sg l y0))) (N-1)∧N-1<M:=by
 rw[CZ hq]
 obtain⟨a,b⟩:=Hd (a9i (Hc hm).2 hs h.1.1 hq)
 obtain⟨d1,d2,d3⟩:= @Hb y ⟨7,BC s.sg l y0,ks,false⟩
 exact⟨a0w ⟨a,fun hb=>by rw[d1];exact h.2 (d3 hb)⟩,by have:=h.1.2;omega⟩
theorem a9X{s:ST}{n l:Nat}{x y:Gs}{m:List UInt8}{ks:List Int}{N M:Nat}(h1:rOk s x)(h:Hf s.sg n l m x y ks N M)(hq:isG s.sg y 4 m=false):rOk s (Ah s.sg y m):=by
 rw[CZ hq];exact⟨h1.1,h.1.1.1.1⟩
theorem a9Y{s:ST}{n l:Nat}{x y:Gs}{m:List UInt8}{ks:List Int}{N M:Nat}(hs:sgB s.sg)(h:Hf s.sg n l m x y ks N M):ks.length≤3001:=by
 have:=h.1.1.2.2.1;have:=h.1.1.1.1.1.2;have:=hs.1;omega
abbrev pkX (x:Gs):Gs:=gDp (if x.deep=20 then Bd x else x) 1
theorem Qx{s:ST}{x:Gs}{n:Nat}(h1:rOk s x)(h2:x.deep≤20)(h3:12*((s.sg.length:Int)-x.pos)+10≤(n+1:Nat)):wP (9-(0:Int).toNat) n s (pkX x)∧rOk s (pkX x):=by
 obtain⟨p1,p2,p3⟩:= @Od x
 have hok:gsOk s.sg (pkX x):=by
  unfold pkX;split
  ·exact⟨h1.2.1,by simp only[gDp,Bd];have:=h1.2.2.1;omega,h1.2.2.2⟩
  ·exact⟨h1.2.1,by simp only[gDp];have:=h1.2.2.1;omega,h1.2.2.2⟩
 exact⟨⟨⟨⟨h1.1,hok⟩,fun hb=>by have:=p3 hb;simp only[pkX] at*;omega⟩,by simp only[pkX] at*;simp;omega⟩,h1.1,hok⟩
theorem UB{s:ST}{x:Gs}{n:Nat}{z:Int×Gs}(h1:rOk s x)(h2:x.deep≤20)(h3:12*((s.sg.length:Int)-x.pos)+10≤(n+1:Nat))(hz:Af s.sg (pkX x) (pE s.sg n (.chain 0)) z)(hq:isG s.sg z.2 4 [63]=true):vP 10 n s (Ah s.sg z.2 [63]):=by
 rw[Da hq]
 have hl:=Cy hq (by omega)
 have e:=CC hz
 obtain⟨p1,p2,p3⟩:= @Od x
 have e1:(Ai z.2).pos=z.2.pos+1:=rfl
 have e2:(Ai z.2).deep=z.2.deep:=rfl
 have e3:=p3 (e.2.2.2 hl.1).1
 simp only[pkX] at*
 exact⟨⟨⟨h1.1,EY (Ey hz) hl.2⟩,by omega⟩,by omega⟩
theorem a0B{s:ST}{x:Gs}{n:Nat}{z a:Int×Gs}(h1:rOk s x)(h2:x.deep≤20)(h3:12*((s.sg.length:Int)-x.pos)+10≤(n+1:Nat))(hz:Af s.sg (pkX x) (pE s.sg n (.chain 0)) z)(hq:isG s.sg z.2 4 [63]=true)
 (ha:Af s.sg (Ah s.sg z.2 [63]) (pE s.sg n .pick) a):vP 10 n s (Al s.sg a.2 [58]):=by
 have hv:=UB h1 h2 h3 hz hq
 have e:=CC ha
 have t:=FE (m:=[58]) (Ey ha)
 have:=hv.2;have:=hv.1.2
 exact⟨⟨⟨h1.1,t.1⟩,by omega⟩,by omega⟩
theorem a0C{s:ST}{x:Gs}{n:Nat}{z a b:Int×Gs}(h1:rOk s x)(h2:x.deep≤20)(hz:Af s.sg (pkX x) (pE s.sg n (.chain 0)) z)(hq:isG s.sg z.2 4 [63]=true)
 (ha:Af s.sg (Ah s.sg z.2 [63]) (pE s.sg n .pick) a) (hb:Af s.sg (Al s.sg a.2 [58]) (pE s.sg n .pick) b):
 Af s.sg x (pE s.sg (n+1) .pick) (Ax b.2,gDp (Ag b.2 ⟨8,[],[z.1,a.1,b.1],false⟩) (-1)):=by
 rw[Da hq] at ha
 exact a8V h1.2 h2 hz hq ha hb
theorem a0D{s:ST}{x:Gs}{n:Nat}{z:Int×Gs}(h1:rOk s x)(h2:x.deep≤20)(hz:Af s.sg (pkX x) (pE s.sg n (.chain 0)) z)(hq:isG s.sg z.2 4 [63]=false):Af s.sg x (pE s.sg (n+1) .pick) (z.1,gDp (Ah s.sg z.2 [63]) (-1)):=by
 rw[CZ hq];exact a8U h1.2 h2 hz hq
theorem a0E{s:ST}{x:Gs}{n:Nat}{z:Int×Gs}(h1:rOk s x)(hz:Af s.sg (pkX x) (pE s.sg n (.chain 0)) z)(hq:isG s.sg z.2 4 [63]=false):0≤(Ah s.sg z.2 [63]).deep∧(Ah s.sg z.2 [63]).deep≤21:=by
 rw[CZ hq];exact(Ey hz).2.1
theorem Qy{g:Gs}{x:Nd}:(Ag g x).deep=g.deep:=Hb.1
theorem a0F{α:Type}{sg:List Sg}{x:Gs}{f:Ps→Option (α×Ps)}{y:α×Gs}(h:Af sg x f y):0≤y.2.deep∧y.2.deep≤21:=(Ey h).2.1
theorem a0G{s:ST}{x:Gs}{n:Nat}(h1:rOk s x)(h2:x.deep≤20)(h3:12*((s.sg.length:Int)-x.pos)+11≤(n+1:Nat)):vP 10 n s x:=⟨⟨h1,h2⟩,by omega⟩
def vaJ(sg:List Sg)(n:Nat)(x y:Gs)(ks:List Int)(N:Nat):Prop:=Ka sg n x y ks N∧y.deep≤20
theorem UC{sg:List Sg}{n:Nat}{x y:Gs}{ks:List Int}{N:Nat}(h:Ka sg n x y ks N∧y.deep≤20):vaJ sg n x y ks N:=h
theorem a0H{s:ST}{x:Gs}{n:Nat}{z:Int×Gs}(h1:rOk s x)(hz:Af s.sg x (pE s.sg n .pick) z)(hq:isG s.sg z.2 4 [46,46]=false):Af s.sg x (pE s.sg (n+1) .value) z:=a8W h1.2 hz hq
theorem a0I{s:ST}{x:Gs}{n:Nat}{z:Int×Gs}(h1:rOk s x)(h2:x.deep≤20)(hz:Af s.sg x (pE s.sg n .pick) z)(hq:isG s.sg z.2 4 [46,46]=true):vaJ s.sg n x z.2 [z.1] (s.sg.length+1):=UC ⟨a8X h1.2 hz hq,by have:=(CC hz).1;omega⟩
theorem Qz{s:ST}{x y:Gs}{n:Nat}{ks:List Int}{N:Nat}(h1:rOk s x)(h:vaJ s.sg n x y ks N):rOk s y:=⟨h1.1,h.1.1.1⟩
theorem a0J{s:ST}{x y:Gs}{n:Nat}{ks:List Int}{N:Nat}(hs:sgB s.sg)(h:vaJ s.sg n x y ks N):ks.length≤3001:=by
 have:=h.1.2.2.1;have:=h.1.1.1.1.2;have:=hs.1;omega
theorem UD{s:ST}{x y:Gs}{n:Nat}{ks:List Int}{N:Nat}(h1:rOk s x)(h:vaJ s.sg n x y ks N)(hq:isG s.sg y 4 [46,46]=true):rOk s (Ah s.sg y [46,46]):=by
 rw[Da hq];exact⟨h1.1,EY h.1.1.1 (Cy hq (by omega)).2⟩
theorem a9Z{s:ST}{x y:Gs}{n:Nat}{ks:List Int}{N:Nat}(h1:rOk s x)(h3:12*((s.sg.length:Int)-x.pos)+11≤(n+1:Nat))(h:vaJ s.sg n x y ks N)(hq:isG s.sg y 4 [46,46]=true):wP 11 n s (Cz s.sg (Ah s.sg y [46,46])):=by
 have hk:=UD h1 h hq
 rw[Da hq] at hk ⊢
 have hl:=Cy hq (by omega)
 have e:=IZ h1.1 hk.2
 have e1:(Cz s.sg (Ai y)).deep=(Ai y).deep:=e.1.2.1
 have e2:(Ai y).pos≤(Cz s.sg (Ai y)).pos:=e.1.2.2.1
 have e3:(Ai y).pos=y.pos+1:=rfl
 have e4:(Ai y).deep=y.deep:=rfl
 have:=h.1.1.2.2.1;have:=h.2
 exact⟨⟨⟨h1.1,Ey e⟩,fun _=>by omega⟩,by omega⟩
theorem a0K{s:ST}{x y:Gs}{n N:Nat}{ks:List Int}{w:Int×Gs}(h1:rOk s x)(h:vaJ s.sg n x y ks N)(hq:isG s.sg y 4 [46,46]=true)
 (hw:Af s.sg (Cz s.sg (Ah s.sg y [46,46])) (CP s.sg (pE s.sg n .value) (Dj s.sg (Ah s.sg y [46,46]))) w):vaJ s.sg n x w.2 (ks++[w.1]) (N-1)∧N-1<N:=by
 have hk:=UD h1 h hq
 rw[Da hq] at hw hk
 obtain⟨a,b⟩:=Hd (a8Y h1.1 h.1 hq hw)
 have e:=IZ h1.1 hk.2
 have e1:(Cz s.sg (Ai y)).deep=(Ai y).deep:=e.1.2.1
 have e4:(Ai y).deep=y.deep:=rfl
 have:=(CC hw).1;have:=h.2
 exact⟨UC ⟨a,by omega⟩,b⟩
theorem a0L{s:ST}{x y:Gs}{n N:Nat}{ks:List Int}(h1:rOk s x)(h:vaJ s.sg n x y ks N)(hq:isG s.sg y 4 [46,46]=false):Af s.sg x (pE s.sg (n+1) .value) (Ax (Ah s.sg y [46,46]),Ag (Ah s.sg y [46,46]) ⟨10,[],ks,false⟩):=by
 rw[CZ hq];exact a8Z h.1 hq h1.1
theorem a0M{s:ST}{x y:Gs}{n N:Nat}{ks:List Int}(h1:rOk s x)(h:vaJ s.sg n x y ks N)(hq:isG s.sg y 4 [46,46]=false):rOk s (Ah s.sg y [46,46]):=by
 rw[CZ hq];exact Qz h1 h
attribute [local irreducible] pE Bl CP fnR Af Bm gsOk Al Bs Ag BX CY Ah Cz Dj Ax BB pkG isG nmG
def QA(n:Nat)(x:ST×Int×Int×Bool×List Nd×Int)(j:Int×Int×Bool×List Nd×Int×Nat):LS:= {
 ι:=Int×Int×Bool×List Nd×List Int×Nat,inv:=fun i=>Hf x.1.sg n x.2.2.2.2.2.toNat (BC x.1.sg x.2.2.2.2.2.toNat (iG j)) (xh x) (iG i) i.2.2.2.2.1 i.2.2.2.2.2 j.2.2.2.2.2,
 regs:=fun i=>[(0,rdG x.1 (iG i)),(1,.int .i64 x.2.2.2.2.2),(6,.str (BC x.1.sg x.2.2.2.2.2.toNat (iG j))),(7,Ab i.2.2.2.2.1)],als:=[],meas:=fun i=>i.2.2.2.2.2}
def QB(n:Nat)(x:ST×Int×Int×Bool×List Nd×Int):LS:= {
 ι:=Int×Int×Bool×List Nd×Int×Nat,inv:=fun i=>Kd x.1.sg n x.2.2.2.2.2.toNat (xh x) (iG i) i.2.2.2.2.1 i.2.2.2.2.2,regs:=fun i=>[(0,rdG x.1 (iG i)),(1,.int .i64 x.2.2.2.2.2),(5,.int .i64 i.2.2.2.2.1)],als:=[],meas:=fun i=>i.2.2.2.2.2,
 sub:=fun j=>[(8,QA n x j)]}
def QC(n:Nat):Sig:= {X:=ST×Int×Int×Bool×List Nd×Int,args:=fun x=>[rdG x.1 (xh x),.int .i64 x.2.2.2.2.2],pre:=fun x=>wP (9-x.2.2.2.2.2.toNat) (n+1) x.1 (xh x)∧0≤x.2.2.2.2.2∧x.2.2.2.2.2≤6,Y:=Int×Int×Int×Bool×List Nd,post:=fun x y=>Af x.1.sg (xh x) (pE x.1.sg (n+1) (.chain x.2.2.2.2.2.toNat)) (yS y),res:=fun x y=> .int .i64 y.1,outs:=fun x y=>[rdG x.1 (yG y.2),.top],keep:=true}
theorem b0a(n:Nat)(h:rAll G n):Aj G Tryz.prog 190 (QC n):=
 vcFun_okP [(193,0,(Qr n)),(190,0,(Kc n)),(194,0,Ll),(163,0,CL),(104,0,BS)] [(45,⟨Int,Bb⟩)] false (fun x=>[(4,QB n x)]) Tryz.func190 rfl (by decide) ⟨h.fin,h.chain,a9D,Ja,GB,trivial⟩ (fun(x:ST×Int×Int×Bool×List Nd×Int)=>True∧Aa (x.2.2.2.2.2==(6:Int)) (cA (Qr n) [rdG x.1 (xh x)] fun x_1 y=>rA (QC n) x [.int .i64 y.1,rdG x_1.1 (yG y.2),.top]) (inR IntKind.i64 (x.2.2.2.2.2+(1:Int))∧cA (Kc n) [rdG x.1 (xh x),.int .i64 (x.2.2.2.2.2+(1:Int))] fun x_1 y=>eA (QB n x) [rdG x_1.1 (yG y.2),.int .i64 x.2.2.2.2.2,.int .i64 y.1]∧∀(i:Int×Int×Bool×List Nd×Int×Nat),Kd x.1.sg n (Int.toNat x.2.2.2.2.2) (xh x) (iG i) i.2.2.2.2.1 i.2.2.2.2.2→cA Ll [rdG x.1 (iG i),.int .i64 x.2.2.2.2.2] fun x_2 y=>Aa (BC x_2.1.sg (Int.toNat x_2.2.2.2.2.2) (xh x_2)== #[].toList) (rA (QC n) x [.int .i64 i.2.2.2.2.1,rdG x_2.1 (xh x_2),.top]) (∃(x_3:Int),i.2.2.2.2.1=x_3∧eA (QA n x i) [rdG x_2.1 (xh x_2),.int .i64 x.2.2.2.2.2,.str (BC x_2.1.sg (Int.toNat x_2.2.2.2.2.2) (xh x_2)),Ab [x_3]]∧∀(i_1:Int×Int×Bool×List Nd×List Int×Nat),Hf x.1.sg n (Int.toNat x.2.2.2.2.2) (BC x.1.sg (Int.toNat x.2.2.2.2.2) (iG i)) (xh x) (iG i_1) i_1.2.2.2.2.1 i_1.2.2.2.2.2 i.2.2.2.2.2→cA CL [rdG x.1 (iG i_1),.str (BC x.1.sg (Int.toNat x.2.2.2.2.2) (iG i))] fun x_4 y=>Aa (isG x_4.1.sg (xh x_4) (4:Int) x_4.2.2.2.2.2) (inR IntKind.i64 (x.2.2.2.2.2+(1:Int))∧cA (Kc n) [rdG x_4.1 (Ah x_4.1.sg (xh x_4) x_4.2.2.2.2.2),.int .i64 (x.2.2.2.2.2+(1:Int))] fun x_5 y=>∃(x_6:Int),y.1=x_6∧∃(zs:List Int),Ab [x_6]=Ab zs∧Be Bb∧AS (List.length i_1.2.2.2.2.1+List.length zs) (8:Nat)∧eN (QA n x i) i_1 [rdG x_5.1 (yG y.2),.int .i64 x.2.2.2.2.2,.str (BC x.1.sg (Int.toNat x.2.2.2.2.2) (iG i)),Ab (i_1.2.2.2.2.1++zs)]) (cA BS [rdG x_4.1 (Ah x_4.1.sg (xh x_4) x_4.2.2.2.2.2),.agg [.int .i64 (7:Int),.str (BC x.1.sg (Int.toNat x.2.2.2.2.2) (iG i)),Ab i_1.2.2.2.2.1,.bool false]] fun x_5 y=>eN (QB n x) i [rdG x_5.1 (Ag (xh x_5) {kind:=x_5.2.2.2.2.2.1,text:=x_5.2.2.2.2.2.2.1,kids:=x_5.2.2.2.2.2.2.2.1,blank:=x_5.2.2.2.2.2.2.2.2}),.int .i64 x.2.2.2.2.2,.int .i64 (Ax (xh x_5))])))) (fun x=>by kernel_rfl) fun(x:ST×Int×Int×Bool×List Nd×Int) (hx:wP (9-x.2.2.2.2.2.toNat) (n+1) x.1 (xh x)∧0≤x.2.2.2.2.2∧x.2.2.2.2.2≤6)=>(by
 dsimp only[cA,eA,eN,QA,QB,mbs,Bg,Ab,Au,rA,rdG,BS,Kc,QC,Qr,Ll,CL,Bj,sgs,Av,AB,mvL,lnL,mvE,lnE,Bw]
 obtain⟨s,p,d,b,ns,e⟩:=x;dsimp only[xg,xh] at hx ⊢
 obtain⟨⟨⟨h1,h2⟩,h3⟩,h4,h5⟩:=hx
 (repeat' first|(with_reducible first|rfl|exact True.intro|apply AK|apply And.intro|((first|apply Az|apply AI|apply AA|apply AJ)<;>intro _))|(apply Aw<;>intro _)|apply AH|refine Ae () ?_ ?_|((first|apply AO|apply AN|apply AM|apply AL|apply AG|apply AF|apply AE|apply AD|apply AC)<;>try dsimp only)|apply Ae|(refine Prod.forall.2 ?_;intro _;try dsimp only)|(intro _;try dsimp only))
 all_goals(try dsimp only[xg,xh,yG,yS,iG] at*)
 all_goals(try simp only[CM] at*)
 all_goals first
  |(show Nat;skip)
  |rfl
  |assumption
  |exact a9R (x:=⟨p,d,b,ns⟩) h1 h2 h3 ‹_›
  |exact a0y ‹_› ‹_›
  |exact a9Q (x:=⟨p,d,b,ns⟩) h1 h2 h3 h4 h5 ‹_›
  |exact a9P (x:=⟨p,d,b,ns⟩) h1 h2 ‹_› h4 ‹_›
  |exact a9S h1 ‹_›
  |exact a9T h1 ‹_›
  |exact a9U ‹_› ‹_›
  |exact a9V ‹_› ‹_›
  |exact a9W (x:=⟨p,d,b,ns⟩) h1 h3 h4 h5 ‹_› ‹_› ‹_›
  |exact(a0z h4 ‹_› ‹_› ‹_› ‹_›).1
  |exact(a0A h1.1 ‹_› ‹_› ‹_›).1
  |exact a9X h1 ‹_› ‹_›
  |omega
  |(have hq:=a9Y h1.1 (show Hf _ _ _ _ _ _ _ _ _ by assumption);(try simp only[AS,List.length_append,List.length_cons,List.length_nil]);omega)
  |((try simp only[AS,AR,List.length_append,List.length_cons,List.length_nil]);omega)
  |skip
 all_goals first
  |exact(a0z h4 ‹_› ‹_› ‹_› ‹_›).2
  |exact(a0A h1.1 ‹_› ‹_› ‹_›).2
  |skip)
def QD(n:Nat):Sig:= {X:=ST×Int×Int×Bool×List Nd,args:=fun x=>[rdG x.1 (xg x)],pre:=fun x=>vP 10 (n+1) x.1 (xg x),Y:=Int×Int×Int×Bool×List Nd,post:=fun x y=>Af x.1.sg (xg x) (pE x.1.sg (n+1) .pick) (yS y),res:=fun x y=> .int .i64 y.1,outs:=fun x y=>[rdG x.1 (yG y.2)],keep:=true}
theorem b0b(n:Nat)(h:rAll G n):Aj G Tryz.prog 180 (QD n):=
 vcFun_okP [(169,0,Iu),(190,0,(Kc n)),(163,0,CL),(180,0,(HD n)),(137,0,CA),(104,0,BS)] [(45,⟨Int,Bb⟩)] false (fun x=>[]) Tryz.func180 rfl (by decide) ⟨ZJ,h.chain,Ja,h.pick,Jb,GB,trivial⟩ (fun(x:ST×Int×Int×Bool×List Nd)=>True∧cA Iu [rdG x.1 (xg x)] fun x_1 y=>cA (Kc n) [.box 0 [sgs x_1.1.sg,.int .i64 x_1.1.z,.int .i64 (gDp (if(xg x_1).deep=(20:Int) then Bd (xg x_1) else xg x_1) (1:Int)).pos,.int .i64 (gDp (if(xg x_1).deep=(20:Int) then Bd (xg x_1) else xg x_1) (1:Int)).deep,.bool (gDp (if(xg x_1).deep=(20:Int) then Bd (xg x_1) else xg x_1) (1:Int)).bad,Au (gDp (if(xg x_1).deep=(20:Int) then Bd (xg x_1) else xg x_1) (1:Int)).nodes,mbs x_1.1.ms],.int .i64 (0:Int)] fun x_2 y=>cA CL [rdG x_2.1 (yG y.2),.str #[(63:UInt8)].toList] fun x_3 y_1=>Aa (isG x_3.1.sg (xh x_3) (4:Int) x_3.2.2.2.2.2) (cA (HD n) [rdG x_3.1 (Ah x_3.1.sg (xh x_3) x_3.2.2.2.2.2)] fun x_4 y_2=>cA CA [rdG x_4.1 (yG y_2.2),.str #[(58:UInt8)].toList] fun x_5 y_3=>cA (HD n) [rdG x_5.1 (Al x_5.1.sg (xh x_5) x_5.2.2.2.2.2)] fun x_6 y_4=>∃(x_7:Int),y.1=x_7∧∃(x_8:Int),y_2.1=x_8∧∃(x_9:Int),y_4.1=x_9∧cA BS [rdG x_6.1 (yG y_4.2),.agg [.int .i64 (8:Int),.str #[].toList,Ab [x_7,x_8,x_9],.bool false]] fun x_10 y=>inR IntKind.i64 ((Ag (xh x_10) {kind:=x_10.2.2.2.2.2.1,text:=x_10.2.2.2.2.2.2.1,kids:=x_10.2.2.2.2.2.2.2.1,blank:=x_10.2.2.2.2.2.2.2.2}).deep-(1:Int))∧rA (QD n) x [.int .i64 (Ax (xh x_10)),.box 0 [sgs x_10.1.sg,.int .i64 x_10.1.z,.int .i64 (Ag (xh x_10) {kind:=x_10.2.2.2.2.2.1,text:=x_10.2.2.2.2.2.2.1,kids:=x_10.2.2.2.2.2.2.2.1,blank:=x_10.2.2.2.2.2.2.2.2}).pos,.int .i64 ((Ag (xh x_10) {kind:=x_10.2.2.2.2.2.1,text:=x_10.2.2.2.2.2.2.1,kids:=x_10.2.2.2.2.2.2.2.1,blank:=x_10.2.2.2.2.2.2.2.2}).deep-(1:Int)),.bool (Ag (xh x_10) {kind:=x_10.2.2.2.2.2.1,text:=x_10.2.2.2.2.2.2.1,kids:=x_10.2.2.2.2.2.2.2.1,blank:=x_10.2.2.2.2.2.2.2.2}).bad,Au (Ag (xh x_10) {kind:=x_10.2.2.2.2.2.1,text:=x_10.2.2.2.2.2.2.1,kids:=x_10.2.2.2.2.2.2.2.1,blank:=x_10.2.2.2.2.2.2.2.2}).nodes,mbs x_10.1.ms]]) (inR IntKind.i64 ((Ah x_3.1.sg (xh x_3) x_3.2.2.2.2.2).deep-(1:Int))∧rA (QD n) x [.int .i64 y.1,.box 0 [sgs x_3.1.sg,.int .i64 x_3.1.z,.int .i64 (Ah x_3.1.sg (xh x_3) x_3.2.2.2.2.2).pos,.int .i64 ((Ah x_3.1.sg (xh x_3) x_3.2.2.2.2.2).deep-(1:Int)),.bool (Ah x_3.1.sg (xh x_3) x_3.2.2.2.2.2).bad,Au (Ah x_3.1.sg (xh x_3) x_3.2.2.2.2.2).nodes,mbs x_3.1.ms]])) (fun x=>by kernel_rfl) fun(x:ST×Int×Int×Bool×List Nd) (hx:vP 10 (n+1) x.1 (xg x))=>(by
 dsimp only[cA,mbs,Bg,Ab,Au,rA,rdG,BS,Kc,Iu,HD,QD,CL,CA,Bj,sgs,Av,AB,mvL,lnL,mvE,lnE]
 obtain⟨s,p,d,b,ns⟩:=x;dsimp only[xg,xh] at hx ⊢
 obtain⟨⟨h1,h2⟩,h3⟩:=hx
 (repeat' first|(with_reducible first|rfl|exact True.intro|apply AK|apply And.intro|((first|apply Az|apply AI|apply AA|apply AJ)<;>intro _))|(apply Aw<;>intro _)|apply AH|refine Ae () ?_ ?_|((first|apply AO|apply AN|apply AM|apply AL|apply AG|apply AF|apply AE|apply AD|apply AC)<;>try dsimp only)|apply Ae|(refine Prod.forall.2 ?_;intro _;try dsimp only)|(intro _;try dsimp only))
 all_goals(try dsimp only[xg,xh,yG,yS,iG] at*)
 all_goals(try simp only[CM] at*)
 all_goals first
  |rfl
  |assumption
  |exact(Qx (x:=⟨p,d,b,ns⟩) h1 h2 h3).1
  |exact(Qx (x:=⟨p,d,b,ns⟩) h1 h2 h3).2
  |exact Dq h1 ‹_›
  |exact UB (x:=⟨p,d,b,ns⟩) h1 h2 h3 ‹_› ‹_›
  |exact a0B (x:=⟨p,d,b,ns⟩) h1 h2 h3 ‹_› ‹_› ‹_›
  |exact a0C (x:=⟨p,d,b,ns⟩) h1 h2 ‹_› ‹_› ‹_› ‹_›
  |exact a0D (x:=⟨p,d,b,ns⟩) h1 h2 ‹_› ‹_›
  |(have hq:=a0E (x:=⟨p,d,b,ns⟩) h1 ‹_› ‹_›;(try dsimp only at hq);(try simp only[AR]);omega)
  |(have hq:=a0F (show Af s.sg (Al s.sg _ _) _ _ by assumption);(try dsimp only at hq);(try simp only[AR,Qy]);omega)
  |omega
  |skip)
def QE(n:Nat):Sig:= {X:=ST×Int×Int×Bool×List Nd,args:=fun x=>[rdG x.1 (xg x)],pre:=fun x=>vP 11 (n+1) x.1 (xg x),Y:=Int×Int×Int×Bool×List Nd,post:=fun x y=>Af x.1.sg (xg x) (pE x.1.sg (n+1) .value) (yS y),res:=fun x y=> .int .i64 y.1,outs:=fun x y=>[rdG x.1 (yG y.2)],keep:=true}
def QF(n:Nat)(x:ST×Int×Int×Bool×List Nd):LS:= {ι:=Int×Int×Bool×List Nd×List Int×Nat,inv:=fun i=>vaJ x.1.sg n (xg x) (iG i) i.2.2.2.2.1 i.2.2.2.2.2,regs:=fun i=>[(0,rdG x.1 (iG i)),(4,Ab i.2.2.2.2.1)],als:=[],meas:=fun i=>i.2.2.2.2.2}
theorem b0c(n:Nat)(h:rAll G n):Aj G Tryz.prog 164 (QE n):=
 vcFun_okP [(180,0,(HD n)),(166,0,Cw),(163,0,CL),(139,0,GC),(181,0,(Jd n)),(104,0,BS)] [(45,⟨Int,Bb⟩)] false (fun x=>[(5,QF n x)]) Tryz.func164 rfl (by decide) ⟨h.pick,HB,Ja,Ul,(a0k n h),GB,trivial⟩ (fun(x:ST×Int×Int×Bool×List Nd)=>True∧cA (HD n) [rdG x.1 (xg x)] fun x_1 y=>cA Cw [rdG x_1.1 (yG y.2),.str #[(46:UInt8),(46:UInt8)].toList] fun x_2 y_1=>Aa (!isG x_2.1.sg (xh x_2) (4:Int) x_2.2.2.2.2.2) (rA (QE n) x [.int .i64 y.1,rdG x_2.1 (xh x_2)]) (∃(x_3:Int),y.1=x_3∧eA (QF n x) [rdG x_2.1 (xh x_2),Ab [x_3]]∧∀(i:Int×Int×Bool×List Nd×List Int×Nat),vaJ x.1.sg n (xg x) (iG i) i.2.2.2.2.1 i.2.2.2.2.2→cA CL [rdG x.1 (iG i),.str #[(46:UInt8),(46:UInt8)].toList] fun x_4 y=>Aa (isG x_4.1.sg (xh x_4) (4:Int) x_4.2.2.2.2.2) (cA GC [rdG x_4.1 (Ah x_4.1.sg (xh x_4) x_4.2.2.2.2.2)] fun x_5 y=>cA (Jd n) [rdG x_5.1 (Cz x_5.1.sg (xg x_5)),.int .i64 (Dj x_5.1.sg (xg x_5))] fun x_6 y=>∃(x_7:Int),y.1=x_7∧∃(zs:List Int),Ab [x_7]=Ab zs∧Be Bb∧AS (List.length i.2.2.2.2.1+List.length zs) (8:Nat)∧eN (QF n x) i [rdG x_6.1 (yG y.2),Ab (i.2.2.2.2.1++zs)]) (cA BS [rdG x_4.1 (Ah x_4.1.sg (xh x_4) x_4.2.2.2.2.2),.agg [.int .i64 (10:Int),.str #[].toList,Ab i.2.2.2.2.1,.bool false]] fun x_5 y=>rA (QE n) x [.int .i64 (Ax (xh x_5)),rdG x_5.1 (Ag (xh x_5) {kind:=x_5.2.2.2.2.2.1,text:=x_5.2.2.2.2.2.2.1,kids:=x_5.2.2.2.2.2.2.2.1,blank:=x_5.2.2.2.2.2.2.2.2})]))) (fun x=>by kernel_rfl) fun(x:ST×Int×Int×Bool×List Nd) (hx:vP 11 (n+1) x.1 (xg x))=>(by
 dsimp only[cA,eA,eN,QF,mbs,Bg,Ab,Au,rA,rdG,BS,Jd,Cw,GC,HD,CL,QE,Bj,sgs,Av,AB,mvL,lnL,mvE,lnE,Bw]
 obtain⟨s,p,d,b,ns⟩:=x;dsimp only[xg,xh] at hx ⊢
 obtain⟨⟨h1,h2⟩,h3⟩:=hx
 (repeat' first|(with_reducible first|rfl|exact True.intro|apply AK|apply And.intro|((first|apply Az|apply AI|apply AA|apply AJ)<;>intro _))|(apply Aw<;>intro _)|apply AH|refine Ae () ?_ ?_|((first|apply AO|apply AN|apply AM|apply AL|apply AG|apply AF|apply AE|apply AD|apply AC)<;>try dsimp only)|apply Ae|(refine Prod.forall.2 ?_;intro _;try dsimp only)|(intro _;try dsimp only))
 all_goals(try dsimp only[xg,xh,yG,yS,iG] at*)
 all_goals(try simp only[CM] at*)
 all_goals first
  |(show Nat;skip)
  |rfl
  |assumption
  |exact a0G (x:=⟨p,d,b,ns⟩) h1 h2 h3
  |exact Dq h1 ‹_›
  |exact a0H (x:=⟨p,d,b,ns⟩) h1 ‹_› ‹_›
  |exact a0I (x:=⟨p,d,b,ns⟩) h1 h2 ‹_› ‹_›
  |exact Qz (x:=⟨p,d,b,ns⟩) h1 ‹_›
  |exact UD (x:=⟨p,d,b,ns⟩) h1 ‹_› ‹_›
  |exact a9Z (x:=⟨p,d,b,ns⟩) h1 h3 ‹_› ‹_›
  |exact(a0K (x:=⟨p,d,b,ns⟩) h1 ‹_› ‹_› ‹_›).1
  |exact a0L (x:=⟨p,d,b,ns⟩) h1 ‹_› ‹_›
  |exact a0M (x:=⟨p,d,b,ns⟩) h1 ‹_› ‹_›
  |(have hq:=a0J h1.1 (show vaJ _ _ _ _ _ _ by assumption);(try simp only[AS,List.length_append,List.length_cons,List.length_nil]);omega)
  |((try simp only[AS,AR,List.length_append,List.length_cons,List.length_nil]);omega)
  |skip
 all_goals first
  |exact(a0K (x:=⟨p,d,b,ns⟩) h1 ‹_› ‹_› ‹_›).2
  |skip)
end Go.My
end
section
set_option linter.unusedVariables false
set_option linter.unusedSimpArgs false
namespace Go.My
open Go.Eng
theorem DF{k:Int}{t:List UInt8}{ks:List Int}{b:Bool}(ht:t.length≤3000)(hk:ks.length≤4000):Cv ⟨k,t,ks,b⟩:=⟨ht,hk⟩
theorem Ke{α:Type}{sg:List Sg}{x:Gs}{f g:Ps→Option (α×Ps)}{y:α×Gs}(h:Af sg x g y)(e:∀s,pur x=some s→f s=g s):Af sg x f y:=by
 have e2:(pur x).bind f=(pur x).bind g:=by
  cases hp:pur x with
  |none=>rfl
  |some s=>exact e s hp
 obtain⟨⟨a1,a2,a3,a4,a5⟩,b⟩:=h
 exact⟨⟨a1,a2,a3,by rw[e2];exact a4,by rw[e2];exact a5⟩,b⟩
theorem Lm{α:Type}{sg:List Sg}{x:Gs}{k:Int}{m:List UInt8}{f g:Ps→Option (α×Ps)}{y:α×Gs}(hx:gsOk sg x)(hk:k≠0)(hm:isG sg x k m=true)(h:Bm sg (Ai x) g y)
 (e:∀s,pur x=some s→isT sg s k m=true→f s=g (adv s)):Af sg x f y:=by
 have k1:=Gb (g':=g) (Dp (f:=f) hx) hk hm e
 have k2:=BJ (k:=fun a s=>some (a,s)) k1 h (fun s _=>by cases g s<;>rfl)
 refine⟨FC k2,fun _=> ?_⟩
 have:=h.2.2.1
 simp only[Ai] at this;omega
theorem Ln{sg:List Sg}{x y:Gs}{f:Ps→PR}{w:Nd}{m:List UInt8}(h:restP sg x f y (Bo sg m w) 0)(hw:Cv w):Af sg x f (BB sg y m,Bs sg y m w):=by
 refine⟨Qo h hw,fun hb=> ?_⟩
 have:=(JW (m:=m) h.1 hw).2 hb
 have:=h.2.2.1
 simp only at*;omega
theorem QG{sg:List Sg}{x y:Gs}{f:Ps→PR}{w:Nd}(h:restP sg x f y (Ba w) 0)(hw:Cv w)(hp:y.bad=false→x.pos<y.pos):Af sg x f (Ax y,Ag y w):=by
 obtain⟨d1,d2,d3⟩:= @Hb y w
 exact⟨Qn h hw,fun hb=>by simp only[d2];exact hp (d3 hb)⟩
theorem a0N{sg:List Sg}{x:Gs}{b:Bool}(h:gsOk sg x):restP sg x (Dm sg b) (BQ sg x) (fun s=>if isM sg s [61] then(Ca sg (adv s)).bind fun q=>Bo sg [59] ⟨12,BR sg x,[q.1],b⟩ q.2 else Bo sg [59] ⟨12,BR sg x,[],b⟩ s) 0:=
 BJ (k:=fun t s=>if isM sg s [61] then(Ca sg (adv s)).bind fun q=>Bo sg [59] ⟨12,t,[q.1],b⟩ q.2 else Bo sg [59] ⟨12,t,[],b⟩ s) (Dp h) (MC h).1 (fun _ _=>rfl)
theorem Hg{sg:List Sg}{x:Gs}(hs:sgB sg):(BR sg x).length≤3000:=by
 unfold BR;split
 ·exact JX hs
 ·simp
theorem b0d{sg:List Sg}{x:Gs}{b:Bool}(hs:sgB sg)(h:gsOk sg x)(hq:isG sg (BQ sg x) 4 [61]=false):
 Af sg x (Dm sg b) (BB sg (BQ sg x) [59],Bs sg (BQ sg x) [59] ⟨12,BR sg x,[],b⟩):=
 Ln (Dy (a0N h) (fun s hs=>by rw[if_neg (by simp [Et hs hq])])) (DF (Hg hs) (by simp))
theorem b0e{sg:List Sg}{x:Gs}{b:Bool}{z:Int×Gs}(hs:sgB sg)(h:gsOk sg x)(hq:isG sg (BQ sg x) 4 [61]=true)(hz:Af sg (Ai (BQ sg x)) (Ca sg) z):
 Af sg x (Dm sg b) (BB sg z.2 [59],Bs sg z.2 [59] ⟨12,BR sg x,[z.1],b⟩):=by
 have k1:=Gb (g':=fun s=>(Ca sg s).bind fun q=>Bo sg [59] ⟨12,BR sg x,[q.1],b⟩ q.2) (a0N h) (by omega) hq (fun s hs ht=>by rw[if_pos (show isM sg s [61]=true from ht)])
 have k2:=BJ (k:=fun k s=>Bo sg [59] ⟨12,BR sg x,[k],b⟩ s) k1 hz.1 (fun _ _=>rfl)
 exact Ln k2 (DF (Hg hs) (by simp))
def Gd(sg:List Sg)(b:Bool)(s:Ps):PR:=if isM sg s [59] then Bo sg [59] ⟨15,[],[],b⟩ s else(Ca sg s).bind fun p=>Bo sg [59] ⟨15,[],[p.1],b⟩ p.2
theorem a0O{sg:List Sg}{x:Gs}{b:Bool}(h:gsOk sg x)(hq:isG sg x 4 [59]=true):Af sg x (Gd sg b) (BB sg x [59],Bs sg x [59] ⟨15,[],[],b⟩):=
 Ln (Dy (Dp h) (fun s hs=>by rw[Gd,if_pos (HC hs hq)])) (DF (by simp) (by simp))
theorem a0P{sg:List Sg}{x:Gs}{b:Bool}{z:Int×Gs}(h:gsOk sg x)(hq:isG sg x 4 [59]=false)(hz:Af sg x (Ca sg) z):Af sg x (Gd sg b) (BB sg z.2 [59],Bs sg z.2 [59] ⟨15,[],[z.1],b⟩):=by
 have k1:=Dy (Dp (f:=Gd sg b) h) (g':=fun s=>(Ca sg s).bind fun p=>Bo sg [59] ⟨15,[],[p.1],b⟩ p.2) (fun s hs=>by rw[Gd,if_neg (by simp [Et hs hq])])
 have k2:=BJ (k:=fun k s=>Bo sg [59] ⟨15,[],[k],b⟩ s) k1 hz.1 (fun _ _=>rfl)
 exact Ln k2 (DF (by simp) (by simp))
theorem a0Q{sg:List Sg}{x:Gs}{z:Int×Gs}(h:gsOk sg x)(hz:Af sg (Al sg x [40]) (Ca sg) z):Bm sg x (Di sg) (z.1,Al sg z.2 [41]):=by
 have k1:=Ha (g':=fun s1=>(Ca sg s1).bind fun p=>(BF sg [41] p.2).map fun s2=>(p.1,s2)) (Dp (f:=Di sg) h) (fun _ _=>rfl)
 have k2:=BJ (k:=fun k s=>(BF sg [41] s).map fun s2=>(k,s2)) k1 hz.1 (fun _ _=>rfl)
 have k3:=Ha (g':=fun s=>some (z.1,s)) k2 (fun s _=>by cases BF sg [41] s<;>rfl)
 exact FC k3
theorem b0f{sg:List Sg}{one:Bool→Ps→PR}{m:List UInt8}{N:Nat}{ks:List Int}{s:Ps}(h:isM sg s m=true):CK sg one m (N+1) ks s=some (ks,s):=by rw[CK,if_pos h]
theorem b0g{sg:List Sg}{one:Bool→Ps→PR}{m:List UInt8}{N:Nat}{ks:List Int}{s:Ps}(h:isM sg s m=false):CK sg one m (N+1) ks s=(one ((sgO sg s.pos).blank&&decide (0<ks.length)) s).bind fun p=>CK sg one m N (ks++[p.1]) p.2:=by rw[CK,if_neg (by simp [h])]
def Iv(sg:List Sg)(one:Bool→Ps→PR)(m:List UInt8)(x y:Gs)(ks:List Int)(N:Nat):Prop:=
 restP sg x (CK sg one m (sg.length+1) []) y (CK sg one m N ks) 0∧(y.bad=false→(sg.length:Int)-y.pos<N)∧(ks.length:Int)≤y.pos+1∧(y.bad=false→(ks.length:Int)≤y.pos)
theorem QH{sg:List Sg}{one:Bool→Ps→PR}{m:List UInt8}{x:Gs}(h:gsOk sg x):Iv sg one m x x [] (sg.length+1):=by
 have:=h.1
 exact⟨Dp h,fun _=>by omega,by simp;omega,fun _=>by simp;omega⟩
theorem QI{sg:List Sg}{one:Bool→Ps→PR}{m:List UInt8}{x y:Gs}{ks:List Int}{N:Nat}(h:Iv sg one m x y ks N)(hb:y.bad=true):Bm sg x (CK sg one m (sg.length+1) []) (ks,y):=Oc h.1 hb
theorem a0R{sg:List Sg}{one:Bool→Ps→PR}{m:List UInt8}{x y:Gs}{ks:List Int}{N:Nat}(h:Iv sg one m x y ks N)(hb:y.bad=false):∃M,N=M+1:=by
 have h1:=h.1.1.1;have h2:=h.2.1 hb
 match N with
 |0=>omega
 |M+1=>exact⟨M,rfl⟩
theorem QJ{sg:List Sg}{one:Bool→Ps→PR}{m:List UInt8}{x y:Gs}{ks:List Int}{N:Nat}(h:Iv sg one m x y ks N)(hq:isG sg y 4 m=true):Bm sg x (CK sg one m (sg.length+1) []) (ks,y):=by
 obtain⟨M,rfl⟩:=a0R h (Cy hq (by omega)).1
 exact FC (Dy h.1 (g':=fun s=>some (ks,s)) (fun s hs=>b0f (HC hs hq)))
theorem QK{sg:List Sg}{one:Bool→Ps→PR}{m:List UInt8}{x y:Gs}{ks:List Int}{N:Nat}{z:Int×Gs}(h:Iv sg one m x y ks N)(hb:y.bad=false)(hq:isG sg y 4 m=false)
 (hz:Af sg y (one ((pkG sg y 0).blank&&decide (0<ks.length))) z):∃M,N=M+1∧Iv sg one m x z.2 (ks++[z.1]) M:=by
 obtain⟨M,rfl⟩:=a0R h hb
 obtain⟨h1,h2,h3,h4⟩:=h
 have k1:=Dy h1 (g':=fun s=>(one ((pkG sg y 0).blank&&decide (0<ks.length)) s).bind fun p=>CK sg one m M (ks++[p.1]) p.2) (fun s hs=>by
  rw[b0g (Et hs hq)]
  obtain⟨_,rfl⟩:=Ep.1 hs
  rw[GA hb];simp)
 have k2:=BJ (k:=fun k s=>CK sg one m M (ks++[k]) s) k1 hz.1 (fun _ _=>rfl)
 have e:=CC hz
 have:=h2 hb;have:=h4 hb
 exact⟨M,rfl,k2,fun hw=>by have:=e.2.2.2 hw;omega,by simp;omega,fun hw=>by have:=e.2.2.2 hw;simp;omega⟩
theorem a0S{sg:List Sg}{one:Bool→Ps→PR}{x:Gs}(h:gsOk sg x)(hd:x.deep≤20):restP sg x (BH sg one) (Al sg (gDp (if x.deep=20 then Bd x else x) 1) [123])
 (fun s1=>(CK sg one [125] (sg.length+1) [] s1).bind fun p=>(Bo sg [125] ⟨18,[],p.1,false⟩ p.2).map fun q=>(q.1,dp q.2 (-1))) 1:=by
 have k0:restP sg x (BH sg one) (gDp (if x.deep=20 then Bd x else x) 1) (fun s=>(BF sg [123] s).bind fun s1=>(CK sg one [125] (sg.length+1) [] s1).bind fun p=>(Bo sg [125] ⟨18,[],p.1,false⟩ p.2).map fun q=>(q.1,dp q.2 (-1))) 1:=by
  split
  ·rename_i h20
   have h2:=ZN (d:=0) (g':=BH sg one) (Dp (f:=BH sg one) h) (fun s hs=>by
    obtain⟨_,rfl⟩:=Ep.1 hs
    rw[BH,if_pos (by simp only;omega)])
   refine JY (d:=0) h2 ⟨by simp only[Bd];omega,by simp only[Bd];omega⟩ (fun s hs=> ?_)
   rw[IY] at hs;cases hs
  ·rename_i h20
   refine JY (d:=0) (Dp h) ⟨by have:=h.2.1.1;omega,by omega⟩ (fun s hs=> ?_)
   obtain⟨_,rfl⟩:=Ep.1 hs
   rw[BH,if_neg (by simp only;omega)]
 exact Ha k0 (fun _ _=>rfl)
theorem b0h{sg:List Sg}{one:Bool→Ps→PR}{x:Gs}{l:List Int×Gs}(hs:sgB sg)(h:gsOk sg x)(hd:x.deep≤20)
 (hl:Bm sg (Al sg (gDp (if x.deep=20 then Bd x else x) 1) [123]) (CK sg one [125] (sg.length+1) []) l) (hll:l.1.length≤3001):
 Af sg x (BH sg one) (BB sg l.2 [125],gDp (Bs sg l.2 [125] ⟨18,[],l.1,false⟩) (-1)):=by
 have k1:=BJ (k:=fun ks s=>(Bo sg [125] ⟨18,[],ks,false⟩ s).map fun q=>(q.1,dp q.2 (-1))) (a0S h hd) hl (fun _ _=>rfl)
 have hw:Cv ⟨18,[],l.1,false⟩:=⟨by simp,by simp only;omega⟩
 have hc:=JW (m:=[125]) k1.1 hw
 have k2:=BJ (k:=fun k s=>some (k,dp s (-1))) k1 hc.1 (fun s _=>by cases Bo sg [125] ⟨18,[],l.1,false⟩ s<;>rfl)
 simp only at k2
 refine⟨FC (JY (e:= -1) k2 ?_ (fun s hs=>rfl)),fun hb=> ?_⟩
 ·have:=k2.2.1;have:=h.2.1;omega
 ·have:=hc.2 hb
  have:=k1.2.2.1
  simp only[gDp] at*;omega
def ifR(sg:List Sg)(n:Nat)(b:Bool)(s:Ps):PR:=(Di sg s).bind fun p=>(BH sg (stR sg n) p.2).bind fun q=>
 if isW sg q.2 [101,108,115,101] then(BH sg (stR sg n) (adv q.2)).bind fun r=>Ba ⟨16,[],[p.1,q.1,r.1],b⟩ r.2 else Ba ⟨16,[],[p.1,q.1],b⟩ q.2
theorem a0T{sg:List Sg}{n:Nat}{b:Bool}{x:Gs}{c q:Int×Gs}(h:gsOk sg x)(hc:Bm sg x (Di sg) c)(hq:Af sg c.2 (BH sg (stR sg n)) q):
 restP sg x (ifR sg n b) q.2 (fun s=>if isW sg s [101,108,115,101] then(BH sg (stR sg n) (adv s)).bind fun r=>Ba ⟨16,[],[c.1,q.1,r.1],b⟩ r.2 else Ba ⟨16,[],[c.1,q.1],b⟩ s) 0:=by
 have k1:=BJ (k:=fun a s=>(BH sg (stR sg n) s).bind fun q=>if isW sg q.2 [101,108,115,101] then(BH sg (stR sg n) (adv q.2)).bind fun r=>Ba ⟨16,[],[a,q.1,r.1],b⟩ r.2 else Ba ⟨16,[],[a,q.1],b⟩ q.2) (Dp (f:=ifR sg n b) h) hc (fun _ _=>rfl)
 exact BJ (k:=fun k s=>if isW sg s [101,108,115,101] then(BH sg (stR sg n) (adv s)).bind fun r=>Ba ⟨16,[],[c.1,k,r.1],b⟩ r.2 else Ba ⟨16,[],[c.1,k],b⟩ s) k1 hq.1 (fun _ _=>rfl)
theorem a0U{sg:List Sg}{n:Nat}{b:Bool}{x:Gs}{c q:Int×Gs}(h:gsOk sg x)(hc:Bm sg x (Di sg) c)(hq:Af sg c.2 (BH sg (stR sg n)) q)(he:isG sg q.2 1 [101,108,115,101]=false):
 Af sg x (ifR sg n b) (Ax q.2,Ag q.2 ⟨16,[],[c.1,q.1],b⟩):=by
 have k:=Dy (a0T (b:=b) h hc hq) (g':=Ba ⟨16,[],[c.1,q.1],b⟩) (fun s hs=>by rw[if_neg (by simp [Eu hs he])])
 refine QG k (DF (by simp) (by simp)) (fun hb=> ?_)
 have:=(CC hq).2.2.2 hb;have:=hc.2.2.1;omega
theorem a0V{sg:List Sg}{n:Nat}{b:Bool}{x:Gs}{c q r:Int×Gs}(h:gsOk sg x)(hc:Bm sg x (Di sg) c)(hq:Af sg c.2 (BH sg (stR sg n)) q)(he:isG sg q.2 1 [101,108,115,101]=true)
 (hr:Af sg (Ai q.2) (BH sg (stR sg n)) r):Af sg x (ifR sg n b) (Ax r.2,Ag r.2 ⟨16,[],[c.1,q.1,r.1],b⟩):=by
 have k:=Gb (a0T (b:=b) h hc hq) (g':=fun s=>(BH sg (stR sg n) s).bind fun r=>Ba ⟨16,[],[c.1,q.1,r.1],b⟩ r.2) (by omega) he (fun s hs ht=>by rw[if_pos (show isW sg s [101,108,115,101]=true from ht)])
 have k2:=BJ (k:=fun k s=>Ba ⟨16,[],[c.1,q.1,k],b⟩ s) k hr.1 (fun _ _=>rfl)
 refine QG k2 (DF (by simp) (by simp)) (fun hb=> ?_)
 have:=(CC hr).2.2.2 hb;have:=hc.2.2.1;have:=(CC hq).2.1
 simp only[Ai] at*;omega
def whR(sg:List Sg)(n:Nat)(b:Bool)(s:Ps):PR:=(Di sg s).bind fun p=>(BH sg (stR sg n) p.2).bind fun q=>Ba ⟨17,[],[p.1,q.1],b⟩ q.2
theorem b0i{sg:List Sg}{n:Nat}{b:Bool}{x:Gs}{c q:Int×Gs}(h:gsOk sg x)(hc:Bm sg x (Di sg) c)(hq:Af sg c.2 (BH sg (stR sg n)) q):
 Af sg x (whR sg n b) (Ax q.2,Ag q.2 ⟨17,[],[c.1,q.1],b⟩):=by
 have k1:=BJ (k:=fun a s=>(BH sg (stR sg n) s).bind fun q=>Ba ⟨17,[],[a,q.1],b⟩ q.2) (Dp (f:=whR sg n b) h) hc (fun _ _=>rfl)
 have k2:=BJ (k:=fun k s=>Ba ⟨17,[],[c.1,k],b⟩ s) k1 hq.1 (fun _ _=>rfl)
 refine QG k2 (DF (by simp) (by simp)) (fun hb=> ?_)
 have:=(CC hq).2.2.2 hb;have:=hc.2.2.1;omega
def setR(sg:List Sg)(b:Bool)(s:Ps):PR:=(Fi sg s).bind fun p=>(BF sg [61] p.2).bind fun s1=>(Ca sg s1).bind fun q=>Bo sg [59] ⟨13,p.1,[q.1],b⟩ q.2
theorem a0W{sg:List Sg}{b:Bool}{x:Gs}{z:Int×Gs}(hs:sgB sg)(h:gsOk sg x)(hz:Af sg (Al sg (BQ sg x) [61]) (Ca sg) z):
 Af sg x (setR sg b) (BB sg z.2 [59],Bs sg z.2 [59] ⟨13,BR sg x,[z.1],b⟩):=by
 have k1:=BJ (k:=fun t s=>(BF sg [61] s).bind fun s1=>(Ca sg s1).bind fun q=>Bo sg [59] ⟨13,t,[q.1],b⟩ q.2) (Dp (f:=setR sg b) h) (MC h).1 (fun _ _=>rfl)
 have k2:=Ha (g':=fun s1=>(Ca sg s1).bind fun q=>Bo sg [59] ⟨13,BR sg x,[q.1],b⟩ q.2) k1 (fun _ _=>rfl)
 have k3:=BJ (k:=fun k s=>Bo sg [59] ⟨13,BR sg x,[k],b⟩ s) k2 hz.1 (fun _ _=>rfl)
 exact Ln k3 (DF (Hg hs) (by simp))
def doR(sg:List Sg)(b:Bool)(s:Ps):PR:=(Ca sg s).bind fun p=>Bo sg [59] ⟨14,[],[p.1],b⟩ p.2
theorem a0X{sg:List Sg}{b:Bool}{x:Gs}{z:Int×Gs}(h:gsOk sg x)(hz:Af sg x (Ca sg) z):Af sg x (doR sg b) (BB sg z.2 [59],Bs sg z.2 [59] ⟨14,[],[z.1],b⟩):=by
 have k3:=BJ (k:=fun k s=>Bo sg [59] ⟨14,[],[k],b⟩ s) (Dp (f:=doR sg b) h) hz.1 (fun _ _=>rfl)
 exact Ln k3 (DF (by simp) (by simp))
theorem Jf{sg:List Sg}{n:Nat}{b:Bool}{s:Ps}:stR sg (n+1) b s=
 if(sgO sg s.pos).kind=5 then DU sg 19 b s
 else if isW sg s [118,97,114] then Dm sg b (adv s)
 else if isW sg s [114,101,116,117,114,110] then Gd sg b (adv s)
 else if isW sg s [105,102] then ifR sg n b (adv s)
 else if isW sg s [119,104,105,108,101] then whR sg n b (adv s)
 else if Dh sg s.pos&&isM sg (adv s) [61] then(Ca sg (adv (adv s))).bind fun p=>Bo sg [59] ⟨13,(sgO sg s.pos).text,[p.1],b⟩ p.2
 else doR sg b s:=rfl
theorem set_eq{sg:List Sg}{b:Bool}{s:Ps}(h:(Dh sg s.pos&&isM sg (adv s) [61])=true):(Ca sg (adv (adv s))).bind (fun p=>Bo sg [59] ⟨13,(sgO sg s.pos).text,[p.1],b⟩ p.2)=setR sg b s:=by
 simp only[Bool.and_eq_true] at h
 rw[setR,Fi,if_pos h.1]
 simp only[Option.bind_some]
 rw[BF,if_pos h.2];rfl
theorem Ge{sg:List Sg}{x:Gs}{s:Ps}(hs:pur x=some s):(sgO sg s.pos).kind=(pkG sg x 0).kind:=(Qq hs).symm
theorem a0Y{sg:List Sg}{x:Gs}{n:Nat}{b:Bool}(hs:sgB sg)(h:gsOk sg x)(hk:(pkG sg x 0).kind=5):Af sg x (stR sg (n+1) b) (Ax x,CY sg x 19 b):=
 Ke (NY hs h (fun _=>(Of (by omega)).2)) (fun s hp=>by rw[Jf,if_pos (by rw[Ge hp];exact hk)])
theorem a0Z{sg:List Sg}{x:Gs}{n:Nat}{b:Bool}{z:Int×Gs}(h:gsOk sg x)(hk:(pkG sg x 0).kind≠5)(hq:isG sg x 1 [118,97,114]=true)(hz:Af sg (Ai x) (Dm sg b) z):Af sg x (stR sg (n+1) b) z:=
 Lm h (by omega) hq hz.1 (fun s hp ht=>by rw[Jf,if_neg (by rw[Ge hp];exact hk),if_pos (show isW sg s _=true from ht)])
theorem UE{sg:List Sg}{x:Gs}{n:Nat}{b:Bool}{z:Int×Gs}(h:gsOk sg x)(hk:(pkG sg x 0).kind≠5)(h1:isG sg x 1 [118,97,114]=false)(hq:isG sg x 1 [114,101,116,117,114,110]=true)(hz:Af sg (Ai x) (Gd sg b) z):Af sg x (stR sg (n+1) b) z:=
 Lm h (by omega) hq hz.1 (fun s hp ht=>by rw[Jf,if_neg (by rw[Ge hp];exact hk),if_neg (by simp [Eu hp h1]),if_pos (show isW sg s _=true from ht)])
theorem UF{sg:List Sg}{x:Gs}{n:Nat}{b:Bool}{z:Int×Gs}(h:gsOk sg x)(hk:(pkG sg x 0).kind≠5)(h1:isG sg x 1 [118,97,114]=false)(h2:isG sg x 1 [114,101,116,117,114,110]=false)(hq:isG sg x 1 [105,102]=true)
 (hz:Af sg (Ai x) (ifR sg n b) z):Af sg x (stR sg (n+1) b) z:=
 Lm h (by omega) hq hz.1 (fun s hp ht=>by rw[Jf,if_neg (by rw[Ge hp];exact hk),if_neg (by simp [Eu hp h1]),if_neg (by simp [Eu hp h2]),if_pos (show isW sg s _=true from ht)])
theorem b0j{sg:List Sg}{x:Gs}{n:Nat}{b:Bool}{z:Int×Gs}(h:gsOk sg x)(hk:(pkG sg x 0).kind≠5)(h1:isG sg x 1 [118,97,114]=false)(h2:isG sg x 1 [114,101,116,117,114,110]=false)(h3:isG sg x 1 [105,102]=false)(hq:isG sg x 1 [119,104,105,108,101]=true)
 (hz:Af sg (Ai x) (whR sg n b) z):Af sg x (stR sg (n+1) b) z:=
 Lm h (by omega) hq hz.1 (fun s hp ht=>by rw[Jf,if_neg (by rw[Ge hp];exact hk),if_neg (by simp [Eu hp h1]),if_neg (by simp [Eu hp h2]),if_neg (by simp [Eu hp h3]),if_pos (show isW sg s _=true from ht)])
def seG(sg:List Sg)(x:Gs):Bool:=nmG sg x 0&&(decide ((pkG sg x 1).kind=4)&&((pkG sg x 1).text==[61]))
theorem UG{sg:List Sg}{x:Gs}{s:Ps}(hs:pur x=some s):(Dh sg s.pos&&isM sg (adv s) [61])=seG sg x:=by
 obtain⟨hb,rfl⟩:=Ep.1 hs
 have:=JV (sg:=sg) (n:=0) (CX hb)
 simp only[Int.add_zero] at this
 rw[seG,this,GA hb];rfl
theorem a1a{sg:List Sg}{x:Gs}{n:Nat}{b:Bool}{z:Int×Gs}(h:gsOk sg x)(hk:(pkG sg x 0).kind≠5)(h1:isG sg x 1 [118,97,114]=false)(h2:isG sg x 1 [114,101,116,117,114,110]=false)(h3:isG sg x 1 [105,102]=false)(h4:isG sg x 1 [119,104,105,108,101]=false)
 (hq:seG sg x=true) (hz:Af sg x (setR sg b) z):Af sg x (stR sg (n+1) b) z:=
 Ke hz (fun s hp=>by rw[Jf,if_neg (by rw[Ge hp];exact hk),if_neg (by simp [Eu hp h1]),if_neg (by simp [Eu hp h2]),if_neg (by simp [Eu hp h3]),if_neg (by simp [Eu hp h4]),if_pos (by rw[UG hp];exact hq),set_eq (by rw[UG hp];exact hq)])
theorem a1b{sg:List Sg}{x:Gs}{n:Nat}{b:Bool}{z:Int×Gs}(h:gsOk sg x)(hk:(pkG sg x 0).kind≠5)(h1:isG sg x 1 [118,97,114]=false)(h2:isG sg x 1 [114,101,116,117,114,110]=false)(h3:isG sg x 1 [105,102]=false)(h4:isG sg x 1 [119,104,105,108,101]=false)
 (hq:seG sg x=false) (hz:Af sg x (doR sg b) z):Af sg x (stR sg (n+1) b) z:=
 Ke hz (fun s hp=>by rw[Jf,if_neg (by rw[Ge hp];exact hk),if_neg (by simp [Eu hp h1]),if_neg (by simp [Eu hp h2]),if_neg (by simp [Eu hp h3]),if_neg (by simp [Eu hp h4]),if_neg (by rw[UG hp];simp [hq])])
theorem a1c{sg:List Sg}{x:Gs}{b:Bool}{l:List Int×Gs}{q:Int×Gs}(hs:sgB sg)(h:gsOk sg x)(hl:Bm sg (Al sg (BQ sg x) [40]) (Bl sg (Bz sg) [41] (sg.length+1) []) l)(hll:l.1.length≤3001)
 (hq:Af sg (Al sg l.2 [41]) (EH sg) q):Af sg x (EX sg b) (Ax q.2,Ag q.2 ⟨20,BR sg x,l.1++[q.1],b⟩):=by
 have k1:=BJ (k:=fun t s=>(BF sg [40] s).bind fun s1=>(Bl sg (Bz sg) [41] (sg.length+1) [] s1).bind fun q=>(BF sg [41] q.2).bind fun s2=>(EH sg s2).bind fun r=>Ba ⟨20,t,q.1++[r.1],b⟩ r.2) (Dp (f:=EX sg b) h) (MC h).1 (fun _ _=>rfl)
 have k2:=Ha (g':=fun s1=>(Bl sg (Bz sg) [41] (sg.length+1) [] s1).bind fun q=>(BF sg [41] q.2).bind fun s2=>(EH sg s2).bind fun r=>Ba ⟨20,BR sg x,q.1++[r.1],b⟩ r.2) k1 (fun _ _=>rfl)
 have k3:=BJ (k:=fun ks s=>(BF sg [41] s).bind fun s2=>(EH sg s2).bind fun r=>Ba ⟨20,BR sg x,ks++[r.1],b⟩ r.2) k2 hl (fun _ _=>rfl)
 have k4:=Ha (g':=fun s2=>(EH sg s2).bind fun r=>Ba ⟨20,BR sg x,l.1++[r.1],b⟩ r.2) k3 (fun _ _=>rfl)
 have k5:=BJ (k:=fun k s=>Ba ⟨20,BR sg x,l.1++[k],b⟩ s) k4 hq.1 (fun _ _=>rfl)
 refine QG k5 (DF (Hg hs) (by simp;omega)) (fun hb=> ?_)
 have:=(CC hq).2.2.2 hb;have:=k4.2.2.1;omega
theorem a1d{sg:List Sg}{x:Gs}{b:Bool}{l:List Int×Gs}(hs:sgB sg)(h:gsOk sg x)(hl:Bm sg (Al sg (BQ sg x) [123]) (CK sg (CS sg) [125] (sg.length+1) []) l)(hll:l.1.length≤3001):
 Af sg x (Fk sg b) (BB sg l.2 [125],Bs sg l.2 [125] ⟨21,BR sg x,l.1,b⟩):=by
 have k1:=BJ (k:=fun t s=>(BF sg [123] s).bind fun s1=>(CK sg (CS sg) [125] (sg.length+1) [] s1).bind fun q=>Bo sg [125] ⟨21,t,q.1,b⟩ q.2) (Dp (f:=Fk sg b) h) (MC h).1 (fun _ _=>rfl)
 have k2:=Ha (g':=fun s1=>(CK sg (CS sg) [125] (sg.length+1) [] s1).bind fun q=>Bo sg [125] ⟨21,BR sg x,q.1,b⟩ q.2) k1 (fun _ _=>rfl)
 have k3:=BJ (k:=fun ks s=>Bo sg [125] ⟨21,BR sg x,ks,b⟩ s) k2 hl (fun _ _=>rfl)
 exact Ln k3 (DF (Hg hs) (by omega))
theorem a1e{sg:List Sg}{x:Gs}{b:Bool}(hs:sgB sg)(h:gsOk sg x)(hk:(pkG sg x 0).kind=5):Af sg x (CS sg b) (Ax x,CY sg x 19 b):=
 Ke (NY hs h (fun _=>(Of (by omega)).2)) (fun s hp=>by rw[CS,if_pos (by rw[Ge hp];exact hk)])
theorem a1f{sg:List Sg}{x:Gs}{b:Bool}{z:Int×Gs}(h:gsOk sg x)(hk:(pkG sg x 0).kind≠5)(hq:isG sg x 1 [118,97,114]=true)(hz:Af sg (Ai x) (Dm sg b) z):Af sg x (CS sg b) z:=
 Lm h (by omega) hq hz.1 (fun s hp ht=>by rw[CS,if_neg (by rw[Ge hp];exact hk),if_pos (show isW sg s _=true from ht)])
theorem a1g{sg:List Sg}{x:Gs}{b:Bool}{z:Int×Gs}(h:gsOk sg x)(hk:(pkG sg x 0).kind≠5)(hq:isG sg x 1 [118,97,114]=false)(hz:Af sg x (EX sg b) z):Af sg x (CS sg b) z:=
 Ke hz (fun s hp=>by rw[CS,if_neg (by rw[Ge hp];exact hk),if_neg (by simp [Eu hp hq])])
theorem a1h{sg:List Sg}{x:Gs}{b:Bool}(hs:sgB sg)(h:gsOk sg x)(hk:(pkG sg x 0).kind=5):Af sg x (Dn sg b) (Ax x,CY sg x 19 b):=
 Ke (NY hs h (fun _=>(Of (by omega)).2)) (fun s hp=>by rw[Dn,if_pos (by rw[Ge hp];exact hk)])
theorem a1i{sg:List Sg}{x:Gs}{b:Bool}{z:Int×Gs}(h:gsOk sg x)(hk:(pkG sg x 0).kind≠5)(hq:isG sg x 1 [118,97,114]=true)(hz:Af sg (Ai x) (Dm sg b) z):Af sg x (Dn sg b) z:=
 Lm h (by omega) hq hz.1 (fun s hp ht=>by rw[Dn,if_neg (by rw[Ge hp];exact hk),if_pos (show isW sg s _=true from ht)])
theorem a1j{sg:List Sg}{x:Gs}{b:Bool}{z:Int×Gs}(h:gsOk sg x)(hk:(pkG sg x 0).kind≠5)(h1:isG sg x 1 [118,97,114]=false)(hq:isG sg x 1 [99,108,97,115,115]=true)(hz:Af sg (Ai x) (Fk sg b) z):Af sg x (Dn sg b) z:=
 Lm h (by omega) hq hz.1 (fun s hp ht=>by rw[Dn,if_neg (by rw[Ge hp];exact hk),if_neg (by simp [Eu hp h1]),if_pos (show isW sg s _=true from ht)])
theorem a1k{sg:List Sg}{x:Gs}{b:Bool}{z:Int×Gs}(h:gsOk sg x)(hk:(pkG sg x 0).kind≠5)(h1:isG sg x 1 [118,97,114]=false)(hq:isG sg x 1 [99,108,97,115,115]=false)(hz:Af sg x (EX sg b) z):Af sg x (Dn sg b) z:=
 Ke hz (fun s hp=>by rw[Dn,if_neg (by rw[Ge hp];exact hk),if_neg (by simp [Eu hp h1]),if_neg (by simp [Eu hp hq])])
def Du(sg:List Sg)(y:Gs)(ks:List Int)(ms:List (Int×Int))(N:Nat):Prop:=
 gsOk sg y∧y.deep=0∧(pur y).bind (IX sg N ks ms)=IX sg (sg.length+1) [] [] ps0∧(y.bad=false→(sg.length:Int)-y.pos<N)∧(ks.length:Int)≤y.pos+1∧(y.bad=false→(ks.length:Int)≤y.pos)∧ms.length=ks.length
def gs0:Gs:=⟨0,0,false,[]⟩
theorem b0k{sg:List Sg}:gsOk sg gs0:=⟨by simp [gs0],by simp [gs0],by simp [gs0],by simp [gs0]⟩
theorem b0l{sg:List Sg}:Du sg gs0 [] [] (sg.length+1):=⟨b0k,rfl,rfl,fun _=>by simp only[gs0];omega,by simp [gs0],fun _=>by simp [gs0],rfl⟩
theorem b0m{sg:List Sg}{y:Gs}{ks:List Int}{ms:List (Int×Int)}{N:Nat}{z:Int×Gs}(h:Du sg y ks ms N)(hb:y.bad=false)(hl:y.pos<sg.length)(hz:Af sg y (Dn sg ((pkG sg y 0).blank&&decide (0<ks.length))) z):
 ∃M,N=M+1∧Du sg z.2 (ks++[z.1]) (ms++[(y.pos,z.2.pos)]) M:=by
 obtain⟨h0,hd,h1,h2,h3,h4,h5⟩:=h
 have h2:=h2 hb;have h4:=h4 hb
 match N with
 |0=>omega
 |M+1=>
  have e:=CC hz
  obtain⟨⟨a1,a2,a3,a4,a5⟩,b⟩:=hz
  refine⟨M,rfl,a1,by omega,?_,fun hw=>by have:=e.2.2.2 hw;omega,by simp;omega,fun hw=>by have:=e.2.2.2 hw;simp;omega,by simp [h5]⟩
  rw[←h1,CX hb,Option.bind_some,IX,if_pos hl]
  rw[CX hb] at a4 a5
  have eb:(sgO sg y.pos).blank=(pkG sg y 0).blank:=by rw[GA hb];simp
  simp only[Option.bind_some] at a4 a5
  rw[eb,a4]
  cases hp:Dn sg ((pkG sg y 0).blank&&decide (0<ks.length)) ⟨y.pos,y.deep,y.nodes⟩ with
  |none=>rfl
  |some p=>
   simp only[Option.map_some,Option.bind_some]
   have:=a5 p hp
   have hpos:z.2.pos=p.2.pos:=by
    rw[hp] at a4
    simp only[Option.map_some] at a4
    obtain⟨_,e2⟩:=Ep.1 a4
    rw[e2]
   rw[this,hpos]
def BK(sg:List Sg)(y:Gs)(ks:List Int):Gs:=Ag y ⟨22,[],ks,false⟩
theorem b0n{sg:List Sg}{y:Gs}{ks:List Int}{ms:List (Int×Int)}{N:Nat}(h:Du sg y ks ms N)(hb:(BK sg y ks).bad=true)(he:y.bad=true∨¬y.pos<sg.length):FZ sg=none:=by
 obtain⟨h0,hd,h1,h2,h3,h4,h5⟩:=h
 rw[FZ,←h1]
 cases hy:y.bad with
 |true=>rw[DJ hy];rfl
 |false=>
  have h2:=h2 hy
  have he:¬y.pos<sg.length:=by rcases he with he|he
                               ·rw[hy] at he;cases he
                               ·exact he
  match N with
  |0=>have:=h0.1;omega
  |N+1=>
   rw[CX hy,Option.bind_some,IX,if_neg he,Option.bind_some]
   unfold BK Ag at hb
   split at hb
   ·rename_i hf
    have h3:y.nodes.length=300:=by simpa [CQ,hy] using hf
    rw[Ba,if_pos (by simp only;omega)];rfl
   ·simp only at hb;rw[hy] at hb;cases hb
theorem b0o{sg:List Sg}{y:Gs}{ks:List Int}{ms:List (Int×Int)}{N:Nat}(h:Du sg y ks ms N)(hb:(BK sg y ks).bad=false)(he:y.bad=true∨¬y.pos<sg.length):
 FZ sg=if De (BK sg y ks).nodes then some (ms,(BK sg y ks).nodes) else none:=by
 obtain⟨h0,hd,h1,h2,h3,h4,h5⟩:=h
 have hy:=(@Hb y ⟨22,[],ks,false⟩).2.2 hb
 have h2:=h2 hy
 have he:¬y.pos<sg.length:=by rcases he with he|he
                              ·rw[hy] at he;cases he
                              ·exact he
 rw[FZ,←h1]
 match N with
 |0=>have:=h0.1;omega
 |N+1=>
  rw[CX hy,Option.bind_some,IX,if_neg he,Option.bind_some]
  unfold BK Ag at hb ⊢
  split at hb
  ·simp [Bd] at hb
  ·rename_i hf
   rw[if_neg hf]
   have hf2:=Qi (by simpa using hf)
   have:=h0.2.2.1
   rw[Ba,if_neg (by simp only;omega)]
   simp only[Option.bind_some]
end Go.My
end
section
set_option linter.unusedVariables false
set_option linter.unusedSimpArgs false
namespace Go.My
open Go.Eng Go.Proofs
variable {G:GInv}
theorem Gf{P:Program}{f:FuncId}{S:Sig}{fn:Func}{c:Code}(hfn:P.funcs[f]? =some fn)(hb:fn.body=some c)(hn:(fn.name== "runtime.NumGoroutine")=false)(hp:∀x,¬S.pre x):Aj G P f S:=
 ⟨⟨⟨fn,hfn,hn,by simp [hb]⟩,fun x y hx _=>(hp x hx).elim⟩,fun x hx=>(hp x hx).elim⟩
theorem QL{r:Nat}{s:ST}{g:Gs}(hr:1≤r)(h:wP r 0 s g):False:=by
 have h1:=h.1.1.2.1.2;have h2:=h.2;omega
theorem UH{r:Nat}{s:ST}{g:Gs}(hr:1≤r)(h:vP r 0 s g):False:=by
 have h1:=h.1.1.2.1.2;have h2:=h.2;omega
theorem b0p:rAll G 0:=
 ⟨Gf Tryz.func164 rfl (by decide) (fun x h=>UH (by omega) h),Gf Tryz.func180 rfl (by decide) (fun x h=>UH (by omega) h),
  Gf Tryz.func190 rfl (by decide) (fun x h=>QL (by have:=h.2;omega) h.1),Gf Tryz.func193 rfl (by decide) (fun x h=>QL (by omega) h),Gf Tryz.func196 rfl (by decide) (fun x h=>QL (by omega) h)⟩
theorem b0q(n:Nat):rAll G n:=by
 induction n with
 |zero=>exact b0p
 |succ n ih=>exact⟨b0c n ih,b0b n ih,b0a n ih,a9O n ih,a9N n ih⟩
def Fm:Sig:= {X:=ST×Int×Int×Bool×List Nd,args:=fun x=>[rdG x.1 (xg x)],pre:=fun x=>rOk x.1 (xg x)∧(xg x).deep≤20,Y:=Int×Int×Int×Bool×List Nd,post:=fun x y=>Af x.1.sg (xg x) (Ca x.1.sg) (yS y),res:=fun x y=> .int .i64 y.1,outs:=fun x y=>[rdG x.1 (yG y.2)],keep:=true}
theorem UI{s:ST}{g:Gs}(h:rOk s g∧g.deep≤20):vP 11 peN s g:=by
 have h1:=h.1.2.1;have h2:=h.1.1.1
 exact⟨h,by unfold peN;omega⟩
theorem QM:Aj G Go.Proofs.Tryz.prog 164 Fm:=
 have c:=(b0q (G:=G) peN).val
 ⟨⟨c.1.1,fun x y hx hy=>c.1.2 x y (UI hx) hy⟩,fun x hx=>c.2 x (UI hx)⟩
end Go.My
end
section
set_option linter.unusedVariables false
set_option linter.unusedSimpArgs false
namespace Go.My
open Go.Eng Go.Proofs
variable {G:GInv}
def okD(s:ST)(x:Gs):Prop:=rOk s x∧x.deep≤20
def okN(s:ST)(x:Gs):Prop:=okD s x∧x.bad=false∧x.pos<s.sg.length
theorem MH{x:Gs}(h:x.bad=false):BX x=Ai x:=by simp [BX,h]
theorem Kf{s:ST}{x:Gs}(h:okN s x):rOk s (Ai x)∧(Ai x).deep≤20:=⟨⟨h.1.1.1,EY h.1.1.2 h.2.2⟩,h.1.2⟩
theorem HG{s:ST}{x:Gs}(h:rOk s x):rOk s (BQ s.sg x):=⟨h.1,(MC h.2).1.1⟩
theorem UJ{s:ST}{x:Gs}(h:rOk s x):(BQ s.sg x).deep=x.deep∧x.pos≤(BQ s.sg x).pos:=by
 have:=CC (MC h.2);exact⟨this.1,this.2.1⟩
theorem Ef{s:ST}{x:Gs}{m:List UInt8}(h:rOk s x):rOk s (Al s.sg x m)∧(Al s.sg x m).deep=x.deep:=⟨⟨h.1,(FE h.2).1⟩,(FE h.2).2.1⟩
theorem GD{a:Bool}{k:Int}(h:a=true):decide (k>0)=(a&&decide (0<k)):=by simp [h]
theorem GE{a:Bool}{k:Int}(h:a=false):false=(a&&decide (0<k)):=by simp [h]
theorem UK{s:ST}{x:Gs}(h:rOk s x)(hd:x.deep≤20)(hq:isG s.sg (BQ s.sg x) 4 [61]=true):rOk s (Ah s.sg (BQ s.sg x) [61])∧(Ah s.sg (BQ s.sg x) [61]).deep≤20:=by
 rw[Da hq]
 have a:=HG h;have b:=UJ h
 refine⟨⟨h.1,EY a.2 (Cy hq (by omega)).2⟩,?_⟩
 have e:(Ai (BQ s.sg x)).deep=(BQ s.sg x).deep:=rfl
 omega
theorem a1l{s:ST}{x:Gs}{b:Bool}{z:Int×Gs}(h:rOk s x)(hq:isG s.sg (BQ s.sg x) 4 [61]=true)(hz:Af s.sg (Ah s.sg (BQ s.sg x) [61]) (Ca s.sg) z):
 Af s.sg x (Dm s.sg b) (BB s.sg z.2 [59],Bs s.sg z.2 [59] ⟨12,BR s.sg x,[z.1],b⟩):=by
 rw[Da hq] at hz;exact b0e h.1 h.2 hq hz
theorem a1m{s:ST}{x:Gs}(h:rOk s x)(hq:isG s.sg (BQ s.sg x) 4 [61]=false):rOk s (Ah s.sg (BQ s.sg x) [61]):=by
 rw[CZ hq];exact HG h
theorem a1n{s:ST}{x:Gs}{b:Bool}(h:rOk s x)(hq:isG s.sg (BQ s.sg x) 4 [61]=false):
 Af s.sg x (Dm s.sg b) (BB s.sg (Ah s.sg (BQ s.sg x) [61]) [59],Bs s.sg (Ah s.sg (BQ s.sg x) [61]) [59] ⟨12,BR s.sg x,[],b⟩):=by
 rw[CZ hq];exact b0d h.1 h.2 hq
theorem Lo{α:Type}{s:ST}{x:Gs}{f:Ps→Option (α×Ps)}{y:α×Gs}(h:okD s x)(hy:Bm s.sg x f y):okD s y.2:=⟨⟨h.1.1,hy.1⟩,by have:=hy.2.1;have:=h.2;omega⟩
def mbJ(sg:List Sg)(n:Nat)(x y:Gs)(ks:List Int)(N:Nat):Prop:=
 Iv sg (stR sg n) [125] (Al sg (gDp (if x.deep=20 then Bd x else x) 1) [123]) y ks N∧y.deep=x.deep+1∧(y.bad=false→x.deep≠20)
theorem a1o{s:ST}{x:Gs}(h:okD s x):rOk s (gDp (if x.deep=20 then Bd x else x) 1):=by
 refine⟨h.1.1,?_⟩
 have h1:=h.1.2.2.1;have h2:=h.2
 split
 ·exact⟨h.1.2.1,by simp only[gDp,Bd];omega,h.1.2.2.2⟩
 ·exact⟨h.1.2.1,by simp only[gDp];omega,h.1.2.2.2⟩
theorem b0r{s:ST}{x:Gs}{n:Nat}(h:okD s x):mbJ s.sg n x (Al s.sg (gDp (if x.deep=20 then Bd x else x) 1) [123]) [] (s.sg.length+1):=by
 have a:=a1o h
 obtain⟨t1,t2,t3,t4⟩:=FE (m:=[123]) a.2
 refine⟨QH t1,?_,fun hb=> ?_⟩
 ·rw[t2];split<;>rfl
 ·intro h20
  have:=t4 hb
  rw[if_pos h20] at this
  simp [gDp,Bd] at this
theorem a1p{s:ST}{x y:Gs}{n:Nat}{ks:List Int}{N:Nat}(h:okD s x)(hj:mbJ s.sg n x y ks N):rOk s y:=⟨h.1.1,hj.1.1.1⟩
theorem a1q{s:ST}{x y:Gs}{n:Nat}{ks:List Int}{N:Nat}(h:okD s x)(h2:20-x.deep≤n)(hj:mbJ s.sg n x y ks N)(hb:y.bad=false):y.deep≤20∧21-y.deep≤n:=by
 have:=hj.2.1;have:=hj.2.2 hb;have:=h.2;omega
theorem UL{s:ST}{x y:Gs}{n:Nat}{ks:List Int}{N:Nat}(h:okD s x)(hj:mbJ s.sg n x y ks N):ks.length≤3001:=by
 have:=hj.1.2.2.1;have:=hj.1.1.1.1;have:=h.1.1.1;omega
theorem QN{s:ST}{x y:Gs}{n:Nat}{ks:List Int}{N:Nat}{b:Bool}{z:Int×Gs}(hj:mbJ s.sg n x y ks N)(hb:y.bad=false)(hq:isG s.sg y 4 [125]=false)(hz:Af s.sg y (stR s.sg n b) z)(e:b=((pkG s.sg y 0).blank&&decide (0<(ks.length:Int)))):
 mbJ s.sg n x z.2 (ks++[z.1]) (N-1)∧N-1<N:=by
 subst e
 obtain⟨a,b⟩:=Hd (QK hj.1 hb hq (z:=z) (by
  have:decide (0<ks.length)=decide (0<(ks.length:Int)):=by simp
  rw[this];exact hz))
 have:=(CC hz).1
 exact⟨⟨a,by have:=hj.2.1;omega,fun hw=>hj.2.2 hb⟩,b⟩
theorem a1r{s:ST}{x y:Gs}{n:Nat}{ks:List Int}{N:Nat}(h:okD s x)(hj:mbJ s.sg n x y ks N):Cv ⟨18,[],ks,false⟩:=⟨by simp,by have:=UL h hj;simp only;omega⟩
theorem a1s{s:ST}{x y:Gs}{n:Nat}{ks:List Int}{N:Nat}(h:okD s x)(hj:mbJ s.sg n x y ks N)(hy:y.bad=true∨isG s.sg y 4 [125]=true):
 Af s.sg x (BH s.sg (stR s.sg n)) (BB s.sg y [125],gDp (Bs s.sg y [125] ⟨18,[],ks,false⟩) (-1)):=by
 refine b0h (l:=(ks,y)) h.1.1 h.1.2 h.2 ?_ (UL h hj)
 rcases hy with hy|hy
 ·exact QI hj.1 hy
 ·exact QJ hj.1 hy
theorem b0s{s:ST}{x y:Gs}{n:Nat}{ks:List Int}{N:Nat}{m:List UInt8}{w:Nd}(h:okD s x)(hj:mbJ s.sg n x y ks N)(hw:Cv w):1≤(Bs s.sg y m w).deep∧(Bs s.sg y m w).deep≤21:=by
 have:=(CC (JW (m:=m) hj.1.1.1 hw)).1
 have:=hj.2.1;have:=h.2;have:=h.1.2.2.1
 simp only at*;omega
theorem Oj{s:ST}{x:Gs}{w:List UInt8}(h:okD s x)(hq:isG s.sg x 1 w=true):okN s x:=⟨h,(Cy hq (by omega)).1,(Cy hq (by omega)).2⟩
theorem Ok{s:ST}{x:Gs}{f:Ps→PR}{z:Int×Gs}(h:okD s x)(hz:Af s.sg x f z):okD s z.2:=Lo h hz.1
theorem Lp{s:ST}{x:Gs}{m:List UInt8}(h:okD s x)(hq:isG s.sg x 1 m=true):okD s (Ai x):=⟨(Kf (Oj h hq)).1,(Kf (Oj h hq)).2⟩
theorem b0t{s:ST}{x:Gs}{n:Nat}{b:Bool}{z:Int×Gs}(h:rOk s x)(hk:(pkG s.sg x 0).kind≠5)(h1:isG s.sg x 1 [118,97,114]=false)(h2:isG s.sg x 1 [114,101,116,117,114,110]=false)(h3:isG s.sg x 1 [105,102]=false)(h4:isG s.sg x 1 [119,104,105,108,101]=false)
 (hn:nmG s.sg x 0=true) (ht:(pkG s.sg x 1).text=[61]) (hk2:(pkG s.sg x 1).kind=4) (hz:Af s.sg (Al s.sg (BQ s.sg x) [61]) (Ca s.sg) z):
 Af s.sg x (stR s.sg (n+1) b) (BB s.sg z.2 [59],Bs s.sg z.2 [59] ⟨13,BR s.sg x,[z.1],b⟩):=
 a1a h.2 hk h1 h2 h3 h4 (by simp [seG,hn,hk2,ht]) (a0W h.1 h.2 hz)
theorem UM{s:ST}{x:Gs}{n:Nat}{b:Bool}{z:Int×Gs}(h:rOk s x)(hk:(pkG s.sg x 0).kind≠5)(h1:isG s.sg x 1 [118,97,114]=false)(h2:isG s.sg x 1 [114,101,116,117,114,110]=false)(h3:isG s.sg x 1 [105,102]=false)(h4:isG s.sg x 1 [119,104,105,108,101]=false)
 (hn:nmG s.sg x 0=false∨(pkG s.sg x 1).text≠[61]∨(pkG s.sg x 1).kind≠4) (hz:Af s.sg x (Ca s.sg) z):
 Af s.sg x (stR s.sg (n+1) b) (BB s.sg z.2 [59],Bs s.sg z.2 [59] ⟨14,[],[z.1],b⟩):=
 a1b h.2 hk h1 h2 h3 h4 (by rcases hn with hn|hn|hn<;>simp [seG,hn]) (a0X h.2 hz)
theorem a1t{s:ST}{x:Gs}{n:Nat}{b:Bool}{c q:Int×Gs}(h:okD s x)(hk:(pkG s.sg x 0).kind≠5)(h1:isG s.sg x 1 [118,97,114]=false)(h2:isG s.sg x 1 [114,101,116,117,114,110]=false)(h3:isG s.sg x 1 [105,102]=false)(hq:isG s.sg x 1 [119,104,105,108,101]=true)
 (hc:Bm s.sg (Ai x) (Di s.sg) c) (hz:Af s.sg c.2 (BH s.sg (stR s.sg n)) q):Af s.sg x (stR s.sg (n+1) b) (Ax q.2,Ag q.2 ⟨17,[],[c.1,q.1],b⟩):=
 b0j h.1.2 hk h1 h2 h3 hq (b0i (Lp h hq).1.2 hc hz)
theorem QO{α:Type}{s:ST}{x:Gs}{n:Nat}{f:Ps→Option (α×Ps)}{y:α×Gs}(h:20-x.deep≤(n:Int))(hy:Bm s.sg x f y):20-y.2.deep≤(n:Int):=by have:=hy.2.1;omega
theorem a1u{α:Type}{s:ST}{x:Gs}{n:Nat}{f:Ps→Option (α×Ps)}{y:α×Gs}(h:20-x.deep≤(n:Int))(hy:Af s.sg x f y):20-y.2.deep≤(n:Int):=QO h hy.1
theorem a1v{s:ST}{x:Gs}{m:List UInt8}(h:okD s x):(Al s.sg (BQ s.sg x) m).deep≤20:=by rw[(Ef (HG h.1)).2,(UJ h.1).1];exact h.2
def Kg(n:Nat):Sig:= {X:=ST×Int×Int×Bool×List Nd×Bool,args:=fun x=>[rdG x.1 (xh x),.bool x.2.2.2.2.2],pre:=fun x=>(okD x.1 (xh x)∧(xh x).bad=false)∧21-(xh x).deep≤n,Y:=Int×Int×Int×Bool×List Nd,post:=fun x y=>Af x.1.sg (xh x) (stR x.1.sg n x.2.2.2.2.2) (yS y),res:=fun x y=> .int .i64 y.1,outs:=fun x y=>[rdG x.1 (yG y.2),.top],keep:=true}
attribute [local irreducible] pE Bl CP fnR Af Bm gsOk Al Bs Ag BX CY Ah Cz Dj Ax BB pkG isG nmG BQ BR Dm Gd Di Ca BH stR CK
def Hh:Sig:= {X:=ST×Int×Int×Bool×List Nd×Bool,args:=fun x=>[rdG x.1 (xh x),.bool x.2.2.2.2.2],pre:=fun x=>rOk x.1 (xh x)∧(pkG x.1.sg (xh x) 0).kind=5,Y:=Unit,post:=fun x y=>True,res:=fun x y=> .int .i64 (Ax (xh x)),outs:=fun x y=>[rdG x.1 (CY x.1.sg (xh x) 19 x.2.2.2.2.2),.top],keep:=true}
theorem UN:Aj G Tryz.prog 132 Hh:=
 vcFun_okP [(103,0,Cq),(104,0,BS),(162,0,CN)] [(45,⟨Int,Bb⟩)] false (fun x=>[]) Tryz.func132 rfl (by decide) ⟨GZ,GB,Jc,trivial⟩ (fun(x:ST×Int×Int×Bool×List Nd×Bool)=>True∧cA Cq [rdG x.1 (xh x)] fun x_1 y=>cA BS [rdG x_1.1 (xg x_1),.agg [.int .i64 (19:Int),.str (pkG x_1.1.sg (xg x_1) (0:Int)).text,.nil,.bool x.2.2.2.2.2]] fun x_2 y=>cA CN [rdG x_2.1 (Ag (xh x_2) {kind:=x_2.2.2.2.2.2.1,text:=x_2.2.2.2.2.2.2.1,kids:=x_2.2.2.2.2.2.2.2.1,blank:=x_2.2.2.2.2.2.2.2.2})] fun x_3 y=>rA Hh x [.int .i64 (Ax (xh x_2)),rdG x_3.1 (BX (xg x_3)),.top]) (fun x=>by kernel_rfl) fun(x:ST×Int×Int×Bool×List Nd×Bool) (hx:rOk x.1 (xh x)∧(pkG x.1.sg (xh x) 0).kind=5)=>(by
 dsimp only[cA,mbs,Bg,Au,rA,rdG,BS,Cq,Hh,CN,Bj,sgs,Av,AB,mvL,lnL,mvE,lnE]
 obtain⟨s,p,d,b,ns,e⟩:=x;dsimp only[xg,xh] at hx ⊢
 obtain⟨h1,h2⟩:=hx
 (repeat' first|(with_reducible first|rfl|exact True.intro|apply AK|apply And.intro|((first|apply Az|apply AI|apply AA|apply AJ)<;>intro _))|(apply Aw<;>intro _)|apply AH|refine Ae () ?_ ?_|((first|apply AO|apply AN|apply AM|apply AL|apply AG|apply AF|apply AE|apply AD|apply AC)<;>try dsimp only)|apply Ae|(refine Prod.forall.2 ?_;intro _;try dsimp only)|(intro _;try dsimp only))
 all_goals first
  |rfl
  |exact h1
  |exact⟨h1.1,Ir h1.2 ⟨JX h1.1,by simp⟩⟩
  |(simp [CY, *];done)
  |skip)
def GF:Sig:= {X:=ST×Int×Int×Bool×List Nd×Bool,args:=fun x=>[rdG x.1 (xh x),.bool x.2.2.2.2.2],pre:=fun x=>okN x.1 (xh x),Y:=Int×Int×Int×Bool×List Nd,post:=fun x y=>Af x.1.sg (Ai (xh x)) (Dm x.1.sg x.2.2.2.2.2) (yS y),res:=fun x y=> .int .i64 y.1,outs:=fun x y=>[rdG x.1 (yG y.2),.top],keep:=true}
theorem UO:Aj G Tryz.prog 134 GF:=
 vcFun_okP [(162,0,CN),(136,0,Es),(163,0,CL),(164,0,Fm),(165,0,CE)] [(45,⟨Int,Bb⟩)] false (fun x=>[]) Tryz.func134 rfl (by decide) ⟨Jc,Ob,Ja,QM,Lj,trivial⟩ (fun(x:ST×Int×Int×Bool×List Nd×Bool)=>True∧cA CN [rdG x.1 (xh x)] fun x_1 y=>cA Es [rdG x_1.1 (BX (xg x_1))] fun x_2 y=>cA CL [rdG x_2.1 (BQ x_2.1.sg (xg x_2)),.str #[(61:UInt8)].toList] fun x_3 y=>Aa (isG x_3.1.sg (xh x_3) (4:Int) x_3.2.2.2.2.2) (cA Fm [rdG x_3.1 (Ah x_3.1.sg (xh x_3) x_3.2.2.2.2.2)] fun x_4 y=>∃(x_5:Int),y.1=x_5∧cA CE [rdG x_4.1 (yG y.2),.str #[(59:UInt8)].toList,.agg [.int .i64 (12:Int),.str (BR x_2.1.sg (xg x_2)),Ab [x_5],.bool x.2.2.2.2.2]] fun x_6 y=>rA GF x [.int .i64 (BB x_6.1.sg (xh x_6) x_6.2.2.2.2.2.1),rdG x_6.1 (Bs x_6.1.sg (xh x_6) x_6.2.2.2.2.2.1 {kind:=x_6.2.2.2.2.2.2.1,text:=x_6.2.2.2.2.2.2.2.1,kids:=x_6.2.2.2.2.2.2.2.2.1,blank:=x_6.2.2.2.2.2.2.2.2.2}),.top]) (cA CE [rdG x_3.1 (Ah x_3.1.sg (xh x_3) x_3.2.2.2.2.2),.str #[(59:UInt8)].toList,.agg [.int .i64 (12:Int),.str (BR x_2.1.sg (xg x_2)),.nil,.bool x.2.2.2.2.2]] fun x_4 y=>rA GF x [.int .i64 (BB x_4.1.sg (xh x_4) x_4.2.2.2.2.2.1),rdG x_4.1 (Bs x_4.1.sg (xh x_4) x_4.2.2.2.2.2.1 {kind:=x_4.2.2.2.2.2.2.1,text:=x_4.2.2.2.2.2.2.2.1,kids:=x_4.2.2.2.2.2.2.2.2.1,blank:=x_4.2.2.2.2.2.2.2.2.2}),.top])) (fun x=>by kernel_rfl) fun(x:ST×Int×Int×Bool×List Nd×Bool) (hx:okN x.1 (xh x))=>(by
 dsimp only[cA,mbs,Bg,Ab,Au,rA,rdG,CE,Es,CN,CL,Fm,GF,Bj,sgs,Av,AB,mvL,lnL,mvE,lnE]
 obtain⟨s,p,d,b,ns,e⟩:=x;dsimp only[xg,xh] at hx ⊢
 have hx:okN s ⟨p,d,b,ns⟩:=hx
 have hp:=MH hx.2.1
 obtain⟨h1,h2⟩:=Kf hx
 (repeat' first|(with_reducible first|rfl|exact True.intro|apply AK|apply And.intro|((first|apply Az|apply AI|apply AA|apply AJ)<;>intro _))|(apply Aw<;>intro _)|apply AH|refine Ae () ?_ ?_|((first|apply AO|apply AN|apply AM|apply AL|apply AG|apply AF|apply AE|apply AD|apply AC)<;>try dsimp only)|apply Ae|(refine Prod.forall.2 ?_;intro _;try dsimp only)|(intro _;try dsimp only))
 all_goals(try dsimp only[xg,xh,yG,yS,iG] at*)
 all_goals(try simp only[CM,hp] at*)
 all_goals first
  |rfl
  |exact hx.1.1
  |exact h1
  |exact h2
  |exact HG h1
  |exact(UK h1 h2 ‹_›).1
  |exact(UK h1 h2 ‹_›).2
  |exact a1m h1 ‹_›
  |exact Dq h1 ‹_›
  |exact DF (Hg h1.1) (by simp)
  |exact a1l h1 ‹_› ‹_›
  |exact a1n h1 ‹_›
  |skip)
def Lq:Sig:= {X:=ST×Int×Int×Bool×List Nd×Bool,args:=fun x=>[rdG x.1 (xh x),.bool x.2.2.2.2.2],pre:=fun x=>okN x.1 (xh x),Y:=Int×Int×Int×Bool×List Nd,post:=fun x y=>Af x.1.sg (Ai (xh x)) (Gd x.1.sg x.2.2.2.2.2) (yS y),res:=fun x y=> .int .i64 y.1,outs:=fun x y=>[rdG x.1 (yG y.2),.top],keep:=true}
theorem b0u:Aj G Tryz.prog 182 Lq:=
 vcFun_okP [(162,0,CN),(166,0,Cw),(164,0,Fm),(165,0,CE)] [(45,⟨Int,Bb⟩)] false (fun x=>[]) Tryz.func182 rfl (by decide) ⟨Jc,HB,QM,Lj,trivial⟩ (fun(x:ST×Int×Int×Bool×List Nd×Bool)=>True∧cA CN [rdG x.1 (xh x)] fun x_1 y=>cA Cw [rdG x_1.1 (BX (xg x_1)),.str #[(59:UInt8)].toList] fun x_2 y=>Aa (!isG x_2.1.sg (xh x_2) (4:Int) x_2.2.2.2.2.2) (cA Fm [rdG x_2.1 (xh x_2)] fun x_3 y=>∃(x_4:Int),y.1=x_4∧cA CE [rdG x_3.1 (yG y.2),.str #[(59:UInt8)].toList,.agg [.int .i64 (15:Int),.str #[].toList,Ab [x_4],.bool x.2.2.2.2.2]] fun x_5 y=>rA Lq x [.int .i64 (BB x_5.1.sg (xh x_5) x_5.2.2.2.2.2.1),rdG x_5.1 (Bs x_5.1.sg (xh x_5) x_5.2.2.2.2.2.1 {kind:=x_5.2.2.2.2.2.2.1,text:=x_5.2.2.2.2.2.2.2.1,kids:=x_5.2.2.2.2.2.2.2.2.1,blank:=x_5.2.2.2.2.2.2.2.2.2}),.top]) (cA CE [rdG x_2.1 (xh x_2),.str #[(59:UInt8)].toList,.agg [.int .i64 (15:Int),.str #[].toList,.nil,.bool x.2.2.2.2.2]] fun x_3 y=>rA Lq x [.int .i64 (BB x_3.1.sg (xh x_3) x_3.2.2.2.2.2.1),rdG x_3.1 (Bs x_3.1.sg (xh x_3) x_3.2.2.2.2.2.1 {kind:=x_3.2.2.2.2.2.2.1,text:=x_3.2.2.2.2.2.2.2.1,kids:=x_3.2.2.2.2.2.2.2.2.1,blank:=x_3.2.2.2.2.2.2.2.2.2}),.top])) (fun x=>by kernel_rfl) fun(x:ST×Int×Int×Bool×List Nd×Bool) (hx:okN x.1 (xh x))=>(by
 dsimp only[cA,mbs,Bg,Ab,Au,rA,rdG,CE,Cw,Lq,CN,Fm,Bj,sgs,Av,AB,mvL,lnL,mvE,lnE]
 obtain⟨s,p,d,b,ns,e⟩:=x;dsimp only[xg,xh] at hx ⊢
 have hx:okN s ⟨p,d,b,ns⟩:=hx
 have hp:=MH hx.2.1
 obtain⟨h1,h2⟩:=Kf hx
 (repeat' first|(with_reducible first|rfl|exact True.intro|apply AK|apply And.intro|((first|apply Az|apply AI|apply AA|apply AJ)<;>intro _))|(apply Aw<;>intro _)|apply AH|refine Ae () ?_ ?_|((first|apply AO|apply AN|apply AM|apply AL|apply AG|apply AF|apply AE|apply AD|apply AC)<;>try dsimp only)|apply Ae|(refine Prod.forall.2 ?_;intro _;try dsimp only)|(intro _;try dsimp only))
 all_goals(try dsimp only[xg,xh,yG,yS,iG] at*)
 all_goals(try simp only[CM,hp] at*)
 all_goals first
  |rfl
  |exact hx.1.1
  |exact h1
  |exact h2
  |exact Dq h1 ‹_›
  |exact DF (by simp) (by simp)
  |exact a0O h1.2 ‹_›
  |exact a0P h1.2 ‹_› ‹_›
  |skip)
def Jg:Sig:= {X:=ST×Int×Int×Bool×List Nd,args:=fun x=>[rdG x.1 (xg x)],pre:=fun x=>okD x.1 (xg x),Y:=Int×Int×Int×Bool×List Nd,post:=fun x y=>Bm x.1.sg (xg x) (Di x.1.sg) (yS y),res:=fun x y=>Ab [y.1],outs:=fun x y=>[rdG x.1 (yG y.2)],keep:=true}
theorem a1w:Aj G Tryz.prog 184 Jg:=
 vcFun_okP [(137,0,CA),(164,0,Fm)] [(45,⟨Int,Bb⟩)] false (fun x=>[]) Tryz.func184 rfl (by decide) ⟨Jb,QM,trivial⟩ (fun(x:ST×Int×Int×Bool×List Nd)=>True∧cA CA [rdG x.1 (xg x),.str #[(40:UInt8)].toList] fun x_1 y=>cA Fm [rdG x_1.1 (Al x_1.1.sg (xh x_1) x_1.2.2.2.2.2)] fun x_2 y=>cA CA [rdG x_2.1 (yG y.2),.str #[(41:UInt8)].toList] fun x_3 y_1=>∃(x_4:Int),y.1=x_4∧rA Jg x [Ab [x_4],rdG x_3.1 (Al x_3.1.sg (xh x_3) x_3.2.2.2.2.2)]) (fun x=>by kernel_rfl) fun(x:ST×Int×Int×Bool×List Nd) (hx:okD x.1 (xg x))=>(by
 dsimp only[cA,mbs,Bg,Ab,Au,rA,rdG,Jg,CA,Fm,Bj,sgs,Av,AB,mvL,lnL,mvE,lnE]
 obtain⟨s,p,d,b,ns⟩:=x;dsimp only[xg,xh] at hx ⊢
 have hx:okD s ⟨p,d,b,ns⟩:=hx
 have t:=Ef (m:=[40]) hx.1;have hd:=hx.2;dsimp only at hd
 (repeat' first|(with_reducible first|rfl|exact True.intro|apply AK|apply And.intro|((first|apply Az|apply AI|apply AA|apply AJ)<;>intro _))|(apply Aw<;>intro _)|apply AH|refine Ae () ?_ ?_|((first|apply AO|apply AN|apply AM|apply AL|apply AG|apply AF|apply AE|apply AD|apply AC)<;>try dsimp only)|apply Ae|(refine Prod.forall.2 ?_;intro _;try dsimp only)|(intro _;try dsimp only))
 all_goals(try dsimp only[xg,xh,yG,yS,iG] at*)
 all_goals(try simp only[CM] at*)
 all_goals first
  |rfl
  |exact hx.1
  |exact t.1
  |(rw[t.2];exact hd)
  |exact Dq hx.1 ‹_›
  |exact a0Q hx.1.2 ‹_›
  |skip)
def HH(n:Nat):Sig:= {X:=ST×Int×Int×Bool×List Nd,args:=fun x=>[rdG x.1 (xg x)],pre:=fun x=>okD x.1 (xg x)∧20-(xg x).deep≤(n:Int),Y:=Int×Int×Int×Bool×List Nd,post:=fun x y=>Af x.1.sg (xg x) (BH x.1.sg (stR x.1.sg n)) (yS y),res:=fun x y=> .int .i64 y.1,outs:=fun x y=>[rdG x.1 (yG y.2)],keep:=true}
def Ol(n:Nat)(x:ST×Int×Int×Bool×List Nd):LS:= {ι:=Int×Int×Bool×List Nd×List Int×Nat,inv:=fun i=>mbJ x.1.sg n (xg x) (iG i) i.2.2.2.2.1 i.2.2.2.2.2,regs:=fun i=>[(0,rdG x.1 (iG i)),(3,Ab i.2.2.2.2.1)],als:=[],meas:=fun i=>i.2.2.2.2.2}
theorem UP(n:Nat)(h:Aj G Go.Proofs.Tryz.prog 170 (Kg n)):Aj G Tryz.prog 140 (HH n):=
 vcFun_okP [(169,0,Iu),(137,0,CA),(166,0,Cw),(103,0,Cq),(170,0,(Kg n)),(165,0,CE)] [(45,⟨Int,Bb⟩)] false (fun x=>[(4,Ol n x)]) Tryz.func140 rfl (by decide) ⟨ZJ,Jb,HB,GZ,h,Lj,trivial⟩ (fun(x:ST×Int×Int×Bool×List Nd)=>True∧cA Iu [rdG x.1 (xg x)] fun x_1 y=>cA CA [.box 0 [sgs x_1.1.sg,.int .i64 x_1.1.z,.int .i64 (gDp (if(xg x_1).deep=(20:Int) then Bd (xg x_1) else xg x_1) (1:Int)).pos,.int .i64 (gDp (if(xg x_1).deep=(20:Int) then Bd (xg x_1) else xg x_1) (1:Int)).deep,.bool (gDp (if(xg x_1).deep=(20:Int) then Bd (xg x_1) else xg x_1) (1:Int)).bad,Au (gDp (if(xg x_1).deep=(20:Int) then Bd (xg x_1) else xg x_1) (1:Int)).nodes,mbs x_1.1.ms],.str #[(123:UInt8)].toList] fun x_2 y=>eA (Ol n x) [rdG x_2.1 (Al x_2.1.sg (xh x_2) x_2.2.2.2.2.2),.nil]∧∀(i:Int×Int×Bool×List Nd×List Int×Nat),mbJ x.1.sg n (xg x) (iG i) i.2.2.2.2.1 i.2.2.2.2.2→Aa (!(iG i).bad) (cA Cw [rdG x.1 (iG i),.str #[(125:UInt8)].toList] fun x_3 y=>Aa (!isG x_3.1.sg (xh x_3) (4:Int) x_3.2.2.2.2.2) (cA Cq [rdG x_3.1 (xh x_3)] fun x_4 y=>Aa (pkG x_4.1.sg (xg x_4) (0:Int)).blank (cA (Kg n) [rdG x_4.1 (xg x_4),.bool (decide ((↑(List.length i.2.2.2.2.1):Int)>(0:Int)))] fun x_5 y=>∃(x_6:Int),y.1=x_6∧∃(zs:List Int),Ab [x_6]=Ab zs∧Be Bb∧AS (List.length i.2.2.2.2.1+List.length zs) (8:Nat)∧eN (Ol n x) i [rdG x_5.1 (yG y.2),Ab (i.2.2.2.2.1++zs)]) (cA (Kg n) [rdG x_4.1 (xg x_4),.bool false] fun x_5 y=>∃(x_6:Int),y.1=x_6∧∃(zs:List Int),Ab [x_6]=Ab zs∧Be Bb∧AS (List.length i.2.2.2.2.1+List.length zs) (8:Nat)∧eN (Ol n x) i [rdG x_5.1 (yG y.2),Ab (i.2.2.2.2.1++zs)])) (cA CE [rdG x_3.1 (xh x_3),.str #[(125:UInt8)].toList,.agg [.int .i64 (18:Int),.str #[].toList,Ab i.2.2.2.2.1,.bool false]] fun x_4 y=>inR IntKind.i64 ((Bs x_4.1.sg (xh x_4) x_4.2.2.2.2.2.1 {kind:=x_4.2.2.2.2.2.2.1,text:=x_4.2.2.2.2.2.2.2.1,kids:=x_4.2.2.2.2.2.2.2.2.1,blank:=x_4.2.2.2.2.2.2.2.2.2}).deep-(1:Int))∧rA (HH n) x [.int .i64 (BB x_4.1.sg (xh x_4) x_4.2.2.2.2.2.1),.box 0 [sgs x_4.1.sg,.int .i64 x_4.1.z,.int .i64 (Bs x_4.1.sg (xh x_4) x_4.2.2.2.2.2.1 {kind:=x_4.2.2.2.2.2.2.1,text:=x_4.2.2.2.2.2.2.2.1,kids:=x_4.2.2.2.2.2.2.2.2.1,blank:=x_4.2.2.2.2.2.2.2.2.2}).pos,.int .i64 ((Bs x_4.1.sg (xh x_4) x_4.2.2.2.2.2.1 {kind:=x_4.2.2.2.2.2.2.1,text:=x_4.2.2.2.2.2.2.2.1,kids:=x_4.2.2.2.2.2.2.2.2.1,blank:=x_4.2.2.2.2.2.2.2.2.2}).deep-(1:Int)),.bool (Bs x_4.1.sg (xh x_4) x_4.2.2.2.2.2.1 {kind:=x_4.2.2.2.2.2.2.1,text:=x_4.2.2.2.2.2.2.2.1,kids:=x_4.2.2.2.2.2.2.2.2.1,blank:=x_4.2.2.2.2.2.2.2.2.2}).bad,Au (Bs x_4.1.sg (xh x_4) x_4.2.2.2.2.2.1 {kind:=x_4.2.2.2.2.2.2.1,text:=x_4.2.2.2.2.2.2.2.1,kids:=x_4.2.2.2.2.2.2.2.2.1,blank:=x_4.2.2.2.2.2.2.2.2.2}).nodes,mbs x_4.1.ms]])) (cA CE [rdG x.1 (iG i),.str #[(125:UInt8)].toList,.agg [.int .i64 (18:Int),.str #[].toList,Ab i.2.2.2.2.1,.bool false]] fun x_3 y=>inR IntKind.i64 ((Bs x_3.1.sg (xh x_3) x_3.2.2.2.2.2.1 {kind:=x_3.2.2.2.2.2.2.1,text:=x_3.2.2.2.2.2.2.2.1,kids:=x_3.2.2.2.2.2.2.2.2.1,blank:=x_3.2.2.2.2.2.2.2.2.2}).deep-(1:Int))∧rA (HH n) x [.int .i64 (BB x_3.1.sg (xh x_3) x_3.2.2.2.2.2.1),.box 0 [sgs x_3.1.sg,.int .i64 x_3.1.z,.int .i64 (Bs x_3.1.sg (xh x_3) x_3.2.2.2.2.2.1 {kind:=x_3.2.2.2.2.2.2.1,text:=x_3.2.2.2.2.2.2.2.1,kids:=x_3.2.2.2.2.2.2.2.2.1,blank:=x_3.2.2.2.2.2.2.2.2.2}).pos,.int .i64 ((Bs x_3.1.sg (xh x_3) x_3.2.2.2.2.2.1 {kind:=x_3.2.2.2.2.2.2.1,text:=x_3.2.2.2.2.2.2.2.1,kids:=x_3.2.2.2.2.2.2.2.2.1,blank:=x_3.2.2.2.2.2.2.2.2.2}).deep-(1:Int)),.bool (Bs x_3.1.sg (xh x_3) x_3.2.2.2.2.2.1 {kind:=x_3.2.2.2.2.2.2.1,text:=x_3.2.2.2.2.2.2.2.1,kids:=x_3.2.2.2.2.2.2.2.2.1,blank:=x_3.2.2.2.2.2.2.2.2.2}).bad,Au (Bs x_3.1.sg (xh x_3) x_3.2.2.2.2.2.1 {kind:=x_3.2.2.2.2.2.2.1,text:=x_3.2.2.2.2.2.2.2.1,kids:=x_3.2.2.2.2.2.2.2.2.1,blank:=x_3.2.2.2.2.2.2.2.2.2}).nodes,mbs x_3.1.ms]])) (fun x=>by kernel_rfl) fun(x:ST×Int×Int×Bool×List Nd) (hx:okD x.1 (xg x)∧20-(xg x).deep≤(n:Int))=>(by
 dsimp only[cA,eA,eN,Ol,mbs,Bg,Ab,Au,rA,rdG,HH,CE,Iu,Cw,Cq,Kg,CA,Bj,sgs,Av,AB,mvL,lnL,mvE,lnE,Bw]
 obtain⟨s,p,d,b,ns⟩:=x;dsimp only[xg,xh] at hx ⊢
 obtain⟨hx,hd⟩:=hx
 have hx:okD s ⟨p,d,b,ns⟩:=hx;have hd2:=hx.2;dsimp only at hd2
 (repeat' first|(with_reducible first|rfl|exact True.intro|apply AK|apply And.intro|((first|apply Az|apply AI|apply AA|apply AJ)<;>intro _))|(apply Aw<;>intro _)|apply AH|refine Ae () ?_ ?_|((first|apply AO|apply AN|apply AM|apply AL|apply AG|apply AF|apply AE|apply AD|apply AC)<;>try dsimp only)|apply Ae|(refine Prod.forall.2 ?_;intro _;try dsimp only)|(intro _;try dsimp only))
 all_goals(try dsimp only[xg,xh,yG,yS,iG] at*)
 all_goals(try simp only[CM] at*)
 all_goals first
  |(show Nat;skip)
  |rfl
  |exact hx.1
  |exact hd2
  |assumption
  |exact a1o hx
  |exact b0r hx
  |exact a1p hx ‹_›
  |exact a1r hx ‹_›
  |exact⟨a1p hx ‹_›,(a1q hx hd ‹_› ‹_›).1⟩
  |exact(a1q hx hd ‹_› ‹_›).2
  |exact(QN ‹_› ‹_› ‹_› ‹_› (GD ‹_›)).1
  |exact(QN ‹_› ‹_› ‹_› ‹_› (GE ‹_›)).1
  |exact a1s hx ‹_› (.inl ‹_›)
  |exact a1s hx ‹_› (.inr ‹_›)
  |(have hq:=UL hx (show mbJ _ _ _ _ _ _ by assumption);(try simp only[AS,List.length_append,List.length_cons,List.length_nil]);omega)
  |(have hj:=(show mbJ _ _ _ _ _ _ by assumption);have hq:=b0s (m:=[125]) hx hj (a1r hx hj);(try simp only[AR]);omega)
  |skip
 all_goals first
  |exact(QN ‹_› ‹_› ‹_› ‹_› (GD ‹_›)).2
  |exact(QN ‹_› ‹_› ‹_› ‹_› (GE ‹_›)).2
  |skip)
def Lr(n:Nat):Sig:= {X:=ST×Int×Int×Bool×List Nd×Bool,args:=fun x=>[rdG x.1 (xh x),.bool x.2.2.2.2.2],pre:=fun x=>okN x.1 (xh x)∧20-(xh x).deep≤(n:Int),Y:=Int×Int×Int×Bool×List Nd,post:=fun x y=>Af x.1.sg (Ai (xh x)) (ifR x.1.sg n x.2.2.2.2.2) (yS y),res:=fun x y=> .int .i64 y.1,outs:=fun x y=>[rdG x.1 (yG y.2),.top],keep:=true}
theorem b0v(n:Nat)(h:Aj G Go.Proofs.Tryz.prog 170 (Kg n)):Aj G Tryz.prog 183 (Lr n):=
 vcFun_okP [(162,0,CN),(184,0,Jg),(140,0,(HH n)),(133,0,Ee),(104,0,BS)] [(45,⟨Int,Bb⟩)] false (fun x=>[]) Tryz.func183 rfl (by decide) ⟨Jc,a1w,(UP n h),Qk,GB,trivial⟩ (fun(x:ST×Int×Int×Bool×List Nd×Bool)=>True∧cA CN [rdG x.1 (xh x)] fun x_1 y=>cA Jg [rdG x_1.1 (BX (xg x_1))] fun x_2 y=>cA (HH n) [rdG x_2.1 (yG y.2)] fun x_3 y_1=>∃(x_4:Int),y_1.1=x_4∧∃(zs:List Int),Ab [x_4]=Ab zs∧Be Bb∧AS (List.length [y.1]+List.length zs) (8:Nat)∧cA Ee [rdG x_3.1 (yG y_1.2),.str #[(101:UInt8),(108:UInt8),(115:UInt8),(101:UInt8)].toList] fun x_5 y_2=>Aa (isG x_5.1.sg (xh x_5) (1:Int) x_5.2.2.2.2.2) (cA CN [rdG x_5.1 (xh x_5)] fun x_6 y_3=>cA (HH n) [rdG x_6.1 (BX (xg x_6))] fun x_7 y_4=>∃(x_8:Int),y_4.1=x_8∧∃(zs_1:List Int),Ab [x_8]=Ab zs_1∧Be Bb∧AS (List.length (y.1::List.append._f [] PUnit.unit zs)+List.length zs_1) (8:Nat)∧cA BS [rdG x_7.1 (yG y_4.2),.agg [.int .i64 (16:Int),.str #[].toList,Ab (y.1::List.append._f [] PUnit.unit zs++zs_1),.bool x.2.2.2.2.2]] fun x_9 y=>rA (Lr n) x [.int .i64 (Ax (xh x_9)),rdG x_9.1 (Ag (xh x_9) {kind:=x_9.2.2.2.2.2.1,text:=x_9.2.2.2.2.2.2.1,kids:=x_9.2.2.2.2.2.2.2.1,blank:=x_9.2.2.2.2.2.2.2.2}),.top]) (cA BS [rdG x_5.1 (xh x_5),.agg [.int .i64 (16:Int),.str #[].toList,Ab ([y.1]++zs),.bool x.2.2.2.2.2]] fun x_6 y=>rA (Lr n) x [.int .i64 (Ax (xh x_6)),rdG x_6.1 (Ag (xh x_6) {kind:=x_6.2.2.2.2.2.1,text:=x_6.2.2.2.2.2.2.1,kids:=x_6.2.2.2.2.2.2.2.1,blank:=x_6.2.2.2.2.2.2.2.2}),.top])) (fun x=>by kernel_rfl) fun(x:ST×Int×Int×Bool×List Nd×Bool) (hx:okN x.1 (xh x)∧20-(xh x).deep≤(n:Int))=>(by
 dsimp only[cA,mbs,Bg,Ab,Au,rA,rdG,BS,HH,Lr,Jg,Ee,CN,Bj,sgs,Av,AB,mvL,lnL,mvE,lnE]
 obtain⟨s,p,d,b,ns,e⟩:=x;dsimp only[xg,xh] at hx ⊢
 obtain⟨hx,hd⟩:=hx
 have hx:okN s ⟨p,d,b,ns⟩:=hx
 have hp:=MH hx.2.1
 have h1:okD s (Ai ⟨p,d,b,ns⟩):=Kf hx
 have h2:20-(Ai ⟨p,d,b,ns⟩).deep≤(n:Int):=hd
 (repeat' first|(with_reducible first|rfl|exact True.intro|apply AK|apply And.intro|((first|apply Az|apply AI|apply AA|apply AJ)<;>intro _))|(apply Aw<;>intro _)|apply AH|refine Ae () ?_ ?_|((first|apply AO|apply AN|apply AM|apply AL|apply AG|apply AF|apply AE|apply AD|apply AC)<;>try dsimp only)|apply Ae|(refine Prod.forall.2 ?_;intro _;try dsimp only)|(intro _;try dsimp only))
 all_goals(try dsimp only[xg,xh,yG,yS,iG] at*)
 all_goals(try simp only[CM,hp] at*)
 all_goals first
  |rfl
  |exact hx.1.1
  |exact h1
  |exact h1.1
  |exact Lo h1 ‹_›
  |exact QO h2 ‹_›
  |skip
 all_goals(try(have e:=MH (a0t (show isG s.sg _ 1 [101,108,115,101]=true by assumption) (by omega));simp only[e] at*))
 all_goals(try(have hc:=(show Bm s.sg _ (Di s.sg) _ by assumption);have k1:=Lo h1 hc;have k2:=QO h2 hc))
 all_goals first
  |exact(show AS 2 8 by simp [AS])
  |exact(show AS 3 8 by simp [AS])
  |exact(Ok k1 (show Af s.sg _ (BH s.sg _) _ by assumption)).1
  |exact Lp (Ok k1 ‹_›) ‹_›
  |exact(Ok (Lp (Ok k1 ‹_›) ‹_›) ‹_›).1
  |(have hh:=a1u k2 (show Af s.sg _ (BH s.sg _) _ by assumption);exact hh)
  |exact a0U h1.1.2 ‹_› ‹_› ‹_›
  |exact a0V h1.1.2 ‹_› ‹_› ‹_› ‹_›
  |skip)
def HI(n:Nat):Sig:= {X:=ST×Int×Int×Bool×List Nd×Bool,args:=fun x=>[rdG x.1 (xh x),.bool x.2.2.2.2.2],pre:=fun x=>(okD x.1 (xh x)∧(xh x).bad=false)∧21-(xh x).deep≤(n+1:Nat),Y:=Int×Int×Int×Bool×List Nd,post:=fun x y=>Af x.1.sg (xh x) (stR x.1.sg (n+1) x.2.2.2.2.2) (yS y),res:=fun x y=> .int .i64 y.1,outs:=fun x y=>[rdG x.1 (yG y.2),.top],keep:=true}
theorem b0w(n:Nat)(h:Aj G Go.Proofs.Tryz.prog 170 (Kg n)):Aj G Tryz.prog 170 (HI n):=
 vcFun_okP [(103,0,Cq),(132,0,Hh),(133,0,Ee),(134,0,GF),(182,0,Lq),(183,0,(Lr n)),(162,0,CN),(184,0,Jg),(140,0,(HH n)),(167,0,Er),(141,0,EI),(136,0,Es),(137,0,CA),(164,0,Fm),(165,0,CE),(104,0,BS)] [(45,⟨Int,Bb⟩)] false (fun x=>[]) Tryz.func170 rfl (by decide) ⟨GZ,UN,Qk,UO,b0u,(b0v n h),Jc,a1w,(UP n h),Oa,Qj,Ob,Jb,QM,Lj,GB,trivial⟩ (fun(x:ST×Int×Int×Bool×List Nd×Bool)=>True∧cA Cq [rdG x.1 (xh x)] fun x_1 y=>Aa ((pkG x_1.1.sg (xg x_1) (0:Int)).kind==(5:Int)) (cA Hh [rdG x_1.1 (xg x_1),.bool x.2.2.2.2.2] fun x_2 y=>rA (HI n) x [.int .i64 (Ax (xh x_2)),rdG x_2.1 (CY x_2.1.sg (xh x_2) (19:Int) x_2.2.2.2.2.2),.top]) (cA Ee [rdG x_1.1 (xg x_1),.str #[(118:UInt8),(97:UInt8),(114:UInt8)].toList] fun x_2 y=>Aa (isG x_2.1.sg (xh x_2) (1:Int) x_2.2.2.2.2.2) (cA GF [rdG x_2.1 (xh x_2),.bool x.2.2.2.2.2] fun x_3 y=>rA (HI n) x [.int .i64 y.1,rdG x_3.1 (yG y.2),.top]) (cA Ee [rdG x_2.1 (xh x_2),.str #[(114:UInt8),(101:UInt8),(116:UInt8),(117:UInt8),(114:UInt8),(110:UInt8)].toList] fun x_3 y=>Aa (isG x_3.1.sg (xh x_3) (1:Int) x_3.2.2.2.2.2) (cA Lq [rdG x_3.1 (xh x_3),.bool x.2.2.2.2.2] fun x_4 y=>rA (HI n) x [.int .i64 y.1,rdG x_4.1 (yG y.2),.top]) (cA Ee [rdG x_3.1 (xh x_3),.str #[(105:UInt8),(102:UInt8)].toList] fun x_4 y=>Aa (isG x_4.1.sg (xh x_4) (1:Int) x_4.2.2.2.2.2) (cA (Lr n) [rdG x_4.1 (xh x_4),.bool x.2.2.2.2.2] fun x_5 y=>rA (HI n) x [.int .i64 y.1,rdG x_5.1 (yG y.2),.top]) (cA Ee [rdG x_4.1 (xh x_4),.str #[(119:UInt8),(104:UInt8),(105:UInt8),(108:UInt8),(101:UInt8)].toList] fun x_5 y=>Aa (isG x_5.1.sg (xh x_5) (1:Int) x_5.2.2.2.2.2) (cA CN [rdG x_5.1 (xh x_5)] fun x_6 y=>cA Jg [rdG x_6.1 (BX (xg x_6))] fun x_7 y=>cA (HH n) [rdG x_7.1 (yG y.2)] fun x_8 y_1=>∃(x_9:Int),y_1.1=x_9∧∃(zs:List Int),Ab [x_9]=Ab zs∧Be Bb∧AS (List.length [y.1]+List.length zs) (8:Nat)∧cA BS [rdG x_8.1 (yG y_1.2),.agg [.int .i64 (17:Int),.str #[].toList,Ab ([y.1]++zs),.bool x.2.2.2.2.2]] fun x_10 y=>rA (HI n) x [.int .i64 (Ax (xh x_10)),rdG x_10.1 (Ag (xh x_10) {kind:=x_10.2.2.2.2.2.1,text:=x_10.2.2.2.2.2.2.1,kids:=x_10.2.2.2.2.2.2.2.1,blank:=x_10.2.2.2.2.2.2.2.2}),.top]) (cA Er [rdG x_5.1 (xh x_5),.int .i64 (0:Int)] fun x_6 y=>Aa (nmG x_6.1.sg (xh x_6) x_6.2.2.2.2.2) (cA EI [rdG x_6.1 (xh x_6),.int .i64 (1:Int)] fun x_7 y=>Aa ((pkG x_7.1.sg (xh x_7) x_7.2.2.2.2.2).text== #[(61:UInt8)].toList) (cA EI [rdG x_7.1 (xh x_7),.int .i64 (1:Int)] fun x_8 y=>Aa ((pkG x_8.1.sg (xh x_8) x_8.2.2.2.2.2).kind==(4:Int)) (cA Es [rdG x_8.1 (xh x_8)] fun x_9 y=>cA CA [rdG x_9.1 (BQ x_9.1.sg (xg x_9)),.str #[(61:UInt8)].toList] fun x_10 y=>cA Fm [rdG x_10.1 (Al x_10.1.sg (xh x_10) x_10.2.2.2.2.2)] fun x_11 y=>∃(x_12:Int),y.1=x_12∧cA CE [rdG x_11.1 (yG y.2),.str #[(59:UInt8)].toList,.agg [.int .i64 (13:Int),.str (BR x_9.1.sg (xg x_9)),Ab [x_12],.bool x.2.2.2.2.2]] fun x_13 y=>rA (HI n) x [.int .i64 (BB x_13.1.sg (xh x_13) x_13.2.2.2.2.2.1),rdG x_13.1 (Bs x_13.1.sg (xh x_13) x_13.2.2.2.2.2.1 {kind:=x_13.2.2.2.2.2.2.1,text:=x_13.2.2.2.2.2.2.2.1,kids:=x_13.2.2.2.2.2.2.2.2.1,blank:=x_13.2.2.2.2.2.2.2.2.2}),.top]) (cA Fm [rdG x_8.1 (xh x_8)] fun x_9 y=>∃(x_10:Int),y.1=x_10∧cA CE [rdG x_9.1 (yG y.2),.str #[(59:UInt8)].toList,.agg [.int .i64 (14:Int),.str #[].toList,Ab [x_10],.bool x.2.2.2.2.2]] fun x_11 y=>rA (HI n) x [.int .i64 (BB x_11.1.sg (xh x_11) x_11.2.2.2.2.2.1),rdG x_11.1 (Bs x_11.1.sg (xh x_11) x_11.2.2.2.2.2.1 {kind:=x_11.2.2.2.2.2.2.1,text:=x_11.2.2.2.2.2.2.2.1,kids:=x_11.2.2.2.2.2.2.2.2.1,blank:=x_11.2.2.2.2.2.2.2.2.2}),.top])) (cA Fm [rdG x_7.1 (xh x_7)] fun x_8 y=>∃(x_9:Int),y.1=x_9∧cA CE [rdG x_8.1 (yG y.2),.str #[(59:UInt8)].toList,.agg [.int .i64 (14:Int),.str #[].toList,Ab [x_9],.bool x.2.2.2.2.2]] fun x_10 y=>rA (HI n) x [.int .i64 (BB x_10.1.sg (xh x_10) x_10.2.2.2.2.2.1),rdG x_10.1 (Bs x_10.1.sg (xh x_10) x_10.2.2.2.2.2.1 {kind:=x_10.2.2.2.2.2.2.1,text:=x_10.2.2.2.2.2.2.2.1,kids:=x_10.2.2.2.2.2.2.2.2.1,blank:=x_10.2.2.2.2.2.2.2.2.2}),.top])) (cA Fm [rdG x_6.1 (xh x_6)] fun x_7 y=>∃(x_8:Int),y.1=x_8∧cA CE [rdG x_7.1 (yG y.2),.str #[(59:UInt8)].toList,.agg [.int .i64 (14:Int),.str #[].toList,Ab [x_8],.bool x.2.2.2.2.2]] fun x_9 y=>rA (HI n) x [.int .i64 (BB x_9.1.sg (xh x_9) x_9.2.2.2.2.2.1),rdG x_9.1 (Bs x_9.1.sg (xh x_9) x_9.2.2.2.2.2.1 {kind:=x_9.2.2.2.2.2.2.1,text:=x_9.2.2.2.2.2.2.2.1,kids:=x_9.2.2.2.2.2.2.2.2.1,blank:=x_9.2.2.2.2.2.2.2.2.2}),.top]))))))) (fun x=>by kernel_rfl) fun(x:ST×Int×Int×Bool×List Nd×Bool) (hx:(okD x.1 (xh x)∧(xh x).bad=false)∧21-(xh x).deep≤(n+1:Nat))=>(by
 dsimp only[cA,mbs,Bg,Ab,Au,rA,rdG,BS,HH,Lr,CE,Jg,Ee,Lq,Es,Cq,Er,Hh,CN,EI,HI,CA,Fm,GF,Bj,sgs,Av,AB,mvL,lnL,mvE,lnE]
 obtain⟨s,p,d,b,ns,e⟩:=x;dsimp only[xg,xh] at hx ⊢
 obtain⟨⟨hx,hb⟩,hd⟩:=hx
 have hx:okD s ⟨p,d,b,ns⟩:=hx;have hp:=MH (x:=⟨p,d,b,ns⟩) hb;have hd2:=hx.2;dsimp only at hd2
 (repeat' first|(with_reducible first|rfl|exact True.intro|apply AK|apply And.intro|((first|apply Az|apply AI|apply AA|apply AJ)<;>intro _))|(apply Aw<;>intro _)|apply AH|refine Ae () ?_ ?_|((first|apply AO|apply AN|apply AM|apply AL|apply AG|apply AF|apply AE|apply AD|apply AC)<;>try dsimp only)|apply Ae|(refine Prod.forall.2 ?_;intro _;try dsimp only)|(intro _;try dsimp only))
 all_goals(try dsimp only[xg,xh,yG,yS,iG] at*)
 all_goals(try simp only[CM,hp] at*)
 all_goals first
  |rfl
  |exact hx.1
  |exact hd2
  |assumption
  |exact Oj hx ‹_›
  |exact Lp hx ‹_›
  |exact(Lp hx ‹_›).1
  |exact a0Y hx.1.1 hx.1.2 ‹_›
  |exact a0Z hx.1.2 ‹_› ‹_› ‹_›
  |exact UE hx.1.2 ‹_› ‹_› ‹_› ‹_›
  |exact UF hx.1.2 ‹_› ‹_› ‹_› ‹_› ‹_›
  |exact a1t hx ‹_› ‹_› ‹_› ‹_› ‹_› ‹_› ‹_›
  |exact b0t hx.1 ‹_› ‹_› ‹_› ‹_› ‹_› ‹_› ‹_› ‹_› ‹_›
  |exact UM hx.1 ‹_› ‹_› ‹_› ‹_› ‹_› (.inl ‹_›) ‹_›
  |exact UM hx.1 ‹_› ‹_› ‹_› ‹_› ‹_› (.inr (.inl ‹_›)) ‹_›
  |exact UM hx.1 ‹_› ‹_› ‹_› ‹_› ‹_› (.inr (.inr ‹_›)) ‹_›
  |exact HG hx.1
  |exact(Ef (HG hx.1)).1
  |exact a1v hx
  |exact Dq hx.1 ‹_›
  |exact DF (Hg hx.1.1) (by simp)
  |exact DF (by simp) (by simp)
  |exact(show AS 2 8 by simp [AS])
  |omega
  |skip
 all_goals(try(have hc:=(show Bm s.sg _ (Di s.sg) _ by assumption);have k1:=Lo (Lp hx ‹_›) hc;have k2:=QO (n:=n) (x:=Ai ⟨p,d,b,ns⟩) (by simp only[Ai];omega) hc))
 all_goals first
  |exact k1
  |exact k2
  |exact(Ok k1 ‹_›).1
  |skip)
end Go.My
end
