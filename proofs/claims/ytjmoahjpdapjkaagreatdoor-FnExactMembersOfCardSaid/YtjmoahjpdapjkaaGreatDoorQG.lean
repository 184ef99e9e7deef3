/- A part of the proof: the engine and the contracts, joined. -/
import Derived.Test.YtjmoahjpdapjkaaGreatDoorQF
section
set_option linter.unusedVariables false
set_option linter.unusedSimpArgs false
namespace Go.My
open Go.Eng
def EG(t:List UInt8):Nat→Int→Int→Option (List Sg)
 |0,_,_=>none
 |n+1,at_,br=>match t[at_.toNat]? with
  |none=>some []
  |some c=>if c.toNat=32 then EG t n (at_+1) br
   else if c.toNat=10 then EG t n (at_+1) (br+1)
   else if(Bc (t.drop at_.toNat)).ok then(EG t n (at_+(Bc (t.drop at_.toNat)).size) 0).map (⟨(Bc (t.drop at_.toNat)).kind,(Bc (t.drop at_.toNat)).text,at_,decide (br>1)⟩:: ·)
   else none
def Br(t:List UInt8):Option (List Sg):=if 3000<t.length then none else EG t (t.length+1) 0 0
structure Ps where
 pos:Int
 deep:Int
 nodes:List Nd
abbrev PR:=Option (Int×Ps)
abbrev PL:=Option (List Int×Ps)
def Ec:Sg:=⟨0,[],0,false⟩
def sgO(sg:List Sg)(i:Int):Sg:=sg.getD i.toNat Ec
def isT(sg:List Sg)(s:Ps)(k:Int)(t:List UInt8):Bool:=decide ((sgO sg s.pos).kind=k)&&((sgO sg s.pos).text==t)
def isM(sg:List Sg)(s:Ps)(t:List UInt8):Bool:=isT sg s 4 t
def isW(sg:List Sg)(s:Ps)(t:List UInt8):Bool:=isT sg s 1 t
def Dh(sg:List Sg)(i:Int):Bool:=decide ((sgO sg i).kind=1)&& !kw (sgO sg i).text
def adv(s:Ps):Ps:=⟨s.pos+1,s.deep,s.nodes⟩
def dp(s:Ps)(d:Int):Ps:=⟨s.pos,s.deep+d,s.nodes⟩
def BF(sg:List Sg)(t:List UInt8)(s:Ps):Option Ps:=if isM sg s t then some (adv s) else none
def Ba(x:Nd)(s:Ps):PR:=if 300≤s.nodes.length then none else some (s.nodes.length,⟨s.pos,s.deep,s.nodes++[x]⟩)
def En(r:PR):PR:=r.map fun p=>(p.1,adv p.2)
def DU(sg:List Sg)(k:Int)(b:Bool)(s:Ps):PR:=En (Ba ⟨k,(sgO sg s.pos).text,[],b⟩ s)
def Bz(sg:List Sg)(s:Ps):PR:=if Dh sg s.pos then DU sg 1 false s else none
def Fi(sg:List Sg)(s:Ps):Option (List UInt8×Ps):=if Dh sg s.pos then some ((sgO sg s.pos).text,adv s) else none
def Bo(sg:List Sg)(m:List UInt8)(x:Nd)(s:Ps):PR:=if isM sg s m then En (Ba x s) else none
def Bl(sg:List Sg)(one:Ps→PR)(m:List UInt8):Nat→List Int→Ps→PL
 |0,_,_=>none
 |n+1,ks,s=>if isM sg s m then some (ks,s) else(one s).bind fun p=>if isM sg p.2 [44] then Bl sg one m n (ks++[p.1]) (adv p.2) else some (ks++[p.1],p.2)
def Dl(sg:List Sg):Nat→Int→Int
 |0,i=>i
 |n+1,i=>if Dh sg i then(if(sgO sg (i+1)).text=[44] then Dl sg n (i+2) else i+1) else i
def Eo(sg:List Sg)(s:Ps):Bool:=((sgO sg (Dl sg (sg.length+1) (s.pos+1))).text==[41])&&((sgO sg (Dl sg (sg.length+1) (s.pos+1)+1)).text==[61,62])
def Bu(l:Nat):List (List UInt8):=match l with
 |0=>[[124,124]]
 |1=>[[38,38]]
 |2=>[[61,61]]
 |3=>[[60]]
 |4=>[[43],[45]]
 |_=>[[42]]
def FB(sg:List Sg)(l:Nat)(s:Ps):List UInt8:=((Bu l).find? fun m=>isM sg s m).getD []
def Ed(sg:List Sg)(l:Nat)(one:Ps→PR):Nat→List UInt8→List Int→Ps→PR
 |0,_,_,_=>none
 |n+1,t,ks,s=>
  if t≠[]∧FB sg l s≠t then(Ba ⟨7,t,ks,false⟩ s).bind fun p=>Ed sg l one n [] [p.1] p.2
  else if FB sg l s=[] then some (ks.headD 0,s)
  else(one (adv s)).bind fun p=>Ed sg l one n (FB sg l s) (ks++[p.1]) p.2
def CP(sg:List Sg)(val:Ps→PR)(k:Int)(s:Ps):PR:=(BF sg [40] s).bind fun s=>(Bl sg val [41] (sg.length+1) [k] s).bind fun p=>Bo sg [41] ⟨5,[],p.1,false⟩ p.2
def Fj(sg:List Sg)(val:Ps→PR):Nat→Int→Ps→PR
 |0,_,_=>none
 |n+1,k,s=>
  if isM sg s [40] then(CP sg val k s).bind fun p=>Fj sg val n p.1 p.2
  else if isM sg s [46] then(if Dh sg (s.pos+1) then(En (Ba ⟨6,(sgO sg (s.pos+1)).text,[k],false⟩ (adv s))).bind fun p=>Fj sg val n p.1 p.2 else none)
  else some (k,s)
def EW(sg:List Sg)(val:Ps→PR):Nat→List Int→Ps→PL
 |0,_,_=>none
 |n+1,ks,s=>if isM sg s [46,46] then(Bz sg (adv s)).bind fun p=>(CP sg val p.1 p.2).bind fun q=>EW sg val n (ks++[q.1]) q.2 else some (ks,s)
inductive NT where
 |value|pick|chain (l:Nat)|fin|base
def pE(sg:List Sg):Nat→NT→Ps→PR
 |0,_,_=>none
 |n+1,.value,s=>(pE sg n .pick s).bind fun p=>if isM sg p.2 [46,46] then(EW sg (pE sg n .value) (sg.length+1) [p.1] p.2).bind fun q=>Ba ⟨10,[],q.1,false⟩ q.2 else some p
 |n+1,.pick,s=>if 20≤s.deep then none else(pE sg n (.chain 0) (dp s 1)).bind fun p=>
   if isM sg p.2 [63] then(pE sg n .pick (adv p.2)).bind fun a=>(BF sg [58] a.2).bind fun s1=>(pE sg n .pick s1).bind fun b=>(Ba ⟨8,[],[p.1,a.1,b.1],false⟩ b.2).map fun q=>(q.1,dp q.2 (-1))
   else some (p.1,dp p.2 (-1))
 |n+1,.chain l,s=>if l=6 then pE sg n .fin s else(pE sg n (.chain (l+1)) s).bind fun p=>Ed sg l (pE sg n (.chain (l+1))) (2*sg.length+4) [] [p.1] p.2
 |n+1,.fin,s=>(pE sg n .base s).bind fun p=>Fj sg (pE sg n .value) (sg.length+1) p.1 p.2
 |n+1,.base,s=>
  if(sgO sg s.pos).kind=1 then Bz sg s
  else if(sgO sg s.pos).kind=2 then DU sg 2 false s
  else if(sgO sg s.pos).kind=3 then DU sg 3 false s
  else if isM sg s [91] then(Bl sg (pE sg n .value) [93] (sg.length+1) [] (adv s)).bind fun p=>Bo sg [93] ⟨4,[],p.1,false⟩ p.2
  else if isM sg s [40]&&Eo sg s then(Bl sg (Bz sg) [41] (sg.length+1) [] (adv s)).bind fun p=>(BF sg [41] p.2).bind fun s1=>(BF sg [61,62] s1).bind fun s2=>(pE sg n .pick s2).bind fun q=>Ba ⟨9,[],p.1++[q.1],false⟩ q.2
  else if isM sg s [40] then(pE sg n .value (adv s)).bind fun p=>Bo sg [41] ⟨11,[],[p.1],false⟩ p.2
  else none
def peN:Nat:=40000
def Ca(sg:List Sg):Ps→PR:=pE sg peN .value
def Dm(sg:List Sg)(b:Bool)(s:Ps):PR:=(Fi sg s).bind fun p=>
 if isM sg p.2 [61] then(Ca sg (adv p.2)).bind fun q=>Bo sg [59] ⟨12,p.1,[q.1],b⟩ q.2 else Bo sg [59] ⟨12,p.1,[],b⟩ p.2
def Di(sg:List Sg)(s:Ps):PR:=(BF sg [40] s).bind fun s1=>(Ca sg s1).bind fun p=>(BF sg [41] p.2).map fun s2=>(p.1,s2)
def CK(sg:List Sg)(one:Bool→Ps→PR)(m:List UInt8):Nat→List Int→Ps→PL
 |0,_,_=>none
 |n+1,ks,s=>if isM sg s m then some (ks,s) else(one ((sgO sg s.pos).blank&&decide (0<ks.length)) s).bind fun p=>CK sg one m n (ks++[p.1]) p.2
def BH(sg:List Sg)(one:Bool→Ps→PR)(s:Ps):PR:=if 20≤s.deep then none else(BF sg [123] (dp s 1)).bind fun s1=>(CK sg one [125] (sg.length+1) [] s1).bind fun p=>(Bo sg [125] ⟨18,[],p.1,false⟩ p.2).map fun q=>(q.1,dp q.2 (-1))
def stR(sg:List Sg):Nat→Bool→Ps→PR
 |0,_,_=>none
 |n+1,b,s=>
  if(sgO sg s.pos).kind=5 then DU sg 19 b s
  else if isW sg s [118,97,114] then Dm sg b (adv s)
  else if isW sg s [114,101,116,117,114,110] then(if isM sg (adv s) [59] then Bo sg [59] ⟨15,[],[],b⟩ (adv s) else(Ca sg (adv s)).bind fun p=>Bo sg [59] ⟨15,[],[p.1],b⟩ p.2)
  else if isW sg s [105,102] then(Di sg (adv s)).bind fun p=>(BH sg (stR sg n) p.2).bind fun q=>
   if isW sg q.2 [101,108,115,101] then(BH sg (stR sg n) (adv q.2)).bind fun r=>Ba ⟨16,[],[p.1,q.1,r.1],b⟩ r.2 else Ba ⟨16,[],[p.1,q.1],b⟩ q.2
  else if isW sg s [119,104,105,108,101] then(Di sg (adv s)).bind fun p=>(BH sg (stR sg n) p.2).bind fun q=>Ba ⟨17,[],[p.1,q.1],b⟩ q.2
  else if Dh sg s.pos&&isM sg (adv s) [61] then(Ca sg (adv (adv s))).bind fun p=>Bo sg [59] ⟨13,(sgO sg s.pos).text,[p.1],b⟩ p.2
  else(Ca sg s).bind fun p=>Bo sg [59] ⟨14,[],[p.1],b⟩ p.2
def stN:Nat:=30
def EH(sg:List Sg):Ps→PR:=BH sg (stR sg stN)
def EX(sg:List Sg)(b:Bool)(s:Ps):PR:=(Fi sg s).bind fun p=>(BF sg [40] p.2).bind fun s1=>(Bl sg (Bz sg) [41] (sg.length+1) [] s1).bind fun q=>(BF sg [41] q.2).bind fun s2=>(EH sg s2).bind fun r=>Ba ⟨20,p.1,q.1++[r.1],b⟩ r.2
def CS(sg:List Sg)(b:Bool)(s:Ps):PR:=
 if(sgO sg s.pos).kind=5 then DU sg 19 b s else if isW sg s [118,97,114] then Dm sg b (adv s) else EX sg b s
def Fk(sg:List Sg)(b:Bool)(s:Ps):PR:=(Fi sg s).bind fun p=>(BF sg [123] p.2).bind fun s1=>(CK sg (CS sg) [125] (sg.length+1) [] s1).bind fun q=>Bo sg [125] ⟨21,p.1,q.1,b⟩ q.2
def Dn(sg:List Sg)(b:Bool)(s:Ps):PR:=
 if(sgO sg s.pos).kind=5 then DU sg 19 b s else if isW sg s [118,97,114] then Dm sg b (adv s) else if isW sg s [99,108,97,115,115] then Fk sg b (adv s) else EX sg b s
def IX(sg:List Sg):Nat→List Int→List (Int×Int)→Ps→Option ((List Int×List (Int×Int))×Ps)
 |0,_,_,_=>none
 |n+1,ks,ms,s=>if s.pos<sg.length then(Dn sg ((sgO sg s.pos).blank&&decide (0<ks.length)) s).bind fun p=>IX sg n (ks++[p.1]) (ms++[(s.pos,p.2.pos)]) p.2 else some ((ks,ms),s)
def ps0:Ps:=⟨0,0,[]⟩
def FZ(sg:List Sg):Option (List (Int×Int)×List Nd):=(IX sg (sg.length+1) [] [] ps0).bind fun p=>(Ba ⟨22,[],p.1.1,false⟩ p.2).bind fun q=>if De q.2.nodes then some (p.1.2,q.2.nodes) else none
def CB(t:List UInt8):Option (List Nd):=(Br t).bind fun sg=>(FZ sg).map (·.2)
end Go.My
end
section
set_option linter.unusedVariables false
set_option linter.unusedSimpArgs false
namespace Go.My
open Go.Eng
structure Gs where
 pos:Int
 deep:Int
 bad:Bool
 nodes:List Nd
def Cv(x:Nd):Prop:=x.text.length≤3000∧x.kids.length≤4000
def sgB(sg:List Sg):Prop:=sg.length≤3000∧∀e∈sg,e.text.length≤3000
def gsOk(sg:List Sg)(g:Gs):Prop:=(0≤g.pos∧g.pos≤sg.length)∧(0≤g.deep∧g.deep≤21)∧g.nodes.length≤300∧∀x∈g.nodes,Cv x
def pur(g:Gs):Option Ps:=if g.bad then none else some ⟨g.pos,g.deep,g.nodes⟩
theorem DJ{g:Gs}(h:g.bad=true):pur g=none:=by simp [pur,h]
theorem CX{g:Gs}(h:g.bad=false):pur g=some ⟨g.pos,g.deep,g.nodes⟩:=by simp [pur,h]
theorem ZC{g:Gs}:pur g=none↔g.bad=true:=by
 cases h:g.bad<;>simp [pur,h]
theorem Ep{g:Gs}{s:Ps}:pur g=some s↔g.bad=false∧s=⟨g.pos,g.deep,g.nodes⟩:=by
 cases h:g.bad<;>simp [pur,h,eq_comm]
def Ue(sg:List Sg)(x:Gs)(f:Ps→Option Ps)(y:Gs):Prop:=gsOk sg y∧y.deep=x.deep∧x.pos≤y.pos∧pur y=(pur x).bind f
def Bm{α:Type}(sg:List Sg)(x:Gs)(f:Ps→Option (α×Ps))(y:α×Gs):Prop:=
 gsOk sg y.2∧y.2.deep=x.deep∧x.pos≤y.2.pos∧pur y.2=((pur x).bind f).map (·.2)∧∀p,(pur x).bind f=some p→y.1=p.1
def Af{α:Type}(sg:List Sg)(x:Gs)(f:Ps→Option (α×Ps))(y:α×Gs):Prop:=Bm sg x f y∧(y.2.bad=false→x.pos<y.2.pos)
def pkG(sg:List Sg)(g:Gs)(n:Int):Sg:=if g.bad=true∨(sg.length:Int)≤g.pos+n then Ec else sgO sg (g.pos+n)
theorem Uf{sg:List Sg}{i:Int}(h:(sg.length:Int)≤i):sgO sg i=Ec:=by
 unfold sgO;rw[List.getD_eq_getElem?_getD,List.getElem?_eq_none (by omega)];rfl
theorem Ga{sg:List Sg}{i:Int}{e:Sg}(h:sg[i.toNat]? =some e):sgO sg i=e:=by simp [sgO,List.getD,h]
theorem GA{sg:List Sg}{g:Gs}{n:Int}(h:g.bad=false):pkG sg g n=sgO sg (g.pos+n):=by
 unfold pkG
 split
 ·rename_i hh
  rcases hh with hh|hh
  ·rw[h] at hh;cases hh
  ·exact(Uf hh).symm
 ·rfl
theorem a8H{sg:List Sg}{g:Gs}{n:Int}(h:g.bad=true):pkG sg g n=Ec:=by unfold pkG;rw[if_pos (.inl h)]
def isG(sg:List Sg)(g:Gs)(k:Int)(t:List UInt8):Bool:=decide ((pkG sg g 0).kind=k)&&((pkG sg g 0).text==t)
def nmG(sg:List Sg)(g:Gs)(n:Int):Bool:=decide ((pkG sg g n).kind=1)&& !kw (pkG sg g n).text
theorem Qg{sg:List Sg}{g:Gs}{s:Ps}{k:Int}{t:List UInt8}(h:pur g=some s):isG sg g k t=isT sg s k t:=by
 obtain⟨h1,rfl⟩:=Ep.1 h
 simp [isG,isT,GA h1]
theorem ZD{sg:List Sg}{g:Gs}{k:Int}{t:List UInt8}(h:pur g=none)(hk:k≠0):isG sg g k t=false:=by
 simp [isG,a8H (ZC.1 h),Ec,Ne.symm hk]
theorem JV{sg:List Sg}{g:Gs}{s:Ps}{n:Int}(h:pur g=some s):nmG sg g n=Dh sg (s.pos+n):=by
 obtain⟨h1,rfl⟩:=Ep.1 h
 simp [nmG,Dh,GA h1]
theorem Cy{sg:List Sg}{g:Gs}{k:Int}{t:List UInt8}(h:isG sg g k t=true)(hk:k≠0):g.bad=false∧g.pos<sg.length:=by
 unfold isG pkG at h
 split at h
 ·simp [Ec,Ne.symm hk] at h
 ·rename_i hh
  simp only[Int.add_zero] at hh
  exact⟨by cases hb:g.bad<;>simp_all,by omega⟩
theorem Iq{sg:List Sg}{g:Gs}{n:Int}(h:nmG sg g n=true):g.bad=false∧g.pos+n<sg.length:=by
 unfold nmG pkG at h
 split at h
 ·simp [Ec] at h
 ·rename_i hh;exact⟨by cases hb:g.bad<;>simp_all,by omega⟩
end Go.My
end
section
set_option linter.unusedVariables false
set_option linter.unusedSimpArgs false
namespace Go.My
open Go.Eng
def Ai(g:Gs):Gs:=⟨g.pos+1,g.deep,g.bad,g.nodes⟩
def Bd(g:Gs):Gs:=⟨g.pos,g.deep,true,g.nodes⟩
def gDp(g:Gs)(d:Int):Gs:=⟨g.pos,g.deep+d,g.bad,g.nodes⟩
def Ah(sg:List Sg)(g:Gs)(m:List UInt8):Gs:=if isG sg g 4 m then Ai g else g
def Al(sg:List Sg)(g:Gs)(m:List UInt8):Gs:=if isG sg g 4 m then Ai g else Bd g
def BX(g:Gs):Gs:=if g.bad then g else Ai g
def CQ(g:Gs):Bool:=g.bad||decide (g.nodes.length=300)
def Ag(g:Gs)(x:Nd):Gs:=if CQ g then Bd g else⟨g.pos,g.deep,g.bad,g.nodes++[x]⟩
def Ax(g:Gs):Int:=if CQ g then 0 else g.nodes.length
def Bs(sg:List Sg)(g:Gs)(m:List UInt8)(x:Nd):Gs:=if isG sg g 4 m then BX (Ag g x) else Bd g
def BB(sg:List Sg)(g:Gs)(m:List UInt8):Int:=if isG sg g 4 m then Ax g else 0
def CY(sg:List Sg)(g:Gs)(k:Int)(b:Bool):Gs:=BX (Ag g ⟨k,(pkG sg g 0).text,[],b⟩)
def Cz(sg:List Sg)(g:Gs):Gs:=if nmG sg g 0 then CY sg g 1 false else Bd g
def Dj(sg:List Sg)(g:Gs):Int:=if nmG sg g 0 then Ax g else 0
def BQ(sg:List Sg)(g:Gs):Gs:=if nmG sg g 0 then Ai g else Bd g
def BR(sg:List Sg)(g:Gs):List UInt8:=if nmG sg g 0 then(pkG sg g 0).text else []
theorem EY{sg:List Sg}{g:Gs}(h:gsOk sg g)(hl:g.pos<sg.length):gsOk sg (Ai g):=by
 obtain⟨h1,h2⟩:=h
 exact⟨by simp only[Ai];omega,h2⟩
theorem Li{sg:List Sg}{g:Gs}(h:gsOk sg g):gsOk sg (Bd g):=h
theorem Ug{g:Gs}:pur (Ai g)=(pur g).map adv:=by
 cases h:g.bad<;>simp [pur,Ai,h,adv]
theorem IY{g:Gs}:pur (Bd g)=none:=by simp [pur,Bd]
theorem ZE{sg:List Sg}{g:Gs}{k:Int}{m:List UInt8}(h:gsOk sg g)(hk:k≠0)(hm:isG sg g k m=true):Ue sg g (fun s=>if isT sg s k m then some (adv s) else none) (Ai g)∧(Ai g).bad=false∧g.pos<(Ai g).pos:=by
 obtain⟨h1,h2⟩:=Cy hm hk
 refine⟨⟨EY h h2,rfl,by simp only[Ai];omega,?_⟩,h1,by simp only[Ai];omega⟩
 rw[Ug,CX h1]
 have:isT sg ⟨g.pos,g.deep,g.nodes⟩ k m=true:=by rw[←Qg (CX h1)];exact hm
 simp [this]
theorem Qh{sg:List Sg}{g:Gs}{s:Ps}{k:Int}{m:List UInt8}(hm:isG sg g k m=false)(hs:pur g=some s):isT sg s k m=false:=by rw[←Qg hs];exact hm
theorem Uh{sg:List Sg}{g:Gs}{s:Ps}{k:Int}{m:List UInt8}(hm:isG sg g k m=true)(hs:pur g=some s):isT sg s k m=true:=by rw[←Qg hs];exact hm
theorem MB{sg:List Sg}{g:Gs}{m:List UInt8}(h:gsOk sg g):Ue sg g (BF sg m) (Al sg g m)∧((Al sg g m).bad=false→g.pos<(Al sg g m).pos):=by
 unfold Al
 cases hm:isG sg g 4 m with
 |true=>
  obtain⟨h1,h2,h3⟩:=ZE h (by omega) hm
  simp only[if_true]
  exact⟨h1,fun _=>h3⟩
 |false=>
  simp only[Bool.false_eq_true,if_false]
  refine⟨⟨Li h,rfl,Int.le_refl _,?_⟩,fun hb=>by simp [Bd] at hb⟩
  rw[IY]
  cases hs:pur g with
  |none=>rfl
  |some s=>
   simp only[Option.bind_some,BF,isM,Qh hm hs];rfl
theorem Qi{g:Gs}(h:CQ g=false):g.bad=false∧g.nodes.length≠300:=by
 simpa [CQ] using h
theorem Ir{sg:List Sg}{g:Gs}{x:Nd}(h:gsOk sg g)(hx:Cv x):gsOk sg (Ag g x):=by
 unfold Ag
 cases hf:CQ g with
 |true=>exact Li h
 |false=>
  obtain⟨h1,h2⟩:=Qi hf
  obtain⟨a,b,c,d⟩:=h
  refine⟨a,b,?_,?_⟩
  ·simp;omega
  ·simp only[Bool.false_eq_true,if_false]
   intro y hy
   rcases List.mem_append.1 hy with hy|hy
   ·exact d y hy
   ·simp at hy;subst hy;exact hx
theorem ZF{sg:List Sg}{g:Gs}{x:Nd}(h:gsOk sg g):pur (Ag g x)=((pur g).bind (Ba x)).map (·.2)∧∀p,(pur g).bind (Ba x)=some p→Ax g=p.1:=by
 unfold Ag Ax
 cases hf:CQ g with
 |true=>
  simp only[if_true,IY]
  have:(pur g).bind (Ba x)=none:=by
   cases hs:pur g with
   |none=>rfl
   |some s=>
    obtain⟨h1,rfl⟩:=Ep.1 hs
    have h3:g.nodes.length=300:=by simpa [CQ,h1] using hf
    simp [Ba,h3]
  rw[this];exact⟨rfl,fun p hp=>by cases hp⟩
 |false=>
  obtain⟨h1,h2⟩:=Qi hf
  have h3:g.nodes.length≤300:=h.2.2.1
  have h4:¬300≤g.nodes.length:=by omega
  simp [pur,h1,Ba,h4]
theorem NX{sg:List Sg}{g:Gs}{x:Nd}(h:gsOk sg g)(hx:Cv x):Bm sg g (Ba x) (Ax g,Ag g x):=by
 refine⟨Ir h hx,?_,?_,(ZF h).1,(ZF h).2⟩
 ·simp only[Ag];split<;>rfl
 ·simp only[Ag];split<;>exact Int.le_refl _
theorem Ui{sg:List Sg}{g:Gs}{x:Nd}(h:gsOk sg g)(hx:Cv x)(hl:g.bad=false→g.pos<sg.length):Af sg g (fun s=>En (Ba x s)) (Ax g,BX (Ag g x)):=by
 obtain⟨h1,h2,h3,h4,h5⟩:=NX h hx
 simp only at h1 h2 h3 h4 h5
 have hp:pur (BX (Ag g x))=(pur (Ag g x)).map adv:=by
  unfold BX
  cases hb:(Ag g x).bad with
  |true=>rw[DJ hb];simp [DJ hb]
  |false=>simp only[Bool.false_eq_true,if_false];exact Ug
 have hpos:(Ag g x).pos=g.pos:=by simp only[Ag];split<;>rfl
 have hbad:(Ag g x).bad=false→g.bad=false:=by
  intro hb;simp only[Ag] at hb;split at hb
  ·simp [Bd] at hb
  ·exact hb
 refine⟨⟨?_,?_,?_,?_,?_⟩,?_⟩
 ·simp only[BX];split
  ·exact h1
  ·rename_i hb
   exact EY h1 (by rw[hpos];exact hl (hbad (by simpa using hb)))
 ·simp only[BX];split<;>simpa [Ai] using h2
 ·simp only[BX];split
  ·exact h3
  ·simp only[Ai];omega
 ·simp only;rw[hp,h4]
  cases hs:pur g with
  |none=>rfl
  |some s=>simp only[Option.bind_some,En];cases Ba x s<;>rfl
 ·intro p hp2
  simp only
  cases hs:pur g with
  |none=>rw[hs] at hp2;cases hp2
  |some s=>
   rw[hs] at hp2 h5
   simp only[Option.bind_some,En,Option.map_eq_some_iff] at hp2
   obtain⟨q,hq,rfl⟩:=hp2
   exact h5 q (by simpa using hq)
 ·simp only[BX]
  split
  ·rename_i hb;intro hh;rw[hb] at hh;cases hh
  ·intro _;simp only[Ai];omega
theorem JW{sg:List Sg}{g:Gs}{m:List UInt8}{x:Nd}(h:gsOk sg g)(hx:Cv x):Af sg g (Bo sg m x) (BB sg g m,Bs sg g m x):=by
 unfold Bs BB
 cases hm:isG sg g 4 m with
 |true=>
  obtain⟨hb,hl⟩:=Cy hm (by omega)
  have:=Ui h hx (fun _=>hl)
  simp only[if_true]
  have e:(pur g).bind (Bo sg m x)=(pur g).bind fun s=>En (Ba x s):=by
   rw[CX hb]
   have:isM sg ⟨g.pos,g.deep,g.nodes⟩ m=true:=Uh hm (CX hb)
   simp [Bo,this]
  obtain⟨⟨a1,a2,a3,a4,a5⟩,a6⟩:=this
  exact⟨⟨a1,a2,a3,by rw[e];exact a4,by rw[e];exact a5⟩,a6⟩
 |false=>
  simp only[Bool.false_eq_true,if_false]
  have e:(pur g).bind (Bo sg m x)=none:=by
   cases hs:pur g with
   |none=>rfl
   |some s=>
    have:isM sg s m=false:=Qh hm hs
    simp [Bo,this]
  refine⟨⟨Li h,rfl,Int.le_refl _,by rw[e];exact IY,fun p hp=>by rw[e] at hp;cases hp⟩,fun hb=>by simp [Bd] at hb⟩
theorem a8I{sg:List Sg}(h:sgB sg){i:Int}:(sgO sg i).text.length≤3000:=by
 unfold sgO;rw[List.getD]
 cases hx:sg[i.toNat]? with
 |none=>simp [Ec]
 |some e=>exact h.2 e (CR hx)
theorem JX{sg:List Sg}(h:sgB sg){g:Gs}{n:Int}:(pkG sg g n).text.length≤3000:=by
 unfold pkG;split
 ·simp [Ec]
 ·exact a8I h
theorem NY{sg:List Sg}{g:Gs}{k:Int}{b:Bool}(hs:sgB sg)(h:gsOk sg g)(hl:g.bad=false→g.pos<sg.length):Af sg g (DU sg k b) (Ax g,CY sg g k b):=by
 have hx:Cv ⟨k,(pkG sg g 0).text,[],b⟩:=⟨JX hs,by simp⟩
 have:=Ui (x:=⟨k,(pkG sg g 0).text,[],b⟩) h hx hl
 have e:(pur g).bind (DU sg k b)=(pur g).bind fun s=>En (Ba ⟨k,(pkG sg g 0).text,[],b⟩ s):=by
  cases hs:pur g with
  |none=>rfl
  |some s=>
   obtain⟨h1,rfl⟩:=Ep.1 hs
   simp [DU,GA h1]
 obtain⟨⟨a1,a2,a3,a4,a5⟩,a6⟩:=this
 exact⟨⟨a1,a2,a3,by rw[e];exact a4,by rw[e];exact a5⟩,a6⟩
theorem IZ{sg:List Sg}{g:Gs}(hs:sgB sg)(h:gsOk sg g):Af sg g (Bz sg) (Dj sg g,Cz sg g):=by
 unfold Cz Dj
 cases hm:nmG sg g 0 with
 |true=>
  obtain⟨hb,hl⟩:=Iq hm
  simp only[if_true]
  obtain⟨⟨a1,a2,a3,a4,a5⟩,a6⟩:=NY (k:=1) (b:=false) hs h (fun _=>by omega)
  have e:(pur g).bind (Bz sg)=(pur g).bind (DU sg 1 false):=by
   rw[CX hb]
   have:Dh sg g.pos=true:=by have:=JV (sg:=sg) (n:=0) (CX hb);rw[hm] at this;simpa using this.symm
   simp [Bz,this]
  exact⟨⟨a1,a2,a3,by rw[e];exact a4,by rw[e];exact a5⟩,a6⟩
 |false=>
  simp only[Bool.false_eq_true,if_false]
  have e:(pur g).bind (Bz sg)=none:=by
   cases hs:pur g with
   |none=>rfl
   |some s=>
    have:Dh sg s.pos=false:=by have:=JV (sg:=sg) (n:=0) hs;rw[hm] at this;simpa using this.symm
    simp [Bz,this]
  refine⟨⟨Li h,rfl,Int.le_refl _,by rw[e];exact IY,fun p hp=>by rw[e] at hp;cases hp⟩,fun hb=>by simp [Bd] at hb⟩
theorem MC{sg:List Sg}{g:Gs}(h:gsOk sg g):Af sg g (Fi sg) (BR sg g,BQ sg g):=by
 unfold BQ BR
 cases hm:nmG sg g 0 with
 |true=>
  obtain⟨hb,hl⟩:=Iq hm
  simp only[if_true]
  have hn:Dh sg g.pos=true:=by have:=JV (sg:=sg) (n:=0) (CX hb);rw[hm] at this;simpa using this.symm
  refine⟨⟨EY h (by omega),rfl,by simp only[Ai];omega,?_,?_⟩,fun _=>by simp only[Ai];omega⟩
  ·simp only;rw[Ug,CX hb];simp [Fi,hn]
  ·intro p hp;rw[CX hb] at hp
   simp [Fi,hn] at hp
   rw[←hp,GA hb];simp
 |false=>
  simp only[Bool.false_eq_true,if_false]
  have e:(pur g).bind (Fi sg)=none:=by
   cases hs:pur g with
   |none=>rfl
   |some s=>
    have:Dh sg s.pos=false:=by have:=JV (sg:=sg) (n:=0) hs;rw[hm] at this;simpa using this.symm
    simp [Fi,this]
  refine⟨⟨Li h,rfl,Int.le_refl _,by rw[e];exact IY,fun p hp=>by rw[e] at hp;cases hp⟩,fun hb=>by simp [Bd] at hb⟩
end Go.My
end
section
set_option linter.unusedVariables false
set_option linter.unusedSimpArgs false
namespace Go.My
open Go.Eng Go.Proofs
variable {G:GInv}
theorem ZG{a:Int}{b:List UInt8}{c:List Int}{d:Bool}{o:Bool}{i:Nat}{q:Nd→Prop}(h:q ⟨a,b,c,d⟩):∃x:Nd,a=x.kind∧b=x.text∧AV.sl o i 1 Int Bb c=AV.sl o i 1 Int Bb x.kids∧d=x.blank∧q x:=⟨⟨a,b,c,d⟩,rfl,rfl,rfl,rfl,h⟩
theorem AL{α β γ δ ε ζ η:Type}{p q:α×β×γ×δ×ε×ζ×η→Prop}(a:α)(b:β)(c:γ)(d:δ)(e:ε)(f:ζ)(g:η)(h2:q (a,b,c,d,e,f,g))(h1:p (a,b,c,d,e,f,g)):∃x,p x∧q x:=⟨_,h1,h2⟩
theorem AM{α β γ δ ε ζ η θ:Type}{p q:α×β×γ×δ×ε×ζ×η×θ→Prop}(a:α)(b:β)(c:γ)(d:δ)(e:ε)(f:ζ)(g:η)(h:θ)(h2:q (a,b,c,d,e,f,g,h))(h1:p (a,b,c,d,e,f,g,h)):∃x,p x∧q x:=⟨_,h1,h2⟩
theorem AN{α β γ δ ε ζ η θ ι:Type}{p q:α×β×γ×δ×ε×ζ×η×θ×ι→Prop}(a:α)(b:β)(c:γ)(d:δ)(e:ε)(f:ζ)(g:η)(h:θ)(i:ι)(h2:q (a,b,c,d,e,f,g,h,i))(h1:p (a,b,c,d,e,f,g,h,i)):∃x,p x∧q x:=⟨_,h1,h2⟩
theorem AO{α β γ δ ε ζ η θ ι κ:Type}{p q:α×β×γ×δ×ε×ζ×η×θ×ι×κ→Prop}(a:α)(b:β)(c:γ)(d:δ)(e:ε)(f:ζ)(g:η)(h:θ)(i:ι)(j:κ)(h2:q (a,b,c,d,e,f,g,h,i,j))(h1:p (a,b,c,d,e,f,g,h,i,j)):∃x,p x∧q x:=⟨_,h1,h2⟩
structure ST where
 sg:List Sg
 z:Int
 ms:List (Int×Int)
def mbs(ms:List (Int×Int)):AV:= .sl true 0 2 (Int×Int) (fun p=>[.int .i64 p.1,.int .i64 p.2]) ms
def rdG(s:ST)(g:Gs):AV:= .box 0 [sgs s.sg,.int .i64 s.z,.int .i64 g.pos,.int .i64 g.deep,.bool g.bad,Au g.nodes,mbs s.ms]
abbrev xg (x:ST×Int×Int×Bool×List Nd):Gs:=⟨x.2.1,x.2.2.1,x.2.2.2.1,x.2.2.2.2⟩
abbrev xh {α:Type} (x:ST×Int×Int×Bool×List Nd×α):Gs:=⟨x.2.1,x.2.2.1,x.2.2.2.1,x.2.2.2.2.1⟩
abbrev yG (y:Int×Int×Bool×List Nd):Gs:=⟨y.1,y.2.1,y.2.2.1,y.2.2.2⟩
abbrev yS {α:Type} (y:α×Int×Int×Bool×List Nd):α×Gs:=(y.1,⟨y.2.1,y.2.2.1,y.2.2.2.1,y.2.2.2.2⟩)
def rOk(s:ST)(g:Gs):Prop:=sgB s.sg∧gsOk s.sg g
theorem DK{s:ST}{g:Gs}(h:rOk s g):((0≤g.pos∧g.pos≤s.sg.length)∧(0≤g.deep∧g.deep≤21))∧g.nodes.length≤300∧s.sg.length≤3000:=⟨⟨h.2.1,h.2.2.1⟩,h.2.2.2.1,h.1.1⟩
theorem Uj{sg:List Sg}{g:Gs}{n:Int}(h:g.bad=true∨(sg.length:Int)≤g.pos+n):pkG sg g n=Ec:=if_pos h
theorem Uk{sg:List Sg}{g:Gs}{n:Int}{e:Sg}(he:sg[(g.pos+n).toNat]? =some e)(hb:g.bad=false)(hl:¬(sg.length:Int)≤g.pos+n):pkG sg g n=e:=by
 rw[pkG,if_neg (by simp [hb];omega),Ga he]
def EI:Sig:= {X:=ST×Int×Int×Bool×List Nd×Int,args:=fun x=>[rdG x.1 (xh x),.int .i64 x.2.2.2.2.2],pre:=fun x=>rOk x.1 (xh x)∧0≤x.2.2.2.2.2∧x.2.2.2.2.2≤2^20,Y:=Unit,post:=fun x y=>True,res:=fun x y=> .agg (sgA (pkG x.1.sg (xh x) x.2.2.2.2.2)),outs:=fun x y=>[rdG x.1 (xh x),.top],keep:=true}
def NZ(x:ST×Int×Int×Bool×List Nd×Int):LS:= {ι:=Unit,inv:=fun _=>True,regs:=fun _=>[(0,rdG x.1 (xh x)),(4,.box 0 (sgA (pkG x.1.sg (xh x) x.2.2.2.2.2)))],als:=[],meas:=fun _=>0}
theorem Qj:Aj G Tryz.prog 141 EI:=
 vcFun_okP [] [] false (fun x=>[(100003,NZ x)]) Tryz.func141 rfl (by decide) trivial (fun(x:ST×Int×Int×Bool×List Nd×Int)=>True∧true=true∧true=true∧Aa (xh x).bad (∃(y:Unit),True∧(0:Int)=(pkG x.1.sg (xh x) x.2.2.2.2.2).kind∧ #[].toList=(pkG x.1.sg (xh x) x.2.2.2.2.2).text∧(0:Int)=(pkG x.1.sg (xh x) x.2.2.2.2.2).pos∧false=(pkG x.1.sg (xh x) x.2.2.2.2.2).blank∧sgs x.1.sg=sgs x.1.sg∧x.1.z=x.1.z∧(xh x).pos=(xh x).pos∧(xh x).deep=(xh x).deep∧(xh x).bad=(xh x).bad∧Au (xh x).nodes=Au (xh x).nodes∧mbs x.1.ms=mbs x.1.ms∧True) (inR IntKind.i64 ((xh x).pos+x.2.2.2.2.2)∧Aa (decide ((xh x).pos+x.2.2.2.2.2≥(↑(List.length x.1.sg):Int))) (∃(y:Unit),True∧(0:Int)=(pkG x.1.sg (xh x) x.2.2.2.2.2).kind∧ #[].toList=(pkG x.1.sg (xh x) x.2.2.2.2.2).text∧(0:Int)=(pkG x.1.sg (xh x) x.2.2.2.2.2).pos∧false=(pkG x.1.sg (xh x) x.2.2.2.2.2).blank∧sgs x.1.sg=sgs x.1.sg∧x.1.z=x.1.z∧(xh x).pos=(xh x).pos∧(xh x).deep=(xh x).deep∧(xh x).bad=(xh x).bad∧Au (xh x).nodes=Au (xh x).nodes∧mbs x.1.ms=mbs x.1.ms∧True) (true=true∧((inR IntKind.i64 ((xh x).pos+x.2.2.2.2.2)∧((0:Int)≤(xh x).pos+x.2.2.2.2.2∧(xh x).pos+x.2.2.2.2.2<(↑(List.length x.1.sg):Int))∧∀(e:Sg),x.1.sg[Int.toNat ((xh x).pos+x.2.2.2.2.2)]? =some e→true=true∧eA (NZ x) [rdG x.1 (xh x),.box 0 [.int .i64 e.kind,.str e.text,.int .i64 e.pos,.bool e.blank]])∧(inR IntKind.i64 ((xh x).pos+x.2.2.2.2.2)∧((0:Int)≤(xh x).pos+x.2.2.2.2.2∧(xh x).pos+x.2.2.2.2.2<(↑(List.length x.1.sg):Int))∧∀(e:Sg),x.1.sg[Int.toNat ((xh x).pos+x.2.2.2.2.2)]? =some e→true=true∧eA (NZ x) [rdG x.1 (xh x),.box 0 [.int .i64 e.kind,.str e.text,.int .i64 e.pos,.bool e.blank]])∧inR IntKind.i64 ((xh x).pos+x.2.2.2.2.2)∧((0:Int)≤(xh x).pos+x.2.2.2.2.2∧(xh x).pos+x.2.2.2.2.2<(↑(List.length x.1.sg):Int))∧∀(e:Sg),x.1.sg[Int.toNat ((xh x).pos+x.2.2.2.2.2)]? =some e→true=true∧eA (NZ x) [rdG x.1 (xh x),.box 0 [.int .i64 e.kind,.str e.text,.int .i64 e.pos,.bool e.blank]])∧∀(i:Unit),True→∃(y:Unit),True∧(pkG x.1.sg (xh x) x.2.2.2.2.2).kind=(pkG x.1.sg (xh x) x.2.2.2.2.2).kind∧(pkG x.1.sg (xh x) x.2.2.2.2.2).text=(pkG x.1.sg (xh x) x.2.2.2.2.2).text∧(pkG x.1.sg (xh x) x.2.2.2.2.2).pos=(pkG x.1.sg (xh x) x.2.2.2.2.2).pos∧(pkG x.1.sg (xh x) x.2.2.2.2.2).blank=(pkG x.1.sg (xh x) x.2.2.2.2.2).blank∧sgs x.1.sg=sgs x.1.sg∧x.1.z=x.1.z∧(xh x).pos=(xh x).pos∧(xh x).deep=(xh x).deep∧(xh x).bad=(xh x).bad∧Au (xh x).nodes=Au (xh x).nodes∧mbs x.1.ms=mbs x.1.ms∧True))) (fun x=>by kernel_rfl) fun(x:ST×Int×Int×Bool×List Nd×Int) (hx:rOk x.1 (xh x)∧0≤x.2.2.2.2.2∧x.2.2.2.2.2≤2^20)=>(by
 dsimp only[eA,NZ,mbs,Bg,Au,rdG,Bj,sgs,Av,AB,Bw]
 obtain⟨s,p,d,b,ns,e⟩:=x;dsimp only[xg,xh] at hx ⊢
 obtain⟨h1,h2,h3⟩:=hx;have hs:=DK h1;dsimp only at hs
 (repeat' first|(with_reducible first|rfl|exact True.intro|apply AK|apply And.intro|((first|apply Az|apply AI|apply AA|apply AJ)<;>intro _))|(apply Aw<;>intro _)|apply AH|refine Ae () ?_ ?_|((first|apply AO|apply AN|apply AM|apply AL|apply AG|apply AF|apply AE|apply AD|apply AC)<;>try dsimp only)|apply Ae|(refine Prod.forall.2 ?_;intro _;try dsimp only)|(intro _;try dsimp only))
 all_goals first
  |rfl
  |(rw[Uj (.inl ‹_›)];rfl)
  |(rw[Uj (.inr (by omega))];rfl)
  |(rw[Uk ‹_› ‹_› (by omega)];done)
  |((try simp only[AR]);omega)
  |skip)
def Cq:Sig:= {X:=ST×Int×Int×Bool×List Nd,args:=fun x=>[rdG x.1 (xg x)],pre:=fun x=>rOk x.1 (xg x),Y:=Unit,post:=fun x y=>True,res:=fun x y=> .agg (sgA (pkG x.1.sg (xg x) 0)),outs:=fun x y=>[rdG x.1 (xg x)],keep:=true}
theorem GZ:Aj G Tryz.prog 103 Cq:=
 vcFun_okP [(141,0,EI)] [] false (fun x=>[]) Tryz.func103 rfl (by decide) ⟨Qj,trivial⟩ (fun(x:ST×Int×Int×Bool×List Nd)=>True∧cA EI [rdG x.1 (xg x),.int .i64 (0:Int)] fun x_1 y=>∃(y:Unit),True∧(pkG x_1.1.sg (xh x_1) x_1.2.2.2.2.2).kind=(pkG x.1.sg (xg x) (0:Int)).kind∧(pkG x_1.1.sg (xh x_1) x_1.2.2.2.2.2).text=(pkG x.1.sg (xg x) (0:Int)).text∧(pkG x_1.1.sg (xh x_1) x_1.2.2.2.2.2).pos=(pkG x.1.sg (xg x) (0:Int)).pos∧(pkG x_1.1.sg (xh x_1) x_1.2.2.2.2.2).blank=(pkG x.1.sg (xg x) (0:Int)).blank∧sgs x_1.1.sg=sgs x.1.sg∧x_1.1.z=x.1.z∧(xh x_1).pos=(xg x).pos∧(xh x_1).deep=(xg x).deep∧(xh x_1).bad=(xg x).bad∧Au (xh x_1).nodes=Au (xg x).nodes∧mbs x_1.1.ms=mbs x.1.ms∧True) (fun x=>by kernel_rfl) fun(x:ST×Int×Int×Bool×List Nd) (hx:rOk x.1 (xg x))=>(by
 dsimp only[cA,mbs,Bg,Au,rdG,EI,Bj,sgs,Av,AB,mvL,lnL,mvE,lnE]
 obtain⟨s,p,d,b,ns⟩:=x;dsimp only[xg,xh] at hx ⊢
 have hx:rOk s ⟨p,d,b,ns⟩:=hx
 (repeat' first|(with_reducible first|rfl|exact True.intro|apply AK|apply And.intro|((first|apply Az|apply AI|apply AA|apply AJ)<;>intro _))|(apply Aw<;>intro _)|apply AH|refine Ae () ?_ ?_|((first|apply AO|apply AN|apply AM|apply AL|apply AG|apply AF|apply AE|apply AD|apply AC)<;>try dsimp only)|apply Ae|(refine Prod.forall.2 ?_;intro _;try dsimp only)|(intro _;try dsimp only))
 all_goals first
  |rfl
  |exact hx
  |omega
  |skip)
def Cw:Sig:= {X:=ST×Int×Int×Bool×List Nd×List UInt8,args:=fun x=>[rdG x.1 (xh x),.str x.2.2.2.2.2],pre:=fun x=>rOk x.1 (xh x),Y:=Unit,post:=fun x y=>True,res:=fun x y=> .bool (isG x.1.sg (xh x) 4 x.2.2.2.2.2),outs:=fun x y=>[rdG x.1 (xh x),.top],keep:=true}
theorem HB:Aj G Tryz.prog 166 Cw:=
 vcFun_okP [(103,0,Cq)] [] false (fun x=>[]) Tryz.func166 rfl (by decide) ⟨GZ,trivial⟩ (fun(x:ST×Int×Int×Bool×List Nd×List UInt8)=>True∧cA Cq [rdG x.1 (xh x)] fun x_1 y=>Aa ((pkG x_1.1.sg (xg x_1) (0:Int)).kind==(4:Int)) (cA Cq [rdG x_1.1 (xg x_1)] fun x_2 y=>rA Cw x [.bool ((pkG x_2.1.sg (xg x_2) (0:Int)).text==x.2.2.2.2.2),rdG x_2.1 (xg x_2),.top]) (rA Cw x [.bool false,rdG x_1.1 (xg x_1),.top])) (fun x=>by kernel_rfl) fun(x:ST×Int×Int×Bool×List Nd×List UInt8) (hx:rOk x.1 (xh x))=>(by
 dsimp only[cA,mbs,Bg,Au,rA,rdG,Cw,Cq,Bj,sgs,Av,AB,mvL,lnL,mvE,lnE]
 obtain⟨s,p,d,b,ns,e⟩:=x;dsimp only[xg,xh] at hx ⊢
 have hx:rOk s ⟨p,d,b,ns⟩:=hx
 (repeat' first|(with_reducible first|rfl|exact True.intro|apply AK|apply And.intro|((first|apply Az|apply AI|apply AA|apply AJ)<;>intro _))|(apply Aw<;>intro _)|apply AH|refine Ae () ?_ ?_|((first|apply AO|apply AN|apply AM|apply AL|apply AG|apply AF|apply AE|apply AD|apply AC)<;>try dsimp only)|apply Ae|(refine Prod.forall.2 ?_;intro _;try dsimp only)|(intro _;try dsimp only))
 all_goals first
  |rfl
  |exact hx
  |(simp [isG, *];done)
  |skip)
def Ee:Sig:= {X:=ST×Int×Int×Bool×List Nd×List UInt8,args:=fun x=>[rdG x.1 (xh x),.str x.2.2.2.2.2],pre:=fun x=>rOk x.1 (xh x),Y:=Unit,post:=fun x y=>True,res:=fun x y=> .bool (isG x.1.sg (xh x) 1 x.2.2.2.2.2),outs:=fun x y=>[rdG x.1 (xh x),.top],keep:=true}
theorem Qk:Aj G Tryz.prog 133 Ee:=
 vcFun_okP [(103,0,Cq)] [] false (fun x=>[]) Tryz.func133 rfl (by decide) ⟨GZ,trivial⟩ (fun(x:ST×Int×Int×Bool×List Nd×List UInt8)=>True∧cA Cq [rdG x.1 (xh x)] fun x_1 y=>Aa ((pkG x_1.1.sg (xg x_1) (0:Int)).kind==(1:Int)) (cA Cq [rdG x_1.1 (xg x_1)] fun x_2 y=>rA Ee x [.bool ((pkG x_2.1.sg (xg x_2) (0:Int)).text==x.2.2.2.2.2),rdG x_2.1 (xg x_2),.top]) (rA Ee x [.bool false,rdG x_1.1 (xg x_1),.top])) (fun x=>by kernel_rfl) fun(x:ST×Int×Int×Bool×List Nd×List UInt8) (hx:rOk x.1 (xh x))=>(by
 dsimp only[cA,mbs,Bg,Au,rA,rdG,Ee,Cq,Bj,sgs,Av,AB,mvL,lnL,mvE,lnE]
 obtain⟨s,p,d,b,ns,e⟩:=x;dsimp only[xg,xh] at hx ⊢
 have hx:rOk s ⟨p,d,b,ns⟩:=hx
 (repeat' first|(with_reducible first|rfl|exact True.intro|apply AK|apply And.intro|((first|apply Az|apply AI|apply AA|apply AJ)<;>intro _))|(apply Aw<;>intro _)|apply AH|refine Ae () ?_ ?_|((first|apply AO|apply AN|apply AM|apply AL|apply AG|apply AF|apply AE|apply AD|apply AC)<;>try dsimp only)|apply Ae|(refine Prod.forall.2 ?_;intro _;try dsimp only)|(intro _;try dsimp only))
 all_goals first
  |rfl
  |exact hx
  |(simp [isG, *];done)
  |skip)
def Er:Sig:= {X:=ST×Int×Int×Bool×List Nd×Int,args:=fun x=>[rdG x.1 (xh x),.int .i64 x.2.2.2.2.2],pre:=fun x=>rOk x.1 (xh x)∧0≤x.2.2.2.2.2∧x.2.2.2.2.2≤2^20,Y:=Unit,post:=fun x y=>True,res:=fun x y=> .bool (nmG x.1.sg (xh x) x.2.2.2.2.2),outs:=fun x y=>[rdG x.1 (xh x),.top],keep:=true}
theorem Oa:Aj G Tryz.prog 167 Er:=
 vcFun_okP [(141,0,EI),(160,0,Fy)] [] false (fun x=>[]) Tryz.func167 rfl (by decide) ⟨Qj,Yn,trivial⟩ (fun(x:ST×Int×Int×Bool×List Nd×Int)=>True∧cA EI [rdG x.1 (xh x),.int .i64 x.2.2.2.2.2] fun x_1 y=>Aa ((pkG x_1.1.sg (xh x_1) x_1.2.2.2.2.2).kind==(1:Int)) (cA Fy [.str (pkG x_1.1.sg (xh x_1) x_1.2.2.2.2.2).text] fun x_2 y=>rA Er x [.bool !kw x_2,rdG x_1.1 (xh x_1),.top]) (rA Er x [.bool false,rdG x_1.1 (xh x_1),.top])) (fun x=>by kernel_rfl) fun(x:ST×Int×Int×Bool×List Nd×Int) (hx:rOk x.1 (xh x)∧0≤x.2.2.2.2.2∧x.2.2.2.2.2≤2^20)=>(by
 dsimp only[cA,mbs,Bg,Au,rA,rdG,Fy,Er,EI,Bj,sgs,Av,AB,mvL,lnL,mvE,lnE]
 obtain⟨s,p,d,b,ns,e⟩:=x;dsimp only[xg,xh] at hx ⊢
 obtain⟨h1,h2,h3⟩:=hx
 (repeat' first|(with_reducible first|rfl|exact True.intro|apply AK|apply And.intro|((first|apply Az|apply AI|apply AA|apply AJ)<;>intro _))|(apply Aw<;>intro _)|apply AH|refine Ae () ?_ ?_|((first|apply AO|apply AN|apply AM|apply AL|apply AG|apply AF|apply AE|apply AD|apply AC)<;>try dsimp only)|apply Ae|(refine Prod.forall.2 ?_;intro _;try dsimp only)|(intro _;try dsimp only))
 all_goals first
  |rfl
  |exact h1
  |omega
  |(simp [nmG, *];done)
  |skip)
def CL:Sig:= {X:=ST×Int×Int×Bool×List Nd×List UInt8,args:=fun x=>[rdG x.1 (xh x),.str x.2.2.2.2.2],pre:=fun x=>rOk x.1 (xh x),Y:=Unit,post:=fun x y=>True,res:=fun x y=> .bool (isG x.1.sg (xh x) 4 x.2.2.2.2.2),outs:=fun x y=>[rdG x.1 (Ah x.1.sg (xh x) x.2.2.2.2.2),.top],keep:=true}
theorem Ja:Aj G Tryz.prog 163 CL:=
 vcFun_okP [(166,0,Cw)] [] false (fun x=>[]) Tryz.func163 rfl (by decide) ⟨HB,trivial⟩ (fun(x:ST×Int×Int×Bool×List Nd×List UInt8)=>True∧cA Cw [rdG x.1 (xh x),.str x.2.2.2.2.2] fun x_1 y=>Aa (!isG x_1.1.sg (xh x_1) (4:Int) x_1.2.2.2.2.2) (rA CL x [.bool false,rdG x_1.1 (xh x_1),.top]) (inR IntKind.i64 ((xh x_1).pos+(1:Int))∧rA CL x [.bool true,.box 0 [sgs x_1.1.sg,.int .i64 x_1.1.z,.int .i64 ((xh x_1).pos+(1:Int)),.int .i64 (xh x_1).deep,.bool (xh x_1).bad,Au (xh x_1).nodes,mbs x_1.1.ms],.top])) (fun x=>by kernel_rfl) fun(x:ST×Int×Int×Bool×List Nd×List UInt8) (hx:rOk x.1 (xh x))=>(by
 dsimp only[cA,mbs,Bg,Au,rA,rdG,Cw,CL,Bj,sgs,Av,AB,mvL,lnL,mvE,lnE]
 obtain⟨s,p,d,b,ns,e⟩:=x;dsimp only[xg,xh] at hx ⊢
 have hx:rOk s ⟨p,d,b,ns⟩:=hx;have hs:=DK hx;dsimp only at hs
 (repeat' first|(with_reducible first|rfl|exact True.intro|apply AK|apply And.intro|((first|apply Az|apply AI|apply AA|apply AJ)<;>intro _))|(apply Aw<;>intro _)|apply AH|refine Ae () ?_ ?_|((first|apply AO|apply AN|apply AM|apply AL|apply AG|apply AF|apply AE|apply AD|apply AC)<;>try dsimp only)|apply Ae|(refine Prod.forall.2 ?_;intro _;try dsimp only)|(intro _;try dsimp only))
 all_goals first
  |rfl
  |exact hx
  |(simp [Ah,Ai, *];done)
  |((try simp only[AR]);omega)
  |skip)
def CA:Sig:= {X:=ST×Int×Int×Bool×List Nd×List UInt8,args:=fun x=>[rdG x.1 (xh x),.str x.2.2.2.2.2],pre:=fun x=>rOk x.1 (xh x),Y:=Unit,post:=fun x y=>True,res:=fun x y=> .tup [],outs:=fun x y=>[rdG x.1 (Al x.1.sg (xh x) x.2.2.2.2.2),.top],keep:=true}
theorem Jb:Aj G Tryz.prog 137 CA:=
 vcFun_okP [(163,0,CL)] [] false (fun x=>[]) Tryz.func137 rfl (by decide) ⟨Ja,trivial⟩ (fun(x:ST×Int×Int×Bool×List Nd×List UInt8)=>True∧cA CL [rdG x.1 (xh x),.str x.2.2.2.2.2] fun x_1 y=>Aa (!isG x_1.1.sg (xh x_1) (4:Int) x_1.2.2.2.2.2) (rA CA x [.tup [],.box 0 [sgs x_1.1.sg,.int .i64 x_1.1.z,.int .i64 (Ah x_1.1.sg (xh x_1) x_1.2.2.2.2.2).pos,.int .i64 (Ah x_1.1.sg (xh x_1) x_1.2.2.2.2.2).deep,.bool true,Au (Ah x_1.1.sg (xh x_1) x_1.2.2.2.2.2).nodes,mbs x_1.1.ms],.top]) (rA CA x [.tup [],rdG x_1.1 (Ah x_1.1.sg (xh x_1) x_1.2.2.2.2.2),.top])) (fun x=>by kernel_rfl) fun(x:ST×Int×Int×Bool×List Nd×List UInt8) (hx:rOk x.1 (xh x))=>(by
 dsimp only[cA,mbs,Bg,Au,rA,rdG,CL,CA,Bj,sgs,Av,AB,mvL,lnL,mvE,lnE]
 obtain⟨s,p,d,b,ns,e⟩:=x;dsimp only[xg,xh] at hx ⊢
 have hx:rOk s ⟨p,d,b,ns⟩:=hx;have hs:=DK hx;dsimp only at hs
 (repeat' first|(with_reducible first|rfl|exact True.intro|apply AK|apply And.intro|((first|apply Az|apply AI|apply AA|apply AJ)<;>intro _))|(apply Aw<;>intro _)|apply AH|refine Ae () ?_ ?_|((first|apply AO|apply AN|apply AM|apply AL|apply AG|apply AF|apply AE|apply AD|apply AC)<;>try dsimp only)|apply Ae|(refine Prod.forall.2 ?_;intro _;try dsimp only)|(intro _;try dsimp only))
 all_goals first
  |rfl
  |exact hx
  |(simp [Al,Ah,Ai,Bd, *];done)
  |((try simp only[AR]);omega)
  |skip)
theorem ZH{sg:List Sg}{g:Gs}{e:Sg}(he:sg[(g.pos+1-1).toNat]? =some e)(h:nmG sg g 0=true):e.text=BR sg g:=by
 obtain⟨hb,hl⟩:=Iq h
 rw[BR,if_pos h,Uk (by rw[show g.pos+0=g.pos+1-1 by omega];exact he) hb (by omega)]
def Es:Sig:= {X:=ST×Int×Int×Bool×List Nd,args:=fun x=>[rdG x.1 (xg x)],pre:=fun x=>rOk x.1 (xg x),Y:=Unit,post:=fun x y=>True,res:=fun x y=> .str (BR x.1.sg (xg x)),outs:=fun x y=>[rdG x.1 (BQ x.1.sg (xg x))],keep:=true}
theorem Ob:Aj G Tryz.prog 136 Es:=
 vcFun_okP [(167,0,Er)] [] false (fun x=>[]) Tryz.func136 rfl (by decide) ⟨Oa,trivial⟩ (fun(x:ST×Int×Int×Bool×List Nd)=>True∧cA Er [rdG x.1 (xg x),.int .i64 (0:Int)] fun x_1 y=>Aa (!nmG x_1.1.sg (xh x_1) x_1.2.2.2.2.2) (rA Es x [.str #[].toList,.box 0 [sgs x_1.1.sg,.int .i64 x_1.1.z,.int .i64 (xh x_1).pos,.int .i64 (xh x_1).deep,.bool true,Au (xh x_1).nodes,mbs x_1.1.ms]]) (inR IntKind.i64 ((xh x_1).pos+(1:Int))∧true=true∧true=true∧inR IntKind.i64 ((xh x_1).pos+(1:Int)-(1:Int))∧((0:Int)≤(xh x_1).pos+(1:Int)-(1:Int)∧(xh x_1).pos+(1:Int)-(1:Int)<(↑(List.length x_1.1.sg):Int))∧∀(e:Sg),x_1.1.sg[Int.toNat ((xh x_1).pos+(1:Int)-(1:Int))]? =some e→rA Es x [.str e.text,.box 0 [sgs x_1.1.sg,.int .i64 x_1.1.z,.int .i64 ((xh x_1).pos+(1:Int)),.int .i64 (xh x_1).deep,.bool (xh x_1).bad,Au (xh x_1).nodes,mbs x_1.1.ms]])) (fun x=>by kernel_rfl) fun(x:ST×Int×Int×Bool×List Nd) (hx:rOk x.1 (xg x))=>(by
 dsimp only[cA,mbs,Bg,Au,rA,rdG,Es,Er,Bj,sgs,Av,AB,mvL,lnL,mvE,lnE]
 obtain⟨s,p,d,b,ns⟩:=x;dsimp only[xg,xh] at hx ⊢
 have hx:rOk s ⟨p,d,b,ns⟩:=hx;have hs:=DK hx;dsimp only at hs
 (repeat' first|(with_reducible first|rfl|exact True.intro|apply AK|apply And.intro|((first|apply Az|apply AI|apply AA|apply AJ)<;>intro _))|(apply Aw<;>intro _)|apply AH|refine Ae () ?_ ?_|((first|apply AO|apply AN|apply AM|apply AL|apply AG|apply AF|apply AE|apply AD|apply AC)<;>try dsimp only)|apply Ae|(refine Prod.forall.2 ?_;intro _;try dsimp only)|(intro _;try dsimp only))
 all_goals first
  |rfl
  |exact hx
  |(simp [BQ,BR,Ai,Bd, *];done)
  |exact ZH ‹_› ‹_›
  |(have hl:=Iq (show nmG _ _ 0=true by assumption);dsimp only at hl;(try simp only[AR]);omega)
  |((try simp only[AR]);omega)
  |(rename _=some _=>he;exact ZH he ‹_›))
theorem a8J{g:Gs}(h:g.bad=true):CQ g=true:=by simp [CQ,h]
theorem a8K{g:Gs}(h:(g.nodes.length:Int)=300):CQ g=true:=by simp [CQ,show g.nodes.length=300 by omega]
theorem a8L{g:Gs}(h:g.bad=false)(h2:(g.nodes.length:Int)≠300):CQ g=false:=by simp [CQ,h,show g.nodes.length≠300 by omega]
theorem a8M{g:Gs}(h:g.bad=false)(h2:g.nodes.length≠300):CQ g=false:=by simp [CQ,h,h2]
def BS:Sig:= {X:=ST×Int×Int×Bool×List Nd×Int×List UInt8×List Int×Bool,args:=fun x=>[rdG x.1 (xh x),.agg (ndA true ⟨x.2.2.2.2.2.1,x.2.2.2.2.2.2.1,x.2.2.2.2.2.2.2.1,x.2.2.2.2.2.2.2.2⟩)],pre:=fun x=>rOk x.1 (xh x),Y:=Unit,post:=fun x y=>True,res:=fun x y=> .int .i64 (Ax (xh x)),outs:=fun x y=>[rdG x.1 (Ag (xh x) ⟨x.2.2.2.2.2.1,x.2.2.2.2.2.2.1,x.2.2.2.2.2.2.2.1,x.2.2.2.2.2.2.2.2⟩),.top],keep:=true}
def a8N(x:ST×Int×Int×Bool×List Nd×Int×List UInt8×List Int×Bool):LS:= {ι:=Unit,inv:=fun _=>(xh x).bad=false∧(xh x).nodes.length≠300,regs:=fun _=>[(0,rdG x.1 (Ag (xh x) ⟨x.2.2.2.2.2.1,x.2.2.2.2.2.2.1,x.2.2.2.2.2.2.2.1,x.2.2.2.2.2.2.2.2⟩))],als:=[],meas:=fun _=>0}
theorem GB:Aj G Tryz.prog 104 BS:=
 vcFun_okP [] [(32,⟨Nd,ndA true⟩)] false (fun x=>[(100004,a8N x)]) Tryz.func104 rfl (by decide) trivial (fun(x:ST×Int×Int×Bool×List Nd×Int×List UInt8×List Int×Bool)=>True∧Aa (xh x).bad (rA BS x [.int .i64 (0:Int),.box 0 [sgs x.1.sg,.int .i64 x.1.z,.int .i64 (xh x).pos,.int .i64 (xh x).deep,.bool true,Au (xh x).nodes,mbs x.1.ms],.top]) (Aa ((↑(List.length (xh x).nodes):Int)==(300:Int)) (rA BS x [.int .i64 (0:Int),.box 0 [sgs x.1.sg,.int .i64 x.1.z,.int .i64 (xh x).pos,.int .i64 (xh x).deep,.bool true,Au (xh x).nodes,mbs x.1.ms],.top]) (true=true∧((∃(x_1:Nd),x.2.2.2.2.2.1=x_1.kind∧x.2.2.2.2.2.2.1=x_1.text∧Ab x.2.2.2.2.2.2.2.1=Ab x_1.kids∧x.2.2.2.2.2.2.2.2=x_1.blank∧∃(zs:List Nd),Au [x_1]=Au zs∧Be (ndA true)∧AS (List.length (xh x).nodes+List.length zs) (56:Nat)∧true=true∧∃(i:Unit),((xh x).bad=false∧List.length (xh x).nodes≠(300:Nat))∧(sgs x.1.sg=sgs x.1.sg∧x.1.z=x.1.z∧(xh x).pos=(Ag (xh x) {kind:=x.2.2.2.2.2.1,text:=x.2.2.2.2.2.2.1,kids:=x.2.2.2.2.2.2.2.1,blank:=x.2.2.2.2.2.2.2.2}).pos∧(xh x).deep=(Ag (xh x) {kind:=x.2.2.2.2.2.1,text:=x.2.2.2.2.2.2.1,kids:=x.2.2.2.2.2.2.2.1,blank:=x.2.2.2.2.2.2.2.2}).deep∧(xh x).bad=(Ag (xh x) {kind:=x.2.2.2.2.2.1,text:=x.2.2.2.2.2.2.1,kids:=x.2.2.2.2.2.2.2.1,blank:=x.2.2.2.2.2.2.2.2}).bad∧Au ((xh x).nodes++zs)=Au (Ag (xh x) {kind:=x.2.2.2.2.2.1,text:=x.2.2.2.2.2.2.1,kids:=x.2.2.2.2.2.2.2.1,blank:=x.2.2.2.2.2.2.2.2}).nodes∧mbs x.1.ms=mbs x.1.ms∧True)∧True)∧(∃(x_1:Nd),x.2.2.2.2.2.1=x_1.kind∧x.2.2.2.2.2.2.1=x_1.text∧Ab x.2.2.2.2.2.2.2.1=Ab x_1.kids∧x.2.2.2.2.2.2.2.2=x_1.blank∧∃(zs:List Nd),Au [x_1]=Au zs∧Be (ndA true)∧AS (List.length (xh x).nodes+List.length zs) (56:Nat)∧true=true∧∃(i:Unit),((xh x).bad=false∧List.length (xh x).nodes≠(300:Nat))∧(sgs x.1.sg=sgs x.1.sg∧x.1.z=x.1.z∧(xh x).pos=(Ag (xh x) {kind:=x.2.2.2.2.2.1,text:=x.2.2.2.2.2.2.1,kids:=x.2.2.2.2.2.2.2.1,blank:=x.2.2.2.2.2.2.2.2}).pos∧(xh x).deep=(Ag (xh x) {kind:=x.2.2.2.2.2.1,text:=x.2.2.2.2.2.2.1,kids:=x.2.2.2.2.2.2.2.1,blank:=x.2.2.2.2.2.2.2.2}).deep∧(xh x).bad=(Ag (xh x) {kind:=x.2.2.2.2.2.1,text:=x.2.2.2.2.2.2.1,kids:=x.2.2.2.2.2.2.2.1,blank:=x.2.2.2.2.2.2.2.2}).bad∧Au ((xh x).nodes++zs)=Au (Ag (xh x) {kind:=x.2.2.2.2.2.1,text:=x.2.2.2.2.2.2.1,kids:=x.2.2.2.2.2.2.2.1,blank:=x.2.2.2.2.2.2.2.2}).nodes∧mbs x.1.ms=mbs x.1.ms∧True)∧True)∧∃(x_1:Nd),x.2.2.2.2.2.1=x_1.kind∧x.2.2.2.2.2.2.1=x_1.text∧Ab x.2.2.2.2.2.2.2.1=Ab x_1.kids∧x.2.2.2.2.2.2.2.2=x_1.blank∧∃(zs:List Nd),Au [x_1]=Au zs∧Be (ndA true)∧AS (List.length (xh x).nodes+List.length zs) (56:Nat)∧true=true∧∃(i:Unit),((xh x).bad=false∧List.length (xh x).nodes≠(300:Nat))∧(sgs x.1.sg=sgs x.1.sg∧x.1.z=x.1.z∧(xh x).pos=(Ag (xh x) {kind:=x.2.2.2.2.2.1,text:=x.2.2.2.2.2.2.1,kids:=x.2.2.2.2.2.2.2.1,blank:=x.2.2.2.2.2.2.2.2}).pos∧(xh x).deep=(Ag (xh x) {kind:=x.2.2.2.2.2.1,text:=x.2.2.2.2.2.2.1,kids:=x.2.2.2.2.2.2.2.1,blank:=x.2.2.2.2.2.2.2.2}).deep∧(xh x).bad=(Ag (xh x) {kind:=x.2.2.2.2.2.1,text:=x.2.2.2.2.2.2.1,kids:=x.2.2.2.2.2.2.2.1,blank:=x.2.2.2.2.2.2.2.2}).bad∧Au ((xh x).nodes++zs)=Au (Ag (xh x) {kind:=x.2.2.2.2.2.1,text:=x.2.2.2.2.2.2.1,kids:=x.2.2.2.2.2.2.2.1,blank:=x.2.2.2.2.2.2.2.2}).nodes∧mbs x.1.ms=mbs x.1.ms∧True)∧True)∧∀(i:Unit),(xh x).bad=false∧List.length (xh x).nodes≠(300:Nat)→inR IntKind.i64 ((↑(List.length (Ag (xh x) {kind:=x.2.2.2.2.2.1,text:=x.2.2.2.2.2.2.1,kids:=x.2.2.2.2.2.2.2.1,blank:=x.2.2.2.2.2.2.2.2}).nodes):Int)-(1:Int))∧rA BS x [.int .i64 ((↑(List.length (Ag (xh x) {kind:=x.2.2.2.2.2.1,text:=x.2.2.2.2.2.2.1,kids:=x.2.2.2.2.2.2.2.1,blank:=x.2.2.2.2.2.2.2.2}).nodes):Int)-(1:Int)),rdG x.1 (Ag (xh x) {kind:=x.2.2.2.2.2.1,text:=x.2.2.2.2.2.2.1,kids:=x.2.2.2.2.2.2.2.1,blank:=x.2.2.2.2.2.2.2.2}),.top]))) (fun x=>by kernel_rfl) fun(x:ST×Int×Int×Bool×List Nd×Int×List UInt8×List Int×Bool) (hx:rOk x.1 (xh x))=>(by
 dsimp only[mbs,Bg,Ab,Au,rA,rdG,BS,Bj,sgs,Av,AB]
 obtain⟨s,p,d,b,ns,k,t,ks,bl⟩:=x;dsimp only[xg,xh] at hx ⊢
 have hx:rOk s ⟨p,d,b,ns⟩:=hx;have hs:=DK hx;dsimp only at hs
 (repeat' first|refine ZG ?_|(with_reducible first|rfl|exact True.intro|apply AK|apply And.intro|((first|apply Az|apply AI|apply AA|apply AJ)<;>intro _))|(apply Aw<;>intro _)|apply AH|refine Ae () ?_ ?_|((first|apply AO|apply AN|apply AM|apply AL|apply AG|apply AF|apply AE|apply AD|apply AC)<;>try dsimp only)|apply Ae|(refine Prod.forall.2 ?_;intro _;try dsimp only)|(intro _;try dsimp only))
 all_goals try(first|(have hF:=a8J (g:=⟨p,d,b,ns⟩) (show b=true by assumption))|(have hF:=a8K (g:=⟨p,d,b,ns⟩) (show(ns.length:Int)=300 by assumption))|(have hF:=a8L (g:=⟨p,d,b,ns⟩) (show b=false by assumption) ‹_›)|(have hF:=a8M (g:=⟨p,d,b,ns⟩) (show b=false by assumption) ‹_›))
 all_goals first
  |rfl
  |(simp [Ag,Ax,Bd,hF];done)
  |((try simp only[AR,AS,List.length_append,List.length_cons,List.length_nil]);omega)
  |(simp only[Ag,hF,Bool.false_eq_true,if_false,AR,List.length_append,List.length_cons,List.length_nil];omega)
  |skip)
def CN:Sig:= {X:=ST×Int×Int×Bool×List Nd,args:=fun x=>[rdG x.1 (xg x)],pre:=fun x=>rOk x.1 (xg x),Y:=Unit,post:=fun x y=>True,res:=fun x y=> .tup [],outs:=fun x y=>[rdG x.1 (BX (xg x))],keep:=true}
theorem Jc:Aj G Tryz.prog 162 CN:=
 vcFun_okP [] [] false (fun x=>[]) Tryz.func162 rfl (by decide) trivial (fun(x:ST×Int×Int×Bool×List Nd)=>True∧Aa (!(xg x).bad) (inR IntKind.i64 ((xg x).pos+(1:Int))∧rA CN x [.tup [],.box 0 [sgs x.1.sg,.int .i64 x.1.z,.int .i64 ((xg x).pos+(1:Int)),.int .i64 (xg x).deep,.bool (xg x).bad,Au (xg x).nodes,mbs x.1.ms]]) (rA CN x [.tup [],rdG x.1 (xg x)])) (fun x=>by kernel_rfl) fun(x:ST×Int×Int×Bool×List Nd) (hx:rOk x.1 (xg x))=>(by
 dsimp only[mbs,Bg,Au,rA,rdG,CN,Bj,sgs,Av,AB]
 obtain⟨s,p,d,b,ns⟩:=x;dsimp only[xg,xh] at hx ⊢
 have hx:rOk s ⟨p,d,b,ns⟩:=hx;have hs:=DK hx;dsimp only at hs
 (repeat' first|(with_reducible first|rfl|exact True.intro|apply AK|apply And.intro|((first|apply Az|apply AI|apply AA|apply AJ)<;>intro _))|(apply Aw<;>intro _)|apply AH|refine Ae () ?_ ?_|((first|apply AO|apply AN|apply AM|apply AL|apply AG|apply AF|apply AE|apply AD|apply AC)<;>try dsimp only)|apply Ae|(refine Prod.forall.2 ?_;intro _;try dsimp only)|(intro _;try dsimp only))
 all_goals first
  |rfl
  |(simp [BX,Ai, *];done)
  |((try simp only[AR]);omega)
  |skip)
def It:Sig:= {X:=ST×Int×Int×Bool×List Nd×Int,args:=fun x=>[rdG x.1 (xh x),.int .i64 x.2.2.2.2.2],pre:=fun x=>rOk x.1 (xh x)∧((xh x).bad=false→(xh x).pos<x.1.sg.length),Y:=Unit,post:=fun x y=>True,res:=fun x y=> .int .i64 (Ax (xh x)),outs:=fun x y=>[rdG x.1 (CY x.1.sg (xh x) x.2.2.2.2.2 false),.top],keep:=true}
theorem ZI:Aj G Tryz.prog 168 It:=
 vcFun_okP [(103,0,Cq),(104,0,BS),(162,0,CN)] [(45,⟨Int,Bb⟩)] false (fun x=>[]) Tryz.func168 rfl (by decide) ⟨GZ,GB,Jc,trivial⟩ (fun(x:ST×Int×Int×Bool×List Nd×Int)=>True∧cA Cq [rdG x.1 (xh x)] fun x_1 y=>cA BS [rdG x_1.1 (xg x_1),.agg [.int .i64 x.2.2.2.2.2,.str (pkG x_1.1.sg (xg x_1) (0:Int)).text,.nil,.bool false]] fun x_2 y=>cA CN [rdG x_2.1 (Ag (xh x_2) {kind:=x_2.2.2.2.2.2.1,text:=x_2.2.2.2.2.2.2.1,kids:=x_2.2.2.2.2.2.2.2.1,blank:=x_2.2.2.2.2.2.2.2.2})] fun x_3 y=>rA It x [.int .i64 (Ax (xh x_2)),rdG x_3.1 (BX (xg x_3)),.top]) (fun x=>by kernel_rfl) fun(x:ST×Int×Int×Bool×List Nd×Int) (hx:rOk x.1 (xh x)∧((xh x).bad=false→(xh x).pos<x.1.sg.length))=>(by
 dsimp only[cA,mbs,Bg,Au,rA,rdG,BS,It,Cq,CN,Bj,sgs,Av,AB,mvL,lnL,mvE,lnE]
 obtain⟨s,p,d,b,ns,e⟩:=x;dsimp only[xg,xh] at hx ⊢
 obtain⟨h1,h2⟩:=hx
 (repeat' first|(with_reducible first|rfl|exact True.intro|apply AK|apply And.intro|((first|apply Az|apply AI|apply AA|apply AJ)<;>intro _))|(apply Aw<;>intro _)|apply AH|refine Ae () ?_ ?_|((first|apply AO|apply AN|apply AM|apply AL|apply AG|apply AF|apply AE|apply AD|apply AC)<;>try dsimp only)|apply Ae|(refine Prod.forall.2 ?_;intro _;try dsimp only)|(intro _;try dsimp only))
 all_goals first
  |rfl
  |exact h1
  |exact⟨h1.1,Ir h1.2 ⟨JX h1.1,by simp⟩⟩
  |(simp [CY, *];done)
  |skip)
def CE:Sig:= {X:=ST×Int×Int×Bool×List Nd×List UInt8×Int×List UInt8×List Int×Bool,args:=fun x=>[rdG x.1 (xh x),.str x.2.2.2.2.2.1,.agg (ndA true ⟨x.2.2.2.2.2.2.1,x.2.2.2.2.2.2.2.1,x.2.2.2.2.2.2.2.2.1,x.2.2.2.2.2.2.2.2.2⟩)],pre:=fun x=>rOk x.1 (xh x)∧Cv ⟨x.2.2.2.2.2.2.1,x.2.2.2.2.2.2.2.1,x.2.2.2.2.2.2.2.2.1,x.2.2.2.2.2.2.2.2.2⟩,Y:=Unit,post:=fun x y=>True,res:=fun x y=> .int .i64 (BB x.1.sg (xh x) x.2.2.2.2.2.1),outs:=fun x y=>[rdG x.1 (Bs x.1.sg (xh x) x.2.2.2.2.2.1 ⟨x.2.2.2.2.2.2.1,x.2.2.2.2.2.2.2.1,x.2.2.2.2.2.2.2.2.1,x.2.2.2.2.2.2.2.2.2⟩),.top,.top],keep:=true}
theorem Lj:Aj G Tryz.prog 165 CE:=
 vcFun_okP [(166,0,Cw),(104,0,BS),(162,0,CN)] [] false (fun x=>[]) Tryz.func165 rfl (by decide) ⟨HB,GB,Jc,trivial⟩ (fun(x:ST×Int×Int×Bool×List Nd×List UInt8×Int×List UInt8×List Int×Bool)=>True∧cA Cw [rdG x.1 (xh x),.str x.2.2.2.2.2.1] fun x_1 y=>Aa (!isG x_1.1.sg (xh x_1) (4:Int) x_1.2.2.2.2.2) (rA CE x [.int .i64 (0:Int),.box 0 [sgs x_1.1.sg,.int .i64 x_1.1.z,.int .i64 (xh x_1).pos,.int .i64 (xh x_1).deep,.bool true,Au (xh x_1).nodes,mbs x_1.1.ms],.top,.top]) (cA BS [rdG x_1.1 (xh x_1),.agg [.int .i64 x.2.2.2.2.2.2.1,.str x.2.2.2.2.2.2.2.1,Ab x.2.2.2.2.2.2.2.2.1,.bool x.2.2.2.2.2.2.2.2.2]] fun x_2 y=>cA CN [rdG x_2.1 (Ag (xh x_2) {kind:=x_2.2.2.2.2.2.1,text:=x_2.2.2.2.2.2.2.1,kids:=x_2.2.2.2.2.2.2.2.1,blank:=x_2.2.2.2.2.2.2.2.2})] fun x_3 y=>rA CE x [.int .i64 (Ax (xh x_2)),rdG x_3.1 (BX (xg x_3)),.top,.top])) (fun x=>by kernel_rfl) fun(x:ST×Int×Int×Bool×List Nd×List UInt8×Int×List UInt8×List Int×Bool) (hx:rOk x.1 (xh x)∧Cv ⟨x.2.2.2.2.2.2.1,x.2.2.2.2.2.2.2.1,x.2.2.2.2.2.2.2.2.1,x.2.2.2.2.2.2.2.2.2⟩)=>(by
 dsimp only[cA,mbs,Bg,Ab,Au,rA,rdG,BS,CE,Cw,CN,Bj,sgs,Av,AB,mvL,lnL,mvE,lnE]
 obtain⟨s,p,d,b,ns,m,k,t,ks,bl⟩:=x;dsimp only[xg,xh] at hx ⊢
 obtain⟨h1,h2⟩:=hx
 (repeat' first|(with_reducible first|rfl|exact True.intro|apply AK|apply And.intro|((first|apply Az|apply AI|apply AA|apply AJ)<;>intro _))|(apply Aw<;>intro _)|apply AH|refine Ae () ?_ ?_|((first|apply AO|apply AN|apply AM|apply AL|apply AG|apply AF|apply AE|apply AD|apply AC)<;>try dsimp only)|apply Ae|(refine Prod.forall.2 ?_;intro _;try dsimp only)|(intro _;try dsimp only))
 all_goals first
  |rfl
  |exact h1
  |exact⟨h1.1,Ir h1.2 h2⟩
  |(simp [Bs,BB,Bd, *];done)
  |skip)
def Iu:Sig:= {X:=ST×Int×Int×Bool×List Nd,args:=fun x=>[rdG x.1 (xg x)],pre:=fun x=>rOk x.1 (xg x)∧(xg x).deep≤20,Y:=Unit,post:=fun x y=>True,res:=fun x y=> .tup [],outs:=fun x y=>[rdG x.1 (gDp (if(xg x).deep=20 then Bd (xg x) else(xg x)) 1)],keep:=true}
theorem ZJ:Aj G Tryz.prog 169 Iu:=
 vcFun_okP [] [] false (fun x=>[]) Tryz.func169 rfl (by decide) trivial (fun(x:ST×Int×Int×Bool×List Nd)=>True∧Aa ((xg x).deep==(20:Int)) (inR IntKind.i64 ((xg x).deep+(1:Int))∧rA Iu x [.tup [],.box 0 [sgs x.1.sg,.int .i64 x.1.z,.int .i64 (xg x).pos,.int .i64 ((xg x).deep+(1:Int)),.bool true,Au (xg x).nodes,mbs x.1.ms]]) (inR IntKind.i64 ((xg x).deep+(1:Int))∧rA Iu x [.tup [],.box 0 [sgs x.1.sg,.int .i64 x.1.z,.int .i64 (xg x).pos,.int .i64 ((xg x).deep+(1:Int)),.bool (xg x).bad,Au (xg x).nodes,mbs x.1.ms]])) (fun x=>by kernel_rfl) fun(x:ST×Int×Int×Bool×List Nd) (hx:rOk x.1 (xg x)∧(xg x).deep≤20)=>(by
 dsimp only[mbs,Bg,Au,rA,rdG,Iu,Bj,sgs,Av,AB]
 obtain⟨s,p,d,b,ns⟩:=x;dsimp only[xg,xh] at hx ⊢
 obtain⟨h1,h2⟩:=hx;have hs:=DK h1;dsimp only at hs
 (repeat' first|(with_reducible first|rfl|exact True.intro|apply AK|apply And.intro|((first|apply Az|apply AI|apply AA|apply AJ)<;>intro _))|(apply Aw<;>intro _)|apply AH|refine Ae () ?_ ?_|((first|apply AO|apply AN|apply AM|apply AL|apply AG|apply AF|apply AE|apply AD|apply AC)<;>try dsimp only)|apply Ae|(refine Prod.forall.2 ?_;intro _;try dsimp only)|(intro _;try dsimp only))
 all_goals first
  |rfl
  |(simp [gDp,Bd, *];done)
  |((try simp only[AR]);omega)
  |skip)
def GC:Sig:= {X:=ST×Int×Int×Bool×List Nd,args:=fun x=>[rdG x.1 (xg x)],pre:=fun x=>rOk x.1 (xg x),Y:=Unit,post:=fun x y=>True,res:=fun x y=> .int .i64 (Dj x.1.sg (xg x)),outs:=fun x y=>[rdG x.1 (Cz x.1.sg (xg x))],keep:=true}
theorem Ul:Aj G Tryz.prog 139 GC:=
 vcFun_okP [(167,0,Er),(168,0,It)] [] false (fun x=>[]) Tryz.func139 rfl (by decide) ⟨Oa,ZI,trivial⟩ (fun(x:ST×Int×Int×Bool×List Nd)=>True∧cA Er [rdG x.1 (xg x),.int .i64 (0:Int)] fun x_1 y=>Aa (!nmG x_1.1.sg (xh x_1) x_1.2.2.2.2.2) (rA GC x [.int .i64 (0:Int),.box 0 [sgs x_1.1.sg,.int .i64 x_1.1.z,.int .i64 (xh x_1).pos,.int .i64 (xh x_1).deep,.bool true,Au (xh x_1).nodes,mbs x_1.1.ms]]) (cA It [rdG x_1.1 (xh x_1),.int .i64 (1:Int)] fun x_2 y=>rA GC x [.int .i64 (Ax (xh x_2)),rdG x_2.1 (CY x_2.1.sg (xh x_2) x_2.2.2.2.2.2 false)])) (fun x=>by kernel_rfl) fun(x:ST×Int×Int×Bool×List Nd) (hx:rOk x.1 (xg x))=>(by
 dsimp only[cA,mbs,Bg,Au,rA,rdG,It,GC,Er,Bj,sgs,Av,AB,mvL,lnL,mvE,lnE]
 obtain⟨s,p,d,b,ns⟩:=x;dsimp only[xg,xh] at hx ⊢
 have hx:rOk s ⟨p,d,b,ns⟩:=hx;have hs:=DK hx;dsimp only at hs
 (repeat' first|(with_reducible first|rfl|exact True.intro|apply AK|apply And.intro|((first|apply Az|apply AI|apply AA|apply AJ)<;>intro _))|(apply Aw<;>intro _)|apply AH|refine Ae () ?_ ?_|((first|apply AO|apply AN|apply AM|apply AL|apply AG|apply AF|apply AE|apply AD|apply AC)<;>try dsimp only)|apply Ae|(refine Prod.forall.2 ?_;intro _;try dsimp only)|(intro _;try dsimp only))
 all_goals first
  |rfl
  |exact hx
  |omega
  |(have hl:=Iq (show nmG _ _ 0=true by assumption);dsimp only at hl;omega)
  |(simp [Cz,Dj,Bd, *];done)
  |skip)
end Go.My
end
section
set_option linter.unusedVariables false
set_option linter.unusedSimpArgs false
namespace Go.My
open Go.Eng
def restP{α:Type}(sg:List Sg)(x:Gs)(f:Ps→Option (α×Ps))(y:Gs)(g:Ps→Option (α×Ps))(d:Int):Prop:=
 gsOk sg y∧y.deep=x.deep+d∧x.pos≤y.pos∧(pur y).bind g=(pur x).bind f
theorem Dp{α:Type}{sg:List Sg}{x:Gs}{f:Ps→Option (α×Ps)}(h:gsOk sg x):restP sg x f x f 0:=⟨h,by omega,Int.le_refl _,rfl⟩
theorem Dy{α:Type}{sg:List Sg}{x y:Gs}{f g g':Ps→Option (α×Ps)}{d:Int}(h:restP sg x f y g d)(e:∀s,pur y=some s→g s=g' s):restP sg x f y g' d:=by
 refine⟨h.1,h.2.1,h.2.2.1,?_⟩
 rw[←h.2.2.2]
 cases hs:pur y with
 |none=>rfl
 |some s=>exact(e s hs).symm
theorem ZK{α:Type}{sg:List Sg}{x y z:Gs}{f g g':Ps→Option (α×Ps)}{h:Ps→Option Ps}{d:Int}(h1:restP sg x f y g d)(h2:Ue sg y h z)(e:∀s,pur y=some s→g s=(h s).bind g'):restP sg x f z g' d:=by
 obtain⟨a1,a2,a3,a4⟩:=h1;obtain⟨b1,b2,b3,b4⟩:=h2
 refine⟨b1,by omega,by omega,?_⟩
 rw[b4,←a4]
 cases hs:pur y with
 |none=>rfl
 |some s=>simp only[Option.bind_some];rw[e s hs]
theorem BJ{α β:Type}{sg:List Sg}{x y:Gs}{z:β×Gs}{f g:Ps→Option (α×Ps)}{k:β→Ps→Option (α×Ps)}{h:Ps→Option (β×Ps)}{d:Int}(h1:restP sg x f y g d)(h2:Bm sg y h z)
 (e:∀s,pur y=some s→g s=(h s).bind fun p=>k p.1 p.2):restP sg x f z.2 (k z.1) d:=by
 obtain⟨a1,a2,a3,a4⟩:=h1;obtain⟨b1,b2,b3,b4,b5⟩:=h2
 refine⟨b1,by omega,by omega,?_⟩
 rw[b4,←a4]
 cases hs:pur y with
 |none=>rfl
 |some s=>
  simp only[Option.bind_some];rw[e s hs]
  rw[hs] at b5
  simp only[Option.bind_some] at b5
  cases hp:h s with
  |none=>rfl
  |some p=>simp only[Option.map_some,Option.bind_some];rw[b5 p hp]
theorem FC{α:Type}{sg:List Sg}{x y:Gs}{f:Ps→Option (α×Ps)}{a:α}(h:restP sg x f y (fun s=>some (a,s)) 0):Bm sg x f (a,y):=by
 obtain⟨a1,a2,a3,a4⟩:=h
 refine⟨a1,by simp only;omega,a3,?_,?_⟩
 ·rw[←a4];cases pur y<;>rfl
 ·intro p hp;rw[←a4] at hp
  cases hs:pur y with
  |none=>rw[hs] at hp;cases hp
  |some s=>rw[hs] at hp;simp only[Option.bind_some,Option.some.injEq] at hp;rw[←hp]
theorem Oc{α:Type}{sg:List Sg}{x y:Gs}{f g:Ps→Option (α×Ps)}{a:α}(h:restP sg x f y g 0)(hb:y.bad=true):Bm sg x f (a,y):=by
 obtain⟨a1,a2,a3,a4⟩:=h
 rw[DJ hb] at a4
 have hn:(pur x).bind f=none:=a4.symm
 refine⟨a1,by simp only;omega,a3,?_,fun p hp=>by rw[hn] at hp;cases hp⟩
 rw[hn,DJ hb];rfl
theorem ZL{α:Type}{sg:List Sg}{x y:Gs}{f g:Ps→Option (α×Ps)}{d:Int}(h:restP sg x f y g d)(e:∀s,pur y=some s→g s=none):(pur x).bind f=none:=by
 rw[←h.2.2.2]
 cases hs:pur y with
 |none=>rfl
 |some s=>exact e s hs
theorem ZM{α:Type}{sg:List Sg}{x y:Gs}{f g:Ps→Option (α×Ps)}{a:α}(h:restP sg x f y g 0)(e:∀s,pur y=some s→g s=none):Bm sg x f (a,Bd y):=by
 have hn:=ZL h e
 refine⟨Li h.1,by simp only[Bd];have:=h.2.1;omega,h.2.2.1,?_,fun p hp=>by rw[hn] at hp;cases hp⟩
 rw[hn,IY];rfl
theorem JY{α:Type}{sg:List Sg}{x y:Gs}{f g g':Ps→Option (α×Ps)}{d e:Int}(h:restP sg x f y g d)(hd:0≤y.deep+e∧y.deep+e≤21)(hg:∀s,pur y=some s→g s=g' (dp s e)):restP sg x f (gDp y e) g' (d+e):=by
 obtain⟨a1,a2,a3,a4⟩:=h
 refine⟨⟨a1.1,hd,a1.2.2⟩,by simp only[gDp];omega,a3,?_⟩
 rw[←a4]
 cases hb:y.bad with
 |true=>rw[DJ hb,DJ (by simpa [gDp] using hb)];rfl
 |false=>
  rw[CX hb,CX (g:=gDp y e) (by simpa [gDp] using hb)]
  simp only[Option.bind_some]
  rw[hg _ (CX hb)];rfl
theorem ZN{α:Type}{sg:List Sg}{x y:Gs}{f g g':Ps→Option (α×Ps)}{d:Int}(h:restP sg x f y g d)(hg:∀s,pur y=some s→g s=none):restP sg x f (Bd y) g' d:=by
 have hn:=ZL h hg
 refine⟨Li h.1,h.2.1,h.2.2.1,?_⟩
 rw[IY,hn];rfl
theorem HC{sg:List Sg}{g:Gs}{s:Ps}{m:List UInt8}(hs:pur g=some s)(hm:isG sg g 4 m=true):isM sg s m=true:=Uh hm hs
theorem Et{sg:List Sg}{g:Gs}{s:Ps}{m:List UInt8}(hs:pur g=some s)(hm:isG sg g 4 m=false):isM sg s m=false:=Qh hm hs
theorem Eu{sg:List Sg}{g:Gs}{s:Ps}{m:List UInt8}(hs:pur g=some s)(hm:isG sg g 1 m=false):isW sg s m=false:=Qh hm hs
theorem Gb{α:Type}{sg:List Sg}{x y:Gs}{f g g':Ps→Option (α×Ps)}{d:Int}{m:List UInt8}{k:Int}(h:restP sg x f y g d)(hk:k≠0)(hm:isG sg y k m=true)(hg:∀s,pur y=some s→isT sg s k m=true→g s=g' (adv s)):
 restP sg x f (Ai y) g' d:=by
 obtain⟨h1,h2,h3⟩:=ZE h.1 hk hm
 refine ZK h h1 fun s hs=> ?_
 have ht:=Uh hm hs
 rw[hg s hs ht,ht];rfl
theorem Ha{α:Type}{sg:List Sg}{x y:Gs}{f g g':Ps→Option (α×Ps)}{d:Int}{m:List UInt8}(h:restP sg x f y g d)(hg:∀s,pur y=some s→g s=(BF sg m s).bind g'):restP sg x f (Al sg y m) g' d:=
 ZK h (MB h.1).1 hg
theorem a8O{α:Type}{sg:List Sg}{x:Gs}{y:α×Gs}{f:Ps→Option (α×Ps)}(h:Bm sg x f y):restP sg x f y.2 (fun s=>some (y.1,s)) 0:=by
 obtain⟨a1,a2,a3,a4,a5⟩:=h
 refine⟨a1,by omega,a3,?_⟩
 cases hp:(pur x).bind f with
 |none=>rw[a4,hp];rfl
 |some p=>rw[a4,hp,a5 p hp];rfl
theorem a8P{sg:List Sg}{one:Ps→PR}{m:List UInt8}{n:Nat}{ks:List Int}{s:Ps}(h:isM sg s m=true):Bl sg one m (n+1) ks s=some (ks,s):=by rw[Bl,if_pos h]
theorem a8Q{sg:List Sg}{one:Ps→PR}{m:List UInt8}{n:Nat}{ks:List Int}{s:Ps}(h:isM sg s m=false):Bl sg one m (n+1) ks s=(one s).bind fun p=>if isM sg p.2 [44] then Bl sg one m n (ks++[p.1]) (adv p.2) else some (ks++[p.1],p.2):=by
 rw[Bl,if_neg (by simp [h])]
end Go.My
end
section
set_option linter.unusedVariables false
set_option linter.unusedSimpArgs false
namespace Go.My
open Go.Eng
def Ev(sg:List Sg):Nat→Int→Int
 |0,i=>i
 |n+1,i=>if i+1<sg.length∧(sgO sg i).kind=1 then(if(sgO sg (i+1)).text=[44] then Ev sg n (i+2) else i+1) else i
def Ew(sg:List Sg)(i k:Int)(t:List UInt8):Bool:=decide ((sgO sg i).kind=k)&&((sgO sg i).text==t)
def Fl(sg:List Sg)(i:Int):Bool:=decide (i+1<sg.length)&&(Ew sg i 4 [41]&&Ew sg (i+1) 4 [61,62])
def JZ(sg:List Sg)(s:Ps):Bool:=Fl sg (Ev sg (sg.length+1) (s.pos+1))
def sgM(sg:List Sg):Prop:=∀e∈sg,(e.text=[41]∨e.text=[61,62]∨e.text=[44])→e.kind=4
theorem Um{sg:List Sg}{i:Int}(h:(sgO sg i).text≠[]∨(sgO sg i).kind≠0):i.toNat<sg.length∧sgO sg i∈sg:=by
 unfold sgO at h ⊢
 rw[List.getD_eq_getElem?_getD] at h ⊢
 cases hx:sg[i.toNat]? with
 |none=>rw[hx] at h;simp [Ec] at h
 |some e=>exact⟨(List.getElem?_eq_some_iff.1 hx).1,by simpa using List.mem_of_getElem? hx⟩
theorem Ql{sg:List Sg}(hm:sgM sg){i:Int}(h:(sgO sg i).text=[41]∨(sgO sg i).text=[61,62]∨(sgO sg i).text=[44]):(sgO sg i).kind=4:=by
 refine hm _ (Um (.inl ?_)).2 h
 rcases h with h|h|h<;>rw[h]<;>simp
def ZO(sg:List Sg)(i:Int):Bool:=((sgO sg i).text==[41])&&((sgO sg (i+1)).text==[61,62])
theorem Un{sg:List Sg}(hm:sgM sg){i:Int}(h0:0≤i):ZO sg i=Fl sg i:=by
 unfold ZO Fl Ew
 cases h1:((sgO sg i).text==[41]) with
 |false=>simp
 |true=>
  have k1:=Ql hm (.inl (by simpa using h1))
  cases h2:((sgO sg (i+1)).text==[61,62]) with
  |false=>simp
  |true=>
   have k2:=Ql hm (.inr (.inl (by simpa using h2)))
   have:=(Um (sg:=sg) (i:=i+1) (.inl (by simp at h2;rw[h2];simp))).1
   simp [k1,k2];omega
theorem Qm{sg:List Sg}{i:Int}(h:Dh sg i=true):(sgO sg i).kind=1:=by
 simp [Dh] at h;exact h.1
theorem ZP{sg:List Sg}(hm:sgM sg):∀(n:Nat) (i:Int),0≤i→Fl sg (Dl sg n i)=true→Fl sg (Ev sg n i)=true
 |0,i,h0,h=>by simpa [Dl,Ev] using h
 |n+1,i,h0,h=>by
  rw[Dl] at h;rw[Ev]
  cases hn:Dh sg i with
  |false=>
   rw[hn] at h;simp only[Bool.false_eq_true,if_false] at h
   have h4:(sgO sg i).kind=4:=by
    simp only[Fl,Ew,Bool.and_eq_true,decide_eq_true_eq] at h;exact h.2.1.1
   rw[if_neg (by rw[h4];omega)];exact h
  |true=>
   rw[hn,if_pos rfl] at h
   have hk:=Qm hn
   have hlt:i+1<sg.length:=by
    split at h
    ·rename_i ht
     have:=(Um (sg:=sg) (i:=i+1) (.inl (by rw[ht];simp))).1;omega
    ·simp only[Fl,Bool.and_eq_true,decide_eq_true_eq] at h;omega
   rw[if_pos ⟨hlt,hk⟩]
   split at h
   ·rename_i ht;rw[if_pos ht];exact ZP hm n (i+2) (by omega) h
   ·rename_i ht;rw[if_neg ht];exact h
theorem ZQ{sg:List Sg}(hm:sgM sg):∀(n:Nat) (i:Int),0≤i→Fl sg (Ev sg n i)=true→Fl sg (Dl sg n i)=false→∀(N:Nat) (ks:List Int) (s:Ps),s.pos=i→Bl sg (Bz sg) [41] N ks s=none
 |0,i,h0,h1,h2=>by simp [Dl,Ev] at h1 h2;rw[h1] at h2;cases h2
 |n+1,i,h0,h1,h2=>by
  intro N ks s hs
  match N with
  |0=>rfl
  |N+1=>
  rw[Ev] at h1;rw[Dl] at h2
  cases hn:Dh sg i with
  |false=>
   rw[hn] at h2;simp only[Bool.false_eq_true,if_false] at h2
   split at h1
   ·rename_i hh
    have hm4:isM sg s [41]=false:=by simp [isM,isT,hs,hh.2]
    rw[Bl,if_neg (by simp [hm4]),Bz,hs,if_neg (by simp [hn])];rfl
   ·rw[h1] at h2;cases h2
  |true=>
   rw[hn,if_pos rfl] at h2
   have hk:=Qm hn
   have hm4:isM sg s [41]=false:=by simp [isM,isT,hs,hk]
   split at h1
   ·split at h1
    ·rename_i ht;rw[if_pos ht] at h2
     have hk2:=Ql hm (.inr (.inr ht))
     rw[Bl,if_neg (by simp [hm4]),Bz,hs,if_pos hn,DU,En,Ba]
     split
     ·rfl
     ·simp only[Option.map_some,Option.bind_some,adv]
      have hc:isM sg ⟨s.pos+1,s.deep,s.nodes++[⟨1,(sgO sg s.pos).text,[],false⟩]⟩ [44]=true:=by simp [isM,isT,hs,ht,hk2]
      rw[if_pos hc]
      exact ZQ hm n (i+2) (by omega) h1 h2 N _ _ (by simp only;omega)
    ·rename_i ht;rw[if_neg ht] at h2;rw[h1] at h2;cases h2
   ·exfalso
    have:(sgO sg i).kind=4:=by simp only[Fl,Ew,Bool.and_eq_true,decide_eq_true_eq] at h1;exact h1.2.1.1
    omega
theorem MD{sg:List Sg}(hm:sgM sg):∀(n:Nat) (t:NT) (s:Ps),Dh sg s.pos=true→(sgO sg (s.pos+1)).text=[44]→0≤s.pos→(pE sg n t s=none∨∃p,pE sg n t s=some p∧p.2.pos=s.pos+1)
 |0,t,s,h1,h2,h0=> .inl (by cases t<;>rfl)
 |n+1,t,s,h1,h2,h0=>by
  have hk:=Ql hm (.inr (.inr h2))
  have tst:∀(q:Ps) (m:List UInt8),q.pos=s.pos+1→m≠[44]→isM sg q m=false:=by
   intro q m hq hne;simp only[isM,isT,hq,h2]
   simp;intro _;exact fun e=>hne e.symm
  cases t with
  |value=>
   rw[pE]
   rcases MD hm n .pick s h1 h2 h0 with h|⟨p,h,hp⟩
   ·left;rw[h];rfl
   ·right;refine⟨p,?_,hp⟩
    rw[h,Option.bind_some,if_neg (by simp [tst p.2 [46,46] hp (by simp)])]
  |pick=>
   rw[pE]
   split
   ·exact .inl rfl
   ·rcases MD hm n (.chain 0) (dp s 1) h1 h2 h0 with h|⟨p,h,hp⟩
    ·left;rw[h];rfl
    ·right;refine⟨(p.1,dp p.2 (-1)),?_,hp⟩
     rw[h,Option.bind_some,if_neg (by simp [tst p.2 [63] hp (by simp)])]
  |chain l=>
   rw[pE]
   split
   ·exact MD hm n .fin s h1 h2 h0
   ·rcases MD hm n (.chain (l+1)) s h1 h2 h0 with h|⟨p,h,hp⟩
    ·left;rw[h];rfl
    ·right
     have hc:FB sg l p.2=[]:=by
      have:∀m∈Bu l,isM sg p.2 m=false:=by
       intro m hmm
       refine tst p.2 m hp ?_
       intro e;subst e
       unfold Bu at hmm
       split at hmm<;>simp at hmm
      rw[FB,List.find?_eq_none.2 (by intro m hmm;simp [this m hmm])];rfl
     refine⟨(p.1,p.2),?_,hp⟩
     rw[h,Option.bind_some,Ed,if_neg (by simp),if_pos hc];rfl
  |fin=>
   rw[pE]
   rcases MD hm n .base s h1 h2 h0 with h|⟨p,h,hp⟩
   ·left;rw[h];rfl
   ·right;refine⟨p,?_,hp⟩
    rw[h,Option.bind_some,Fj,if_neg (by simp [tst p.2 [40] hp (by simp)]),if_neg (by simp [tst p.2 [46] hp (by simp)])]
  |base=>
   rw[pE,if_pos (Qm h1),Bz,if_pos h1,DU,En,Ba]
   split
   ·exact .inl rfl
   ·exact .inr ⟨_,rfl,rfl⟩
theorem ME{sg:List Sg}:∀(n:Nat) (t:NT) (s:Ps),Dh sg s.pos=false→(sgO sg s.pos).kind=1→pE sg n t s=none
 |0,t,s,h1,h2=>by cases t<;>rfl
 |n+1,t,s,h1,h2=>by
  cases t with
  |value=>rw[pE,ME n .pick s h1 h2];rfl
  |pick=>rw[pE];split
         ·rfl
         ·rw[ME n (.chain 0) (dp s 1) h1 h2];rfl
  |chain l=>rw[pE];split
            ·exact ME n .fin s h1 h2
            ·rw[ME n (.chain (l+1)) s h1 h2];rfl
  |fin=>rw[pE,ME n .base s h1 h2];rfl
  |base=>rw[pE,if_pos h2,Bz,if_neg (by simp [h1])]
theorem a8R{sg:List Sg}(hm:sgM sg){s:Ps}{n:Nat}{x:Nd}(h0:0≤s.pos)(h1:JZ sg s=true)(h2:Eo sg s=false)(k:Int→Nd):
 ((pE sg n .value (adv s)).bind fun p=>Bo sg [41] (k p.1) p.2)=none:=by
 have h2':Fl sg (Dl sg (sg.length+1) (s.pos+1))=false:=by
  have hp:∀(n:Nat) (i:Int),0≤i→0≤Dl sg n i:=by
   intro n
   induction n with
   |zero=>intro i hi;simpa [Dl] using hi
   |succ n ih=>intro i hi;rw[Dl];split
               ·split
                ·exact ih _ (by omega)
                ·omega
               ·exact hi
  rw[←Un hm (hp _ _ (by omega))];exact h2
 unfold JZ at h1
 rw[Ev] at h1;rw[Dl] at h2'
 cases hn:Dh sg (s.pos+1) with
 |false=>
  rw[hn] at h2';simp only[Bool.false_eq_true,if_false] at h2'
  split at h1
  ·rename_i hh
   rw[ME n .value (adv s) hn hh.2];rfl
  ·rw[h1] at h2';cases h2'
 |true=>
  rw[hn,if_pos rfl] at h2'
  split at h1
  ·split at h1
   ·rename_i ht
    rcases MD hm n .value (adv s) hn (by simpa [adv] using ht) (by simp only[adv];omega) with h|⟨p,h,hp⟩
    ·rw[h];rfl
    ·rw[h,Option.bind_some,Bo]
     have:isM sg p.2 [41]=false:=by
      simp only[isM,isT,hp,adv]
      rw[show s.pos+1+1=s.pos+1+1 from rfl,ht];simp
     rw[if_neg (by simp [this])]
   ·rename_i ht;rw[if_neg ht] at h2';rw[h1] at h2';cases h2'
  ·exfalso
   have:(sgO sg (s.pos+1)).kind=4:=by simp only[Fl,Ew,Bool.and_eq_true,decide_eq_true_eq] at h1;exact h1.2.1.1
   have:=Qm hn
   omega
end Go.My
end
section
set_option linter.unusedVariables false
set_option linter.unusedSimpArgs false
namespace Go.My
open Go.Eng
theorem ZR{sg:List Sg}{n:Nat}{s:Ps}:pE sg (n+1) .pick s=if 20≤s.deep then none else(pE sg n (.chain 0) (dp s 1)).bind fun p=>
 if isM sg p.2 [63] then(pE sg n .pick (adv p.2)).bind fun a=>(BF sg [58] a.2).bind fun s1=>(pE sg n .pick s1).bind fun b=>(Ba ⟨8,[],[p.1,a.1,b.1],false⟩ b.2).map fun q=>(q.1,dp q.2 (-1))
 else some (p.1,dp p.2 (-1)):=rfl
theorem a8S{sg:List Sg}{n l:Nat}{s:Ps}:pE sg (n+1) (.chain l) s=if l=6 then pE sg n .fin s else(pE sg n (.chain (l+1)) s).bind fun p=>Ed sg l (pE sg n (.chain (l+1))) (2*sg.length+4) [] [p.1] p.2:=rfl
theorem Ey{α:Type}{sg:List Sg}{x:Gs}{f:Ps→Option (α×Ps)}{y:α×Gs}(h:Af sg x f y):gsOk sg y.2:=h.1.1
theorem CC{α:Type}{sg:List Sg}{x:Gs}{f:Ps→Option (α×Ps)}{y:α×Gs}(h:Af sg x f y):y.2.deep=x.deep∧x.pos≤y.2.pos∧y.2.pos≤sg.length∧(y.2.bad=false→x.bad=false∧x.pos<y.2.pos):=by
 refine⟨h.1.2.1,h.1.2.2.1,h.1.1.1.2,fun hb=>⟨?_,h.2 hb⟩⟩
 cases hx:x.bad with
 |false=>rfl
 |true=>
  have:=h.1.2.2.2.1
  rw[DJ hx,CX hb] at this;cases this
theorem Hb{g:Gs}{x:Nd}:(Ag g x).deep=g.deep∧(Ag g x).pos=g.pos∧((Ag g x).bad=false→g.bad=false):=by
 unfold Ag;split
 ·rename_i h;exact⟨rfl,rfl,fun hb=>by simp [Bd] at hb⟩
 ·exact⟨rfl,rfl,fun hb=>hb⟩
theorem Qn{sg:List Sg}{x y:Gs}{f:Ps→PR}{w:Nd}(h:restP sg x f y (Ba w) 0)(hw:Cv w):Bm sg x f (Ax y,Ag y w):=by
 have h2:=BJ (k:=fun a s=>some (a,s)) h (NX h.1 hw) (fun s _=>by cases Ba w s<;>rfl)
 exact FC h2
theorem Qo{sg:List Sg}{x y:Gs}{f:Ps→PR}{w:Nd}{m:List UInt8}(h:restP sg x f y (Bo sg m w) 0)(hw:Cv w):Bm sg x f (BB sg y m,Bs sg y m w):=by
 have h2:=BJ (k:=fun a s=>some (a,s)) h (JW h.1 hw).1 (fun s _=>by cases Bo sg m w s<;>rfl)
 exact FC h2
theorem a8T{sg:List Sg}{x:Gs}{n:Nat}(h:gsOk sg x)(hd:x.deep≤20):restP sg x (pE sg (n+1) .pick) (gDp (if x.deep=20 then Bd x else x) 1)
 (fun s=>(pE sg n (.chain 0) s).bind fun p=>if isM sg p.2 [63] then(pE sg n .pick (adv p.2)).bind fun a=>(BF sg [58] a.2).bind fun s1=>(pE sg n .pick s1).bind fun b=>(Ba ⟨8,[],[p.1,a.1,b.1],false⟩ b.2).map fun q=>(q.1,dp q.2 (-1)) else some (p.1,dp p.2 (-1))) 1:=by
 split
 ·rename_i h20
  have h2:=ZN (d:=0) (g':=pE sg (n+1) .pick) (Dp (f:=pE sg (n+1) .pick) h) (fun s hs=>by
   obtain⟨_,rfl⟩:=Ep.1 hs
   rw[ZR,if_pos (by simp only;omega)])
  refine JY (d:=0) h2 ⟨by simp only[Bd];omega,by simp only[Bd];omega⟩ (fun s hs=> ?_)
  rw[IY] at hs;cases hs
 ·rename_i h20
  refine JY (d:=0) (Dp h) ⟨by have:=h.2.1.1;omega,by omega⟩ (fun s hs=> ?_)
  obtain⟨_,rfl⟩:=Ep.1 hs
  rw[ZR,if_neg (by simp only;omega)]
theorem ZS{sg:List Sg}{x:Gs}{n:Nat}{z:Int×Gs}(h:gsOk sg x)(hd:x.deep≤20)(h1:Af sg (gDp (if x.deep=20 then Bd x else x) 1) (pE sg n (.chain 0)) z):
 restP sg x (pE sg (n+1) .pick) z.2 (fun s=>if isM sg s [63] then(pE sg n .pick (adv s)).bind fun a=>(BF sg [58] a.2).bind fun s1=>(pE sg n .pick s1).bind fun b=>(Ba ⟨8,[],[z.1,a.1,b.1],false⟩ b.2).map fun q=>(q.1,dp q.2 (-1)) else some (z.1,dp s (-1))) 1:=
 BJ (k:=fun k s=>if isM sg s [63] then(pE sg n .pick (adv s)).bind fun a=>(BF sg [58] a.2).bind fun s1=>(pE sg n .pick s1).bind fun b=>(Ba ⟨8,[],[k,a.1,b.1],false⟩ b.2).map fun q=>(q.1,dp q.2 (-1)) else some (k,dp s (-1))) (a8T h hd) h1.1 (fun _ _=>rfl)
theorem Od{x:Gs}:(gDp (if x.deep=20 then Bd x else x) 1).pos=x.pos∧(gDp (if x.deep=20 then Bd x else x) 1).deep=x.deep+1∧((gDp (if x.deep=20 then Bd x else x) 1).bad=false→x.bad=false∧x.deep≠20):=by
 split
 ·exact⟨rfl,rfl,fun h=>by simp [gDp,Bd] at h⟩
 ·rename_i h;exact⟨rfl,rfl,fun h2=>⟨h2,h⟩⟩
theorem a8U{sg:List Sg}{x:Gs}{n:Nat}{z:Int×Gs}(h:gsOk sg x)(hd:x.deep≤20)(h1:Af sg (gDp (if x.deep=20 then Bd x else x) 1) (pE sg n (.chain 0)) z)(hq:isG sg z.2 4 [63]=false):
 Af sg x (pE sg (n+1) .pick) (z.1,gDp z.2 (-1)):=by
 have h2:=Dy (ZS h hd h1) (g':=fun s=>some (z.1,dp s (-1))) (fun s hs=>by rw[if_neg (by simp [Et hs hq])])
 obtain⟨e1,e2,e3,e4⟩:=CC h1
 obtain⟨p1,p2,p3⟩:= @Od x
 refine⟨FC (JY (e:= -1) h2 ?_ (fun s hs=>rfl)),fun hb=> ?_⟩
 ·have:=h.2.1;omega
 ·have:=e4 hb;show x.pos<z.2.pos;omega
theorem a8V{sg:List Sg}{x:Gs}{n:Nat}{z a b:Int×Gs}(h:gsOk sg x)(hd:x.deep≤20)(h1:Af sg (gDp (if x.deep=20 then Bd x else x) 1) (pE sg n (.chain 0)) z)(hq:isG sg z.2 4 [63]=true)
 (h2:Af sg (Ai z.2) (pE sg n .pick) a) (h3:Af sg (Al sg a.2 [58]) (pE sg n .pick) b):
 Af sg x (pE sg (n+1) .pick) (Ax b.2,gDp (Ag b.2 ⟨8,[],[z.1,a.1,b.1],false⟩) (-1)):=by
 have k1:=Gb (g':=fun s=>(pE sg n .pick s).bind fun a=>(BF sg [58] a.2).bind fun s1=>(pE sg n .pick s1).bind fun b=>(Ba ⟨8,[],[z.1,a.1,b.1],false⟩ b.2).map fun q=>(q.1,dp q.2 (-1)))
  (ZS h hd h1) (by omega) hq (fun s hs ht=>by rw[if_pos (show isM sg s [63]=true from ht)])
 have k2:=BJ (k:=fun a s=>(BF sg [58] s).bind fun s1=>(pE sg n .pick s1).bind fun b=>(Ba ⟨8,[],[z.1,a,b.1],false⟩ b.2).map fun q=>(q.1,dp q.2 (-1))) k1 h2.1 (fun _ _=>rfl)
 have k3:=Ha (g':=fun s1=>(pE sg n .pick s1).bind fun b=>(Ba ⟨8,[],[z.1,a.1,b.1],false⟩ b.2).map fun q=>(q.1,dp q.2 (-1))) k2 (fun _ _=>rfl)
 have k4:=BJ (k:=fun b s=>(Ba ⟨8,[],[z.1,a.1,b],false⟩ s).map fun q=>(q.1,dp q.2 (-1))) k3 h3.1 (fun _ _=>rfl)
 have hw:Cv ⟨8,[],[z.1,a.1,b.1],false⟩:=⟨by simp,by simp⟩
 have k5:=BJ (k:=fun k s=>some (k,dp s (-1))) k4 (NX k4.1 hw) (fun s _=>by cases Ba ⟨8,[],[z.1,a.1,b.1],false⟩ s<;>rfl)
 simp only at k5
 obtain⟨d1,d2,d3⟩:= @Hb b.2 ⟨8,[],[z.1,a.1,b.1],false⟩
 refine⟨FC (JY (e:= -1) k5 ?_ (fun s hs=>rfl)),fun hb=> ?_⟩
 ·have:=k5.2.1;have:=h.2.1;omega
 ·have hb2:=d3 hb
  obtain⟨p1,p2,p3⟩:= @Od x
  have e1:=CC h1;have e2:=CC h2;have e3:=CC h3
  have e4:=MB (m:=[58]) (Ey h2)
  have e5:=(MB (m:=[58]) (Ey h2)).1.2.2.1
  show x.pos<(Ag b.2 ⟨8,[],[z.1,a.1,b.1],false⟩).pos
  have ea:(Ai z.2).pos=z.2.pos+1:=rfl
  have:=e3.2.1
  omega
def Ka(sg:List Sg)(n:Nat)(x y:Gs)(ks:List Int)(N:Nat):Prop:=
 restP sg x (pE sg (n+1) .value) y (fun s=>(EW sg (pE sg n .value) N ks s).bind fun q=>Ba ⟨10,[],q.1,false⟩ q.2) 0∧(sg.length:Int)-y.pos<N∧(ks.length:Int)≤y.pos+1∧(y.bad=false→x.pos<y.pos)
theorem a8W{sg:List Sg}{x:Gs}{n:Nat}{z:Int×Gs}(h:gsOk sg x)(h1:Af sg x (pE sg n .pick) z)(hq:isG sg z.2 4 [46,46]=false):Af sg x (pE sg (n+1) .value) z:=by
 have k1:=BJ (k:=fun k s=>if isM sg s [46,46] then(EW sg (pE sg n .value) (sg.length+1) [k] s).bind fun q=>Ba ⟨10,[],q.1,false⟩ q.2 else some (k,s)) (Dp (f:=pE sg (n+1) .value) h) h1.1 (fun _ _=>rfl)
 have k2:=Dy k1 (g':=fun s=>some (z.1,s)) (fun s hs=>by rw[if_neg (by simp [Et hs hq])])
 exact⟨FC k2,h1.2⟩
theorem a8X{sg:List Sg}{x:Gs}{n:Nat}{z:Int×Gs}(h:gsOk sg x)(h1:Af sg x (pE sg n .pick) z)(hq:isG sg z.2 4 [46,46]=true):Ka sg n x z.2 [z.1] (sg.length+1):=by
 have k1:=BJ (k:=fun k s=>if isM sg s [46,46] then(EW sg (pE sg n .value) (sg.length+1) [k] s).bind fun q=>Ba ⟨10,[],q.1,false⟩ q.2 else some (k,s)) (Dp (f:=pE sg (n+1) .value) h) h1.1 (fun _ _=>rfl)
 have k2:=Dy k1 (g':=fun s=>(EW sg (pE sg n .value) (sg.length+1) [z.1] s).bind fun q=>Ba ⟨10,[],q.1,false⟩ q.2) (fun s hs=>by rw[if_pos (HC hs hq)])
 have:=k2.1.1
 exact⟨k2,by omega,by simp;omega,h1.2⟩
theorem a8Y{sg:List Sg}{x y:Gs}{n N:Nat}{ks:List Int}{w:Int×Gs}(hs:sgB sg)(h:Ka sg n x y ks N)(hq:isG sg y 4 [46,46]=true)
 (h2:Af sg (Cz sg (Ai y)) (CP sg (pE sg n .value) (Dj sg (Ai y))) w):∃M,N=M+1∧Ka sg n x w.2 (ks++[w.1]) M:=by
 obtain⟨h1,hN,hk,hb⟩:=h
 obtain⟨hl1,hl⟩:=Cy hq (by omega)
 match N with
 |0=>omega
 |M+1=>
  refine⟨M,rfl,?_⟩
  have k1:=Gb (g':=fun s=>((Bz sg s).bind fun p=>(CP sg (pE sg n .value) p.1 p.2).bind fun q=>EW sg (pE sg n .value) M (ks++[q.1]) q.2).bind fun q=>Ba ⟨10,[],q.1,false⟩ q.2)
   h1 (by omega) hq (fun s hs ht=>by rw[EW,if_pos (show isM sg s [46,46]=true from ht)])
  have k2:=BJ (k:=fun k s=>((CP sg (pE sg n .value) k s).bind fun q=>EW sg (pE sg n .value) M (ks++[q.1]) q.2).bind fun q=>Ba ⟨10,[],q.1,false⟩ q.2) k1 (IZ hs k1.1).1 (fun s _=>by simp only[Option.bind_assoc])
  have k3:=BJ (k:=fun k s=>(EW sg (pE sg n .value) M (ks++[k]) s).bind fun q=>Ba ⟨10,[],q.1,false⟩ q.2) k2 h2.1 (fun s _=>by simp only[Option.bind_assoc])
  have e0:(Ai y).pos≤(Cz sg (Ai y)).pos:=(IZ hs k1.1).1.2.2.1
  have e1:=CC h2
  have ea:(Ai y).pos=y.pos+1:=rfl
  refine⟨k3,by omega,by simp;omega,fun hb2=> ?_⟩
  have:=h1.2.2.1
  omega
theorem a8Z{sg:List Sg}{x y:Gs}{n N:Nat}{ks:List Int}(h:Ka sg n x y ks N)(hq:isG sg y 4 [46,46]=false)(hs:sgB sg):Af sg x (pE sg (n+1) .value) (Ax y,Ag y ⟨10,[],ks,false⟩):=by
 obtain⟨h1,hN,hk,hb⟩:=h
 have hp:=h1.1.1
 match N with
 |0=>omega
 |M+1=>
  have k1:=Dy h1 (g':=Ba ⟨10,[],ks,false⟩) (fun s hs=>by rw[EW,if_neg (by simp [Et hs hq])];rfl)
  have:=hs.1
  refine⟨Qn k1 ⟨by simp,by simp only;omega⟩,fun hb2=> ?_⟩
  obtain⟨d1,d2,d3⟩:= @Hb y ⟨10,[],ks,false⟩
  simp only[d2];exact hb (d3 hb2)
theorem ZT{sg:List Sg}{one:Ps→PR}{m:List UInt8}{a:List Int}:∀(n:Nat) (ks:List Int) (s:Ps),Bl sg one m n (a++ks) s=(Bl sg one m n ks s).map fun p=>(a++p.1,p.2)
 |0,ks,s=>rfl
 |n+1,ks,s=>by
  rw[Bl,Bl]
  split
  ·rfl
  ·cases one s with
   |none=>rfl
   |some p=>
    simp only[Option.bind_some]
    split
    ·rw[List.append_assoc,ZT n (ks++[p.1])]
    ·simp
def EJ(sg:List Sg)(one:Ps→PR)(m:List UInt8)(x y:Gs)(ks:List Int)(N:Nat):Prop:=
 restP sg x (Bl sg one m (sg.length+1) []) y (Bl sg one m N ks) 0∧(sg.length:Int)-y.pos<N∧(ks.length:Int)≤y.pos
theorem Uo{sg:List Sg}{one:Ps→PR}{m:List UInt8}{x:Gs}(h:gsOk sg x):EJ sg one m x x [] (sg.length+1):=by
 have:=h.1
 exact⟨Dp h,by omega,by simp;omega⟩
theorem Up{sg:List Sg}{one:Ps→PR}{m:List UInt8}{x y:Gs}{ks:List Int}{N:Nat}(h:EJ sg one m x y ks N)(hb:y.bad=true):Bm sg x (Bl sg one m (sg.length+1) []) (ks,y):=Oc h.1 hb
theorem Uq{sg:List Sg}{one:Ps→PR}{m:List UInt8}{x y:Gs}{ks:List Int}{N:Nat}(h:EJ sg one m x y ks N)(hq:isG sg y 4 m=true):Bm sg x (Bl sg one m (sg.length+1) []) (ks,y):=by
 obtain⟨h1,hN,hk⟩:=h
 have:=h1.1.1
 match N with
 |0=>omega
 |M+1=>exact FC (Dy h1 (g':=fun s=>some (ks,s)) (fun s hs=>a8P (HC hs hq)))
theorem ZU{sg:List Sg}{one:Ps→PR}{m:List UInt8}{x y:Gs}{ks:List Int}{M:Nat}{z:Int×Gs}(h:EJ sg one m x y ks (M+1))(hq:isG sg y 4 m=false)(hz:Af sg y one z):
 restP sg x (Bl sg one m (sg.length+1) []) z.2 (fun s=>if isM sg s [44] then Bl sg one m M (ks++[z.1]) (adv s) else some (ks++[z.1],s)) 0:=by
 have k1:=Dy h.1 (g':=fun s=>(one s).bind fun p=>if isM sg p.2 [44] then Bl sg one m M (ks++[p.1]) (adv p.2) else some (ks++[p.1],p.2)) (fun s hs=>a8Q (Et hs hq))
 exact BJ (k:=fun k s=>if isM sg s [44] then Bl sg one m M (ks++[k]) (adv s) else some (ks++[k],s)) k1 hz.1 (fun _ _=>rfl)
theorem ZV{sg:List Sg}{one:Ps→PR}{m:List UInt8}{x y:Gs}{ks:List Int}{N:Nat}(h:EJ sg one m x y ks N):∃M,N=M+1:=by
 obtain⟨h1,hN,hk⟩:=h
 have:=h1.1.1
 match N with
 |0=>omega
 |M+1=>exact⟨M,rfl⟩
theorem a9a{sg:List Sg}{one:Ps→PR}{m:List UInt8}{x y:Gs}{ks:List Int}{N:Nat}{z:Int×Gs}(h:EJ sg one m x y ks N)(hq:isG sg y 4 m=false)(hz:Af sg y one z)(hc:isG sg z.2 4 [44]=false):
 Bm sg x (Bl sg one m (sg.length+1) []) (ks++[z.1],z.2):=by
 obtain⟨M,rfl⟩:=ZV h
 exact FC (Dy (ZU h hq hz) (g':=fun s=>some (ks++[z.1],s)) (fun s hs=>by rw[if_neg (by simp [Et hs hc])]))
theorem a9b{sg:List Sg}{one:Ps→PR}{m:List UInt8}{x y:Gs}{ks:List Int}{N:Nat}{z:Int×Gs}(h:EJ sg one m x y ks N)(hq:isG sg y 4 m=false)(hz:Af sg y one z)(hc:isG sg z.2 4 [44]=true):
 ∃M,N=M+1∧EJ sg one m x (Ai z.2) (ks++[z.1]) M:=by
 obtain⟨M,rfl⟩:=ZV h
 have k1:=Gb (g':=Bl sg one m M (ks++[z.1])) (ZU h hq hz) (by omega) hc (fun s hs ht=>by rw[if_pos (show isM sg s [44]=true from ht)])
 have e:=CC hz
 obtain⟨h1,hN,hk⟩:=h
 refine⟨M,rfl,k1,?_,?_⟩
 ·simp only[Ai];omega
 ·simp only[Ai,List.length_append,List.length_cons,List.length_nil];omega
theorem a9c{sg:List Sg}{val:Ps→PR}{x:Gs}{k:Int}{l:List Int×Gs}(hx:gsOk sg x)(hl:Bm sg (Al sg x [40]) (Bl sg val [41] (sg.length+1) []) l)(hll:l.1.length≤3001):
 Af sg x (CP sg val k) (BB sg l.2 [41],Bs sg l.2 [41] ⟨5,[],k::l.1,false⟩):=by
 have k1:=Ha (g':=fun s=>(Bl sg val [41] (sg.length+1) [k] s).bind fun p=>Bo sg [41] ⟨5,[],p.1,false⟩ p.2) (Dp (f:=CP sg val k) hx) (fun _ _=>rfl)
 have k2:=BJ (k:=fun ks s=>Bo sg [41] ⟨5,[],k::ks,false⟩ s) k1 hl (fun s _=>by
  rw[show([k]:List Int)=[k]++[] from rfl,ZT]
  cases Bl sg val [41] (sg.length+1) [] s<;>rfl)
 have hw:Cv ⟨5,[],k::l.1,false⟩:=⟨by simp,by simp;omega⟩
 refine⟨Qo k2 hw,fun hb=> ?_⟩
 have:=(JW (m:=[41]) hl.1 hw).2 hb
 have e1:=hl.2.2.1
 have e2:=(MB (m:=[40]) hx).1.2.2.1
 simp only at this ⊢
 omega
end Go.My
end
section
set_option linter.unusedVariables false
set_option linter.unusedSimpArgs false
namespace Go.My
open Go.Eng
def chF(sg:List Sg)(n l N:Nat)(t:List UInt8)(ks:List Int):Ps→PR:=Ed sg l (pE sg n (.chain (l+1))) N t ks
def chO(sg:List Sg)(n l:Nat)(x y:Gs)(k:Int)(N:Nat):Prop:=
 restP sg x (pE sg (n+1) (.chain l)) y (chF sg n l N [] [k]) 0∧2*((sg.length:Int)-y.pos)+3≤N∧(y.bad=false→x.pos<y.pos)
def chN(sg:List Sg)(n l:Nat)(m:List UInt8)(x y:Gs)(ks:List Int)(N:Nat):Prop:=
 restP sg x (pE sg (n+1) (.chain l)) y (chF sg n l N m ks) 0∧(2*((sg.length:Int)-y.pos)+4≤N∨(isG sg y 4 m=true∧2*((sg.length:Int)-y.pos)+3≤N))∧(ks.length:Int)≤y.pos+1∧(y.bad=false→x.pos<y.pos)
theorem a9d{sg:List Sg}{x:Gs}{n:Nat}{z:Int×Gs}(h1:Af sg x (pE sg n .fin) z):Af sg x (pE sg (n+1) (.chain 6)) z:=h1
theorem ZW{sg:List Sg}{x:Gs}{n l:Nat}{z:Int×Gs}(h:gsOk sg x)(hl:l≠6)(h1:Af sg x (pE sg n (.chain (l+1))) z):chO sg n l x z.2 z.1 (2*sg.length+4):=by
 have k1:=Dy (Dp (f:=pE sg (n+1) (.chain l)) h) (g':=fun s=>(pE sg n (.chain (l+1)) s).bind fun p=>Ed sg l (pE sg n (.chain (l+1))) (2*sg.length+4) [] [p.1] p.2) (fun s _=>by rw[a8S,if_neg hl])
 have k2:=BJ (k:=fun k s=>chF sg n l (2*sg.length+4) [] [k] s) k1 h1.1 (fun _ _=>rfl)
 have:=k2.1.1
 exact⟨k2,by omega,h1.2⟩
def BC(sg:List Sg)(l:Nat)(g:Gs):List UInt8:=((Bu l).find? fun m=>isG sg g 4 m).getD []
theorem FD{sg:List Sg}{l:Nat}{g:Gs}{s:Ps}(hs:pur g=some s):FB sg l s=BC sg l g:=by
 unfold FB BC
 congr 2
 funext m
 exact(Qg hs).symm
theorem chMG_t{sg:List Sg}{l:Nat}{g:Gs}(hb:g.bad=true):BC sg l g=[]:=by
 unfold BC
 rw[List.find?_eq_none.2 (by intro m _;rw[ZD (DJ hb) (by omega)];simp)];rfl
theorem Qp{l:Nat}{m:List UInt8}(h:m∈Bu l):m≠[]:=by
 unfold Bu at h
 split at h<;>simp at h<;>(first|(subst h;simp)|(rcases h with rfl|rfl<;>simp))
theorem Hc{sg:List Sg}{l:Nat}{g:Gs}(h:BC sg l g≠[]):isG sg g 4 (BC sg l g)=true∧BC sg l g∈Bu l:=by
 unfold BC at h ⊢
 cases hf:(Bu l).find? fun m=>isG sg g 4 m with
 |none=>rw[hf] at h;exact(h rfl).elim
 |some m=>exact⟨by simpa using List.find?_some hf,by simpa using List.mem_of_find?_eq_some hf⟩
theorem a9e{sg:List Sg}{g:Gs}{m m':List UInt8}(h:isG sg g 4 m=true)(h':isG sg g 4 m'=true):m=m':=by
 simp [isG] at h h';rw[←h.2,h'.2]
theorem ZX{sg:List Sg}{l:Nat}{g:Gs}{m:List UInt8}(hm:m∈Bu l)(h:isG sg g 4 m=true):BC sg l g=m:=by
 unfold BC
 cases hf:(Bu l).find? fun m=>isG sg g 4 m with
 |none=>exact(List.find?_eq_none.1 hf m hm (by simpa using h)).elim
 |some m'=>exact(a9e (by simpa using List.find?_some hf) h)
theorem a9f{sg:List Sg}{n l:Nat}{x y:Gs}{k:Int}{N:Nat}(h:chO sg n l x y k N)(hm:BC sg l y=[]):Af sg x (pE sg (n+1) (.chain l)) (k,y):=by
 obtain⟨h1,hN,hb⟩:=h
 have:=h1.1.1
 match N with
 |0=>omega
 |N+1=>
  exact⟨FC (Dy h1 (g':=fun s=>some (k,s)) (fun s hs=>by rw[chF,Ed,if_neg (by simp),if_pos (by rw[FD hs,hm])];rfl)),hb⟩
theorem a9g{sg:List Sg}{n l:Nat}{x y:Gs}{k:Int}{N:Nat}(h:chO sg n l x y k N)(hm:BC sg l y≠[]):chN sg n l (BC sg l y) x y [k] N:=by
 obtain⟨h1,hN,hb⟩:=h
 have:=h1.1.1
 match N with
 |0=>omega
 |N+1=>
  refine⟨Dy h1 (fun s hs=> ?_),.inr ⟨(Hc hm).1,hN⟩,by simp;omega,hb⟩
  rw[chF,chF,Ed,Ed,if_neg (by simp),if_neg (by rw[FD hs];exact hm),if_neg (by rw[FD hs];simp)]
theorem a9h{sg:List Sg}{n l:Nat}{m:List UInt8}{x y:Gs}{ks:List Int}{N:Nat}{z:Int×Gs}(hml:m∈Bu l)(h:chN sg n l m x y ks N)(hq:isG sg y 4 m=true)(hz:Af sg (Ai y) (pE sg n (.chain (l+1))) z):
 ∃M,N=M+1∧chN sg n l m x z.2 (ks++[z.1]) M:=by
 obtain⟨h1,hN,hk,hb⟩:=h
 have hp:=h1.1.1
 have hN2:2*((sg.length:Int)-y.pos)+3≤N:=by rcases hN with h|h<;>omega
 match N with
 |0=>omega
 |M+1=>
  refine⟨M,rfl,?_⟩
  have hmg:=ZX hml hq
  have k1:=Gb (g':=fun s=>(pE sg n (.chain (l+1)) s).bind fun p=>chF sg n l M m (ks++[p.1]) p.2) h1 (by omega) hq (fun s hs ht=>by
   rw[chF,Ed,if_neg (by rw[FD hs,hmg];simp),if_neg (by rw[FD hs,hmg];exact Qp hml),FD hs,hmg];rfl)
  have k2:=BJ (k:=fun k s=>chF sg n l M m (ks++[k]) s) k1 hz.1 (fun _ _=>rfl)
  have e:=CC hz
  simp only[Ai] at e
  have:=h1.2.2.1
  refine⟨k2,.inl (by omega),by simp;omega,fun hb2=>by omega⟩
theorem a9i{sg:List Sg}{n l:Nat}{m:List UInt8}{x y:Gs}{ks:List Int}{N:Nat}(hml:m∈Bu l)(hs:sgB sg)(h:chN sg n l m x y ks N)(hq:isG sg y 4 m=false):
 ∃M,N=M+1∧chO sg n l x (Ag y ⟨7,m,ks,false⟩) (Ax y) M:=by
 obtain⟨h1,hN,hk,hb⟩:=h
 have hp:=h1.1.1
 have hN2:2*((sg.length:Int)-y.pos)+4≤N:=by
  rcases hN with h|h
  ·exact h
  ·rw[hq] at h;cases h.1
 match N with
 |0=>omega
 |M+1=>
  have hw:Cv ⟨7,m,ks,false⟩:=by
   refine⟨?_,by have:=hs.1;simp only;omega⟩
   simp only
   unfold Bu at hml
   split at hml<;>simp at hml<;>(first|(subst hml;simp)|(rcases hml with rfl|rfl<;>simp))
  have k1:=Dy h1 (g':=fun s=>(Ba ⟨7,m,ks,false⟩ s).bind fun p=>chF sg n l M [] [p.1] p.2) (fun s hs=>by
   rw[chF,Ed,if_pos ⟨Qp hml,fun e=>by
    rw[FD hs] at e
    have:=(Hc (sg:=sg) (l:=l) (g:=y) (by rw[e];exact Qp hml)).1
    rw[e,hq] at this;cases this⟩];rfl)
  have k2:=BJ (k:=fun k s=>chF sg n l M [] [k] s) k1 (NX h1.1 hw) (fun _ _=>rfl)
  obtain⟨d1,d2,d3⟩:= @Hb y ⟨7,m,ks,false⟩
  refine⟨M,rfl,k2,by rw[d2];omega,fun hb2=>by rw[d2];exact hb (d3 hb2)⟩
def enI(sg:List Sg)(n:Nat)(x y:Gs)(k:Int)(N:Nat):Prop:=
 restP sg x (pE sg (n+1) .fin) y (Fj sg (pE sg n .value) N k) 0∧(y.bad=false→(sg.length:Int)-y.pos<N)∧(y.bad=false→x.pos<y.pos)
theorem a9j{sg:List Sg}{x:Gs}{n:Nat}{z:Int×Gs}(h:gsOk sg x)(h1:Af sg x (pE sg n .base) z):enI sg n x z.2 z.1 (sg.length+1):=by
 have k1:=BJ (k:=fun k s=>Fj sg (pE sg n .value) (sg.length+1) k s) (Dp (f:=pE sg (n+1) .fin) h) h1.1 (fun _ _=>rfl)
 have:=k1.1.1
 exact⟨k1,fun _=>by omega,h1.2⟩
theorem Oe{sg:List Sg}{n:Nat}{x y:Gs}{k:Int}{N:Nat}(h:enI sg n x y k N)(hb:y.bad=false):∃M,N=M+1:=by
 have h1:=h.1.1.1;have h2:=h.2.1 hb
 match N with
 |0=>omega
 |M+1=>exact⟨M,rfl⟩
theorem ZY{sg:List Sg}{n:Nat}{x y:Gs}{k a:Int}{N:Nat}(h:enI sg n x y k N)(hb:y.bad=true):Af sg x (pE sg (n+1) .fin) (a,y):=
 ⟨Oc h.1 hb,fun hb2=>by simp only at hb2;rw[hb] at hb2;cases hb2⟩
theorem a9k{sg:List Sg}{n:Nat}{x y:Gs}{k:Int}{N:Nat}{w:Int×Gs}(h:enI sg n x y k N)(hq:isG sg y 4 [40]=true)(hw:Af sg y (CP sg (pE sg n .value) k) w):
 ∃M,N=M+1∧enI sg n x w.2 w.1 M:=by
 have hl:=Cy hq (by omega)
 obtain⟨M,rfl⟩:=Oe h hl.1
 obtain⟨h1,hN,hb⟩:=h
 have k1:=Dy h1 (g':=fun s=>(CP sg (pE sg n .value) k s).bind fun p=>Fj sg (pE sg n .value) M p.1 p.2) (fun s hs=>by rw[Fj,if_pos (HC hs hq)])
 have k2:=BJ (k:=fun k s=>Fj sg (pE sg n .value) M k s) k1 hw.1 (fun _ _=>rfl)
 have e:=CC hw
 have hN2:=hN hl.1;have hb2:=hb hl.1
 exact⟨M,rfl,k2,fun hwb=>by have:=e.2.2.2 hwb;omega,fun hwb=>by have:=e.2.2.2 hwb;omega⟩
theorem ZZ{sg:List Sg}{n:Nat}{x y:Gs}{k:Int}{N:Nat}(hs:sgB sg)(h:enI sg n x y k N)(hp:isG sg y 4 [40]=false)(hq:isG sg y 4 [46]=true)(hn:nmG sg (Ai y) 0=true):
 ∃M,N=M+1∧enI sg n x (BX (Ag (Ai y) ⟨6,(pkG sg (Ai y) 0).text,[k],false⟩)) (Ax (Ai y)) M:=by
 have hl:=Cy hq (by omega)
 obtain⟨M,rfl⟩:=Oe h hl.1
 obtain⟨h1,hN,hb⟩:=h
 have hw:Cv ⟨6,(pkG sg (Ai y) 0).text,[k],false⟩:=⟨JX hs,by simp⟩
 have hn2:=Iq hn
 have k1:=Gb (g':=fun s=>(En (Ba ⟨6,(pkG sg (Ai y) 0).text,[k],false⟩ s)).bind fun p=>Fj sg (pE sg n .value) M p.1 p.2) h1 (by omega) hq (fun s hs ht=>by
  obtain⟨hb0,rfl⟩:=Ep.1 hs
  rw[Fj,if_neg (by simp [Et hs hp]),if_pos (show isM sg _ [46]=true from ht)]
  have e1:Dh sg (y.pos+1)=true:=by
   have:=JV (sg:=sg) (n:=0) (g:=Ai y) (CX hn2.1)
   rw[hn] at this;simpa [Ai] using this.symm
  have e2:(pkG sg (Ai y) 0)=sgO sg (y.pos+1):=by rw[GA hn2.1];simp [Ai]
  rw[if_pos e1,e2])
 have hg:=Ui k1.1 hw (fun _=>by omega)
 have k2:=BJ (k:=fun k s=>Fj sg (pE sg n .value) M k s) k1 hg.1 (fun _ _=>rfl)
 have e:=CC hg
 have hN2:=hN hl.1;have hb2:=hb hl.1
 simp only[Ai] at e
 exact⟨M,rfl,k2,fun hwb=>by have:=e.2.2.2 hwb;simp only[Ai] at*;omega,fun hwb=>by have:=e.2.2.2 hwb;simp only[Ai] at*;omega⟩
theorem a0a{sg:List Sg}{n:Nat}{x y:Gs}{k a:Int}{N:Nat}(h:enI sg n x y k N)(hp:isG sg y 4 [40]=false)(hq:isG sg y 4 [46]=true)(hn:nmG sg (Ai y) 0=false):
 Af sg x (pE sg (n+1) .fin) (a,Bd (Ai y)):=by
 have hl:=Cy hq (by omega)
 obtain⟨M,rfl⟩:=Oe h hl.1
 obtain⟨h1,hN,hb⟩:=h
 have k1:=Gb (g':=fun _=>none) h1 (by omega) hq (fun s hs ht=>by
  obtain⟨hb0,rfl⟩:=Ep.1 hs
  rw[Fj,if_neg (by simp [Et hs hp]),if_pos (show isM sg _ [46]=true from ht)]
  have e1:Dh sg (y.pos+1)=false:=by
   have:=JV (sg:=sg) (n:=0) (g:=Ai y) (CX (by simpa [Ai] using hb0))
   rw[hn] at this;simpa [Ai] using this.symm
  rw[if_neg (by simp [e1])])
 exact⟨ZM k1 (fun _ _=>rfl),fun hb2=>by simp [Bd] at hb2⟩
theorem a0b{sg:List Sg}{n:Nat}{x y:Gs}{k:Int}{N:Nat}(h:enI sg n x y k N)(hb:y.bad=false)(hp:isG sg y 4 [40]=false)(hq:isG sg y 4 [46]=false):Af sg x (pE sg (n+1) .fin) (k,y):=by
 obtain⟨M,rfl⟩:=Oe h hb
 exact⟨FC (Dy h.1 (g':=fun s=>some (k,s)) (fun s hs=>by rw[Fj,if_neg (by simp [Et hs hp]),if_neg (by simp [Et hs hq])])),h.2.2⟩
theorem Qq{sg:List Sg}{g:Gs}{s:Ps}(hs:pur g=some s):(pkG sg g 0).kind=(sgO sg s.pos).kind:=by
 obtain⟨h,rfl⟩:=Ep.1 hs
 rw[GA h];simp
theorem Of{sg:List Sg}{g:Gs}(h:(pkG sg g 0).kind≠0):g.bad=false∧g.pos<sg.length:=by
 unfold pkG at h
 split at h
 ·simp [Ec] at h
 ·rename_i hh;simp only[Int.add_zero] at hh;exact⟨by cases hb:g.bad<;>simp_all,by omega⟩
theorem Ur{sg:List Sg}{x:Gs}{n:Nat}(hs:sgB sg)(h:gsOk sg x)(hk:(pkG sg x 0).kind=1):Af sg x (pE sg (n+1) .base) (Dj sg x,Cz sg x):=by
 obtain⟨a,b⟩:=IZ hs h
 have e:(pur x).bind (pE sg (n+1) .base)=(pur x).bind (Bz sg):=by
  cases hp:pur x with
  |none=>rfl
  |some s=>simp only[Option.bind_some];rw[pE,if_pos (by rw[←Qq hp];exact hk)]
 obtain⟨a1,a2,a3,a4,a5⟩:=a
 exact⟨⟨a1,a2,a3,by rw[e];exact a4,by rw[e];exact a5⟩,b⟩
theorem Us{sg:List Sg}{x:Gs}{n:Nat}{k:Int}(hs:sgB sg)(h:gsOk sg x)(hk:(pkG sg x 0).kind=k)(hk2:k=2∨k=3):Af sg x (pE sg (n+1) .base) (Ax x,CY sg x k false):=by
 have hl:=Of (sg:=sg) (g:=x) (by rw[hk];omega)
 obtain⟨a,b⟩:=NY (k:=k) (b:=false) hs h (fun _=>hl.2)
 have e:(pur x).bind (pE sg (n+1) .base)=(pur x).bind (DU sg k false):=by
  cases hp:pur x with
  |none=>rfl
  |some s=>
   simp only[Option.bind_some]
   have:=Qq (sg:=sg) hp
   rcases hk2 with rfl|rfl
   ·rw[pE,if_neg (by omega),if_pos (by omega)]
   ·rw[pE,if_neg (by omega),if_neg (by omega),if_pos (by omega)]
 obtain⟨a1,a2,a3,a4,a5⟩:=a
 exact⟨⟨a1,a2,a3,by rw[e];exact a4,by rw[e];exact a5⟩,b⟩
theorem MF{sg:List Sg}{x:Gs}{s:Ps}{n:Nat}(hs:pur x=some s)(h1:(pkG sg x 0).kind≠1)(h2:(pkG sg x 0).kind≠2)(h3:(pkG sg x 0).kind≠3):pE sg (n+1) .base s=
 if isM sg s [91] then(Bl sg (pE sg n .value) [93] (sg.length+1) [] (adv s)).bind fun p=>Bo sg [93] ⟨4,[],p.1,false⟩ p.2
 else if isM sg s [40]&&Eo sg s then(Bl sg (Bz sg) [41] (sg.length+1) [] (adv s)).bind fun p=>(BF sg [41] p.2).bind fun s1=>(BF sg [61,62] s1).bind fun s2=>(pE sg n .pick s2).bind fun q=>Ba ⟨9,[],p.1++[q.1],false⟩ q.2
 else if isM sg s [40] then(pE sg n .value (adv s)).bind fun p=>Bo sg [41] ⟨11,[],[p.1],false⟩ p.2
 else none:=by
 have:=Qq (sg:=sg) hs
 rw[pE,if_neg (by omega),if_neg (by omega),if_neg (by omega)]
theorem a0c{sg:List Sg}{x:Gs}{n:Nat}{l:List Int×Gs}(h:gsOk sg x)(h1:(pkG sg x 0).kind≠1)(h2:(pkG sg x 0).kind≠2)(h3:(pkG sg x 0).kind≠3)(hq:isG sg x 4 [91]=true)
 (hl:Bm sg (Ai x) (Bl sg (pE sg n .value) [93] (sg.length+1) []) l) (hll:l.1.length≤3001):
 Af sg x (pE sg (n+1) .base) (BB sg l.2 [93],Bs sg l.2 [93] ⟨4,[],l.1,false⟩):=by
 have k1:=Gb (g':=fun s=>(Bl sg (pE sg n .value) [93] (sg.length+1) [] s).bind fun p=>Bo sg [93] ⟨4,[],p.1,false⟩ p.2) (Dp (f:=pE sg (n+1) .base) h) (by omega) hq
  (fun s hs ht=>by rw[MF hs h1 h2 h3,if_pos (show isM sg s [91]=true from ht)])
 have k2:=BJ (k:=fun ks s=>Bo sg [93] ⟨4,[],ks,false⟩ s) k1 hl (fun _ _=>rfl)
 have hw:Cv ⟨4,[],l.1,false⟩:=⟨by simp,by simp only;omega⟩
 refine⟨Qo k2 hw,fun hb=> ?_⟩
 have:=(JW (m:=[93]) hl.1 hw).2 hb
 have e1:=hl.2.2.1
 simp only[Ai] at this e1 ⊢
 omega
theorem a0d{sg:List Sg}{x:Gs}{n:Nat}{z:Int×Gs}(h:gsOk sg x)(h1:(pkG sg x 0).kind≠1)(h2:(pkG sg x 0).kind≠2)(h3:(pkG sg x 0).kind≠3)(hn:isG sg x 4 [91]=false)(hq:isG sg x 4 [40]=true)
 (ha:∀s,pur x=some s→Eo sg s=false) (hz:Af sg (Ai x) (pE sg n .value) z):
 Af sg x (pE sg (n+1) .base) (BB sg z.2 [41],Bs sg z.2 [41] ⟨11,[],[z.1],false⟩):=by
 have k1:=Gb (g':=fun s=>(pE sg n .value s).bind fun p=>Bo sg [41] ⟨11,[],[p.1],false⟩ p.2) (Dp (f:=pE sg (n+1) .base) h) (by omega) hq
  (fun s hs ht=>by rw[MF hs h1 h2 h3,if_neg (by simp [Et hs hn]),if_neg (by simp [ha s hs]),if_pos (show isM sg s [40]=true from ht)])
 have k2:=BJ (k:=fun k s=>Bo sg [41] ⟨11,[],[k],false⟩ s) k1 hz.1 (fun _ _=>rfl)
 have hw:Cv ⟨11,[],[z.1],false⟩:=⟨by simp,by simp⟩
 refine⟨Qo k2 hw,fun hb=> ?_⟩
 have:=(JW (m:=[41]) hz.1.1 hw).2 hb
 have e1:=hz.1.2.2.1
 simp only[Ai] at this e1 ⊢
 omega
theorem a0e{sg:List Sg}{x:Gs}{n:Nat}{a:Int}(h:gsOk sg x)(h1:(pkG sg x 0).kind≠1)(h2:(pkG sg x 0).kind≠2)(h3:(pkG sg x 0).kind≠3)(hn:isG sg x 4 [91]=false)(hq:isG sg x 4 [40]=false):
 Af sg x (pE sg (n+1) .base) (a,Bd x):=
 ⟨ZM (Dp h) (fun s hs=>by rw[MF hs h1 h2 h3,if_neg (by simp [Et hs hn]),if_neg (by simp [Et hs hq]),if_neg (by simp [Et hs hq])]),fun hb=>by simp [Bd] at hb⟩
def fnR(sg:List Sg)(n:Nat)(s:Ps):PR:=(BF sg [40] s).bind fun s0=>(Bl sg (Bz sg) [41] (sg.length+1) [] s0).bind fun p=>(BF sg [41] p.2).bind fun s1=>(BF sg [61,62] s1).bind fun s2=>(pE sg n .pick s2).bind fun q=>Ba ⟨9,[],p.1++[q.1],false⟩ q.2
theorem a9l{sg:List Sg}{x:Gs}{n:Nat}{z:Int×Gs}(h1:(pkG sg x 0).kind≠1)(h2:(pkG sg x 0).kind≠2)(h3:(pkG sg x 0).kind≠3)(hn:isG sg x 4 [91]=false)(hq:isG sg x 4 [40]=true)
 (ha:∀s,pur x=some s→Eo sg s=true) (hz:Af sg x (fnR sg n) z):Af sg x (pE sg (n+1) .base) z:=by
 have e:(pur x).bind (pE sg (n+1) .base)=(pur x).bind (fnR sg n):=by
  cases hp:pur x with
  |none=>rfl
  |some s=>
   simp only[Option.bind_some]
   rw[MF hp h1 h2 h3,if_neg (by simp [Et hp hn]),if_pos (by simp [HC hp hq,ha s hp]),fnR,BF,if_pos (HC hp hq)];rfl
 obtain⟨⟨a1,a2,a3,a4,a5⟩,b⟩:=hz
 exact⟨⟨a1,a2,a3,by rw[e];exact a4,by rw[e];exact a5⟩,b⟩
theorem a0f{sg:List Sg}{x:Gs}{n:Nat}{l:List Int×Gs}{z:Int×Gs}(h:gsOk sg x)(hl:Bm sg (Al sg x [40]) (Bl sg (Bz sg) [41] (sg.length+1) []) l)(hll:l.1.length≤3001)
 (hz:Af sg (Al sg (Al sg l.2 [41]) [61,62]) (pE sg n .pick) z):Af sg x (fnR sg n) (Ax z.2,Ag z.2 ⟨9,[],l.1++[z.1],false⟩):=by
 have k1:=Ha (g':=fun s0=>(Bl sg (Bz sg) [41] (sg.length+1) [] s0).bind fun p=>(BF sg [41] p.2).bind fun s1=>(BF sg [61,62] s1).bind fun s2=>(pE sg n .pick s2).bind fun q=>Ba ⟨9,[],p.1++[q.1],false⟩ q.2) (Dp (f:=fnR sg n) h) (fun _ _=>rfl)
 have k2:=BJ (k:=fun ks s=>(BF sg [41] s).bind fun s1=>(BF sg [61,62] s1).bind fun s2=>(pE sg n .pick s2).bind fun q=>Ba ⟨9,[],ks++[q.1],false⟩ q.2) k1 hl (fun _ _=>rfl)
 have k3:=Ha (g':=fun s1=>(BF sg [61,62] s1).bind fun s2=>(pE sg n .pick s2).bind fun q=>Ba ⟨9,[],l.1++[q.1],false⟩ q.2) k2 (fun _ _=>rfl)
 have k4:=Ha (g':=fun s2=>(pE sg n .pick s2).bind fun q=>Ba ⟨9,[],l.1++[q.1],false⟩ q.2) k3 (fun _ _=>rfl)
 have k5:=BJ (k:=fun k s=>Ba ⟨9,[],l.1++[k],false⟩ s) k4 hz.1 (fun _ _=>rfl)
 have hw:Cv ⟨9,[],l.1++[z.1],false⟩:=⟨by simp,by simp;omega⟩
 refine⟨Qn k5 hw,fun hb=> ?_⟩
 obtain⟨d1,d2,d3⟩:= @Hb z.2 ⟨9,[],l.1++[z.1],false⟩
 have e1:=CC hz
 have e2:=k4.2.2.1
 have:=e1.2.2.2 (d3 hb)
 simp only[d2];omega
end Go.My
end
section
set_option linter.unusedVariables false
set_option linter.unusedSimpArgs false
namespace Go.My
open Go.Eng Go.Proofs
variable {G:GInv}
abbrev iG {α:Type} (i:Int×Int×Bool×List Nd×α×Nat):Gs:=⟨i.1,i.2.1,i.2.2.1,i.2.2.2.1⟩
def vP(r n:Nat)(s:ST)(g:Gs):Prop:=(rOk s g∧g.deep≤20)∧12*((s.sg.length:Int)-g.pos)+r≤n
def wP(r n:Nat)(s:ST)(g:Gs):Prop:=(rOk s g∧(g.bad=false→g.deep≤20))∧12*((s.sg.length:Int)-g.pos)+r≤n
def Kb(n:Nat):Sig:= {X:=ST×Int×Int×Bool×List Nd,args:=fun x=>[rdG x.1 (xg x)],pre:=fun x=>vP 11 n x.1 (xg x),Y:=Int×Int×Int×Bool×List Nd,post:=fun x y=>Af x.1.sg (xg x) (pE x.1.sg n .value) (yS y),res:=fun x y=> .int .i64 y.1,outs:=fun x y=>[rdG x.1 (yG y.2)],keep:=true}
def HD(n:Nat):Sig:= {X:=ST×Int×Int×Bool×List Nd,args:=fun x=>[rdG x.1 (xg x)],pre:=fun x=>vP 10 n x.1 (xg x),Y:=Int×Int×Int×Bool×List Nd,post:=fun x y=>Af x.1.sg (xg x) (pE x.1.sg n .pick) (yS y),res:=fun x y=> .int .i64 y.1,outs:=fun x y=>[rdG x.1 (yG y.2)],keep:=true}
def Kc(n:Nat):Sig:= {X:=ST×Int×Int×Bool×List Nd×Int,args:=fun x=>[rdG x.1 (xh x),.int .i64 x.2.2.2.2.2],pre:=fun x=>wP (9-x.2.2.2.2.2.toNat) n x.1 (xh x)∧0≤x.2.2.2.2.2∧x.2.2.2.2.2≤6,Y:=Int×Int×Int×Bool×List Nd,post:=fun x y=>Af x.1.sg (xh x) (pE x.1.sg n (.chain x.2.2.2.2.2.toNat)) (yS y),res:=fun x y=> .int .i64 y.1,outs:=fun x y=>[rdG x.1 (yG y.2),.top],keep:=true}
def Qr(n:Nat):Sig:= {X:=ST×Int×Int×Bool×List Nd,args:=fun x=>[rdG x.1 (xg x)],pre:=fun x=>wP 2 n x.1 (xg x),Y:=Int×Int×Int×Bool×List Nd,post:=fun x y=>Af x.1.sg (xg x) (pE x.1.sg n .fin) (yS y),res:=fun x y=> .int .i64 y.1,outs:=fun x y=>[rdG x.1 (yG y.2)],keep:=true}
def Qs(n:Nat):Sig:= {X:=ST×Int×Int×Bool×List Nd,args:=fun x=>[rdG x.1 (xg x)],pre:=fun x=>wP 1 n x.1 (xg x),Y:=Int×Int×Int×Bool×List Nd,post:=fun x y=>Af x.1.sg (xg x) (pE x.1.sg n .base) (yS y),res:=fun x y=> .int .i64 y.1,outs:=fun x y=>[rdG x.1 (yG y.2)],keep:=true}
structure rAll (G:GInv) (n:Nat):Prop where
 val:Aj G Go.Proofs.Tryz.prog 164 (Kb n)
 pick:Aj G Go.Proofs.Tryz.prog 180 (HD n)
 chain:Aj G Go.Proofs.Tryz.prog 190 (Kc n)
 fin:Aj G Go.Proofs.Tryz.prog 193 (Qr n)
 base:Aj G Go.Proofs.Tryz.prog 196 (Qs n)
theorem Hd{I:Nat→Prop}{N:Nat}(h:∃M,N=M+1∧I M):I (N-1)∧N-1<N:=by
 obtain⟨M,rfl,h⟩:=h
 exact⟨by simpa using h,by omega⟩
theorem CZ{sg:List Sg}{g:Gs}{m:List UInt8}(h:isG sg g 4 m=false):Ah sg g m=g:=by simp [Ah,h]
theorem Da{sg:List Sg}{g:Gs}{m:List UInt8}(h:isG sg g 4 m=true):Ah sg g m=Ai g:=by simp [Ah,h]
theorem a9m{α:Type}{sg:List Sg}{x:Gs}{f:Ps→Option (α×Ps)}{y:α×Gs}(h:Af sg x f y)(hb:y.2.bad=false):x.bad=false:=((CC h).2.2.2 hb).1
abbrev He (sg:List Sg) (one:Ps→PR) (m:List UInt8) (x y:Gs) (ks:List Int) (N:Nat):Prop:=EJ sg one m x y ks N∧(y.bad=false→x.bad=false)
theorem Ut{sg:List Sg}{one:Ps→PR}{m:List UInt8}{x y:Gs}{ks:List Int}{N:Nat}{z:Int×Gs}(h:He sg one m x y ks N)(hz:Af sg y one z)(hq:isG sg y 4 m=false)(hc:isG sg z.2 4 [44]=false):
 Bm sg x (Bl sg one m (sg.length+1) []) (ks++[z.1],Ah sg z.2 [44]):=by rw[CZ hc];exact a9a h.1 hq hz hc
theorem Og{sg:List Sg}{one:Ps→PR}{m:List UInt8}{x y:Gs}{ks:List Int}{N:Nat}{z:Int×Gs}(h:He sg one m x y ks N)(hz:Af sg y one z)(hq:isG sg y 4 m=false)(hc:isG sg z.2 4 [44]=true):
 He sg one m x (Ah sg z.2 [44]) (ks++[z.1]) (N-1)∧N-1<N:=by
 rw[Da hc]
 obtain⟨a,b⟩:=Hd (a9b h.1 hq hz hc)
 exact⟨⟨a,fun hb=>h.2 (a9m hz hb)⟩,b⟩
theorem CM(g:Gs):(⟨g.pos,g.deep,g.bad,g.nodes⟩:Gs)=g:=rfl
theorem a9n{sg:List Sg}{m:List UInt8}{x y:Gs}{ks:List Int}{N:Nat}(hs:sgB sg)(h:He sg (Bz sg) m x y ks N)(hq:isG sg y 4 m=false)(hc:isG sg (Cz sg y) 4 [44]=false):
 Bm sg x (Bl sg (Bz sg) m (sg.length+1) []) (ks++[Dj sg y],Ah sg (Cz sg y) [44]):=Ut h (IZ hs h.1.1.1) hq hc
theorem Uu{sg:List Sg}{m:List UInt8}{x y:Gs}{ks:List Int}{N:Nat}(hs:sgB sg)(h:He sg (Bz sg) m x y ks N)(hq:isG sg y 4 m=false)(hc:isG sg (Cz sg y) 4 [44]=true):
 He sg (Bz sg) m x (Ah sg (Cz sg y) [44]) (ks++[Dj sg y]) (N-1)∧N-1<N:=Og h (IZ hs h.1.1.1) hq hc
theorem a9o{s:ST}{m:List UInt8}{x y:Gs}{ks:List Int}{N:Nat}(hr:sgB s.sg)(h:He s.sg (Bz s.sg) m x y ks N):rOk s (Cz s.sg y):=⟨hr,Ey (IZ hr h.1.1.1)⟩
theorem Uv{s:ST}{one:Ps→PR}{m:List UInt8}{x y:Gs}{ks:List Int}{N:Nat}(hr:sgB s.sg)(h:He s.sg one m x y ks N):ks.length≤3000:=by
 have h1:=h.1.2.2;have h2:=h.1.1.1.1.2;have h3:=hr.1;omega
theorem a0g{s:ST}{one:Ps→PR}{m:List UInt8}{x y:Gs}{ks:List Int}{N n:Nat}(hr:sgB s.sg)(h:He s.sg one m x y ks N)(hb:y.bad=false)(hd:x.bad=false→x.deep≤20)(hn:12*((s.sg.length:Int)-x.pos)+11≤n):vP 11 n s y:=by
 have h1:=h.1.1;have h2:=hd (h.2 hb);have h3:=h1.2.1;have h4:=h1.2.2.1
 exact⟨⟨⟨hr,h1.1⟩,by omega⟩,by omega⟩
theorem Uw{s:ST}{one:Ps→PR}{m:List UInt8}{x y:Gs}{ks:List Int}{N:Nat}(hr:sgB s.sg)(h:He s.sg one m x y ks N):rOk s y:=⟨hr,h.1.1.1⟩
theorem a9p{s:ST}{x:Gs}{n:Nat}(h1:rOk s x)(h2:x.bad=false→x.deep≤20)(h3:12*((s.sg.length:Int)-x.pos)+11≤n):wP 11 n s (Al s.sg x [40]):=by
 obtain⟨⟨a1,a2,a3,a4⟩,a5⟩:=MB (m:=[40]) h1.2
 refine⟨⟨⟨h1.1,a1⟩,fun hb=> ?_⟩,by omega⟩
 rw[a2]
 refine h2 ?_
 cases hx:x.bad with
 |false=>rfl
 |true=>rw[DJ hx,CX hb] at a4;cases a4
theorem a0h{s:ST}{x:Gs}{one:Ps→PR}{k:Int}{l:List Int×Gs}(h1:rOk s x)(h:Bm s.sg (Al s.sg x [40]) (Bl s.sg one [41] (s.sg.length+1) []) l∧l.1.length≤3001):rOk s l.2∧Cv ⟨5,[],[k]++l.1,false⟩:=
 ⟨⟨h1.1,h.1.1⟩,by simp,by have:=h.2;simp;omega⟩
theorem a0i{sg:List Sg}{x:Gs}{one:Ps→PR}{k:Int}{l:List Int×Gs}(hx:gsOk sg x)(h:Bm sg (Al sg x [40]) (Bl sg one [41] (sg.length+1) []) l∧l.1.length≤3001):
 Af sg x (CP sg one k) (BB sg l.2 [41],Bs sg l.2 [41] ⟨5,[],[k]++l.1,false⟩):=a9c hx h.1 h.2
attribute [local irreducible] pE Bl CP fnR Af Bm gsOk Al Bs Ag BX CY Ah Cz Dj Ax BB pkG isG nmG
def HE(n:Nat):Sig:= {X:=ST×Int×Int×Bool×List Nd×List UInt8,args:=fun x=>[rdG x.1 (xh x),.str x.2.2.2.2.2,.top],pre:=fun x=>wP 11 n x.1 (xh x),Y:=List Int×Int×Int×Bool×List Nd,post:=fun x y=>Bm x.1.sg (xh x) (Bl x.1.sg (pE x.1.sg n .value) x.2.2.2.2.2 (x.1.sg.length+1) []) (yS y)∧y.1.length≤3001,res:=fun x y=>Ab y.1,outs:=fun x y=>[rdG x.1 (yG y.2),.top,.top],keep:=true,caps:=[(2,.yield 164,0)]}
def a9q(n:Nat)(x:ST×Int×Int×Bool×List Nd×List UInt8):LS:= {ι:=Int×Int×Bool×List Nd×List Int×Nat,inv:=fun i=>EJ x.1.sg (pE x.1.sg n .value) x.2.2.2.2.2 (xh x) (iG i) i.2.2.2.2.1 i.2.2.2.2.2∧(i.2.2.1=false→x.2.2.2.1=false),regs:=fun i=>[(0,rdG x.1 (iG i)),(1,.str x.2.2.2.2.2),(7,Ab i.2.2.2.2.1)],als:=[],meas:=fun i=>i.2.2.2.2.2,clos:=[(2,.yield 164,0)]}
set_option maxHeartbeats 4000000 in
theorem a0j(n:Nat)(h:rAll G n):Aj G Tryz.prog 138 (HE n):=
 vcFun_okP [(166,0,Cw),(163,0,CL),(164,0,(Kb n))] [(45,⟨Int,Bb⟩)] false (fun x=>[(2,a9q n x)]) Tryz.func138 rfl (by decide) ⟨HB,Ja,h.val,trivial⟩ (fun(x:ST×Int×Int×Bool×List Nd×List UInt8)=>True∧(∃(i:Int×Int×Bool×List Nd×List Int×Nat),(EJ x.1.sg (pE x.1.sg n NT.value) x.2.2.2.2.2 (xh x) (iG i) i.2.2.2.2.1 i.2.2.2.2.2∧(i.2.2.1=false→x.2.2.2.1=false))∧((sgs x.1.sg=sgs x.1.sg∧x.1.z=x.1.z∧(xh x).pos=(iG i).pos∧(xh x).deep=(iG i).deep∧(xh x).bad=(iG i).bad∧Au (xh x).nodes=Au (iG i).nodes∧mbs x.1.ms=mbs x.1.ms∧x.2.2.2.2.2=x.2.2.2.2.2∧i.2.2.2.2.1=[]∧True)∧True)∧True∧True)∧∀(i:Int×Int×Bool×List Nd×List Int×Nat),EJ x.1.sg (pE x.1.sg n NT.value) x.2.2.2.2.2 (xh x) (iG i) i.2.2.2.2.1 i.2.2.2.2.2∧(i.2.2.1=false→x.2.2.2.1=false)→Aa (!(iG i).bad) (cA Cw [rdG x.1 (iG i),.str x.2.2.2.2.2] fun x_1 y=>Aa (!isG x_1.1.sg (xh x_1) (4:Int) x_1.2.2.2.2.2) (cA (Kb n) [rdG x_1.1 (xh x_1)] fun x_2 y=>∃(x_3:Int),y.1=x_3∧∃(zs:List Int),Ab [x_3]=Ab zs∧Be Bb∧AS (List.length i.2.2.2.2.1+List.length zs) (8:Nat)∧cA CL [rdG x_2.1 (yG y.2),.str #[(44:UInt8)].toList] fun x_4 y=>Aa (!isG x_4.1.sg (xh x_4) (4:Int) x_4.2.2.2.2.2) (rA (HE n) x [Ab (i.2.2.2.2.1++zs),rdG x_4.1 (Ah x_4.1.sg (xh x_4) x_4.2.2.2.2.2),.top,.top]) (∃(i':Int×Int×Bool×List Nd×List Int×Nat),(EJ x.1.sg (pE x.1.sg n NT.value) x.2.2.2.2.2 (xh x) (iG i') i'.2.2.2.2.1 i'.2.2.2.2.2∧(i'.2.2.1=false→x.2.2.2.1=false))∧i'.2.2.2.2.2<i.2.2.2.2.2∧((sgs x_4.1.sg=sgs x.1.sg∧x_4.1.z=x.1.z∧(Ah x_4.1.sg (xh x_4) x_4.2.2.2.2.2).pos=(iG i').pos∧(Ah x_4.1.sg (xh x_4) x_4.2.2.2.2.2).deep=(iG i').deep∧(Ah x_4.1.sg (xh x_4) x_4.2.2.2.2.2).bad=(iG i').bad∧Au (Ah x_4.1.sg (xh x_4) x_4.2.2.2.2.2).nodes=Au (iG i').nodes∧mbs x_4.1.ms=mbs x.1.ms∧x.2.2.2.2.2=x.2.2.2.2.2∧Ab (i.2.2.2.2.1++zs)=Ab i'.2.2.2.2.1∧True)∧True)∧True∧True)) (rA (HE n) x [Ab i.2.2.2.2.1,rdG x_1.1 (xh x_1),.top,.top])) (rA (HE n) x [Ab i.2.2.2.2.1,rdG x.1 (iG i),.top,.top])) (fun x=>by kernel_rfl) fun(x:ST×Int×Int×Bool×List Nd×List UInt8) (hx:wP 11 n x.1 (xh x))=>(by
 dsimp only[cA,mbs,Bg,Ab,Au,rA,rdG,Cw,HE,CL,Kb,Bj,sgs,Av,AB,mvL,lnL,mvE,lnE]
 obtain⟨s,p,d,b,ns,e⟩:=x;dsimp only[xg,xh] at hx ⊢
 obtain⟨⟨h1,h2⟩,h3⟩:=hx
 (repeat' first|(with_reducible first|rfl|exact True.intro|apply AK|apply And.intro|((first|apply Az|apply AI|apply AA|apply AJ)<;>intro _))|(apply Aw<;>intro _)|apply AH|refine Ae () ?_ ?_|((first|apply AO|apply AN|apply AM|apply AL|apply AG|apply AF|apply AE|apply AD|apply AC)<;>try dsimp only)|apply Ae|(refine Prod.forall.2 ?_;intro _;try dsimp only)|(intro _;try dsimp only))
 all_goals(try dsimp only[xg,xh,yG,yS,iG] at*)
 all_goals(try simp only[CM] at*)
 all_goals first
  |(show Nat;skip)
  |rfl
  |assumption
  |exact Uo h1.2
  |exact Uw h1.1 ‹_›
  |exact a0g (x:=⟨p,d,b,ns⟩) h1.1 ‹_› ‹_› h2 h3
  |exact Up (And.left ‹_›) ‹_›
  |exact Uq (And.left ‹_›) ‹_›
  |exact Ut ‹_› ‹_› ‹_› ‹_›
  |exact(Og ‹_› ‹_› ‹_› ‹_›).1.1
  |exact(Og ‹_› ‹_› ‹_› ‹_›).1.2 ‹_›
  |exact⟨h1.1,(Ey ‹_›)⟩
  |(have hq:=Uv h1.1 (show He _ _ _ _ _ _ _ by assumption);(try simp only[AS,List.length_append,List.length_cons,List.length_nil]);omega)
  |skip
 all_goals first
  |exact(Og ‹_› ‹_› ‹_› ‹_›).2
  |skip)
def Gc:Sig:= {X:=ST×Int×Int×Bool×List Nd×List UInt8,args:=fun x=>[rdG x.1 (xh x),.str x.2.2.2.2.2,.top],pre:=fun x=>rOk x.1 (xh x),Y:=List Int×Int×Int×Bool×List Nd,post:=fun x y=>Bm x.1.sg (xh x) (Bl x.1.sg (Bz x.1.sg) x.2.2.2.2.2 (x.1.sg.length+1) []) (yS y)∧y.1.length≤3001,res:=fun x y=>Ab y.1,outs:=fun x y=>[rdG x.1 (yG y.2),.top,.top],keep:=true,caps:=[(2,.yield 139,0)]}
def a9r(x:ST×Int×Int×Bool×List Nd×List UInt8):LS:= {ι:=Int×Int×Bool×List Nd×List Int×Nat,inv:=fun i=>EJ x.1.sg (Bz x.1.sg) x.2.2.2.2.2 (xh x) (iG i) i.2.2.2.2.1 i.2.2.2.2.2∧(i.2.2.1=false→x.2.2.2.1=false),regs:=fun i=>[(0,rdG x.1 (iG i)),(1,.str x.2.2.2.2.2),(7,Ab i.2.2.2.2.1)],als:=[],meas:=fun i=>i.2.2.2.2.2,clos:=[(2,.yield 139,0)]}
theorem Ux:Aj G Tryz.prog 138 Gc:=
 vcFun_okP [(166,0,Cw),(163,0,CL),(139,0,GC)] [(45,⟨Int,Bb⟩)] false (fun x=>[(2,a9r x)]) Tryz.func138 rfl (by decide) ⟨HB,Ja,Ul,trivial⟩ (fun(x:ST×Int×Int×Bool×List Nd×List UInt8)=>True∧(∃(i:Int×Int×Bool×List Nd×List Int×Nat),(EJ x.1.sg (Bz x.1.sg) x.2.2.2.2.2 (xh x) (iG i) i.2.2.2.2.1 i.2.2.2.2.2∧(i.2.2.1=false→x.2.2.2.1=false))∧((sgs x.1.sg=sgs x.1.sg∧x.1.z=x.1.z∧(xh x).pos=(iG i).pos∧(xh x).deep=(iG i).deep∧(xh x).bad=(iG i).bad∧Au (xh x).nodes=Au (iG i).nodes∧mbs x.1.ms=mbs x.1.ms∧x.2.2.2.2.2=x.2.2.2.2.2∧i.2.2.2.2.1=[]∧True)∧True)∧True∧True)∧∀(i:Int×Int×Bool×List Nd×List Int×Nat),EJ x.1.sg (Bz x.1.sg) x.2.2.2.2.2 (xh x) (iG i) i.2.2.2.2.1 i.2.2.2.2.2∧(i.2.2.1=false→x.2.2.2.1=false)→Aa (!(iG i).bad) (cA Cw [rdG x.1 (iG i),.str x.2.2.2.2.2] fun x_1 y=>Aa (!isG x_1.1.sg (xh x_1) (4:Int) x_1.2.2.2.2.2) (cA GC [rdG x_1.1 (xh x_1)] fun x_2 y=>∃(x_3:Int),Dj x_2.1.sg (xg x_2)=x_3∧∃(zs:List Int),Ab [x_3]=Ab zs∧Be Bb∧AS (List.length i.2.2.2.2.1+List.length zs) (8:Nat)∧cA CL [rdG x_2.1 (Cz x_2.1.sg (xg x_2)),.str #[(44:UInt8)].toList] fun x_4 y=>Aa (!isG x_4.1.sg (xh x_4) (4:Int) x_4.2.2.2.2.2) (rA Gc x [Ab (i.2.2.2.2.1++zs),rdG x_4.1 (Ah x_4.1.sg (xh x_4) x_4.2.2.2.2.2),.top,.top]) (∃(i':Int×Int×Bool×List Nd×List Int×Nat),(EJ x.1.sg (Bz x.1.sg) x.2.2.2.2.2 (xh x) (iG i') i'.2.2.2.2.1 i'.2.2.2.2.2∧(i'.2.2.1=false→x.2.2.2.1=false))∧i'.2.2.2.2.2<i.2.2.2.2.2∧((sgs x_4.1.sg=sgs x.1.sg∧x_4.1.z=x.1.z∧(Ah x_4.1.sg (xh x_4) x_4.2.2.2.2.2).pos=(iG i').pos∧(Ah x_4.1.sg (xh x_4) x_4.2.2.2.2.2).deep=(iG i').deep∧(Ah x_4.1.sg (xh x_4) x_4.2.2.2.2.2).bad=(iG i').bad∧Au (Ah x_4.1.sg (xh x_4) x_4.2.2.2.2.2).nodes=Au (iG i').nodes∧mbs x_4.1.ms=mbs x.1.ms∧x.2.2.2.2.2=x.2.2.2.2.2∧Ab (i.2.2.2.2.1++zs)=Ab i'.2.2.2.2.1∧True)∧True)∧True∧True)) (rA Gc x [Ab i.2.2.2.2.1,rdG x_1.1 (xh x_1),.top,.top])) (rA Gc x [Ab i.2.2.2.2.1,rdG x.1 (iG i),.top,.top])) (fun x=>by kernel_rfl) fun(x:ST×Int×Int×Bool×List Nd×List UInt8) (hx:rOk x.1 (xh x))=>(by
 dsimp only[cA,mbs,Bg,Ab,Au,rA,rdG,Cw,Gc,GC,CL,Bj,sgs,Av,AB,mvL,lnL,mvE,lnE]
 obtain⟨s,p,d,b,ns,e⟩:=x;dsimp only[xg,xh] at hx ⊢
 have h1:rOk s ⟨p,d,b,ns⟩:=hx
 (repeat' first|(with_reducible first|rfl|exact True.intro|apply AK|apply And.intro|((first|apply Az|apply AI|apply AA|apply AJ)<;>intro _))|(apply Aw<;>intro _)|apply AH|refine Ae () ?_ ?_|((first|apply AO|apply AN|apply AM|apply AL|apply AG|apply AF|apply AE|apply AD|apply AC)<;>try dsimp only)|apply Ae|(refine Prod.forall.2 ?_;intro _;try dsimp only)|(intro _;try dsimp only))
 all_goals(try dsimp only[xg,xh,yG,yS,iG] at*)
 all_goals(try simp only[CM] at*)
 all_goals first
  |(show Nat;skip)
  |rfl
  |assumption
  |exact Uo h1.2
  |exact Uw h1.1 ‹_›
  |exact a9o h1.1 ‹_›
  |exact Up (And.left ‹_›) ‹_›
  |exact Uq (And.left ‹_›) ‹_›
  |exact a9n h1.1 ‹_› ‹_› ‹_›
  |exact(Uu h1.1 ‹_› ‹_› ‹_›).1.1
  |exact(Uu h1.1 ‹_› ‹_› ‹_›).1.2 ‹_›
  |exact⟨h1.1,(Ey ‹_›)⟩
  |(have hq:=Uv h1.1 (show He _ _ _ _ _ _ _ by assumption);(try simp only[AS,List.length_append,List.length_cons,List.length_nil]);omega)
  |skip
 all_goals first
  |exact(Uu h1.1 ‹_› ‹_› ‹_›).2
  |skip)
def Jd(n:Nat):Sig:= {X:=ST×Int×Int×Bool×List Nd×Int,args:=fun x=>[rdG x.1 (xh x),.int .i64 x.2.2.2.2.2],pre:=fun x=>wP 11 n x.1 (xh x),Y:=Int×Int×Int×Bool×List Nd,post:=fun x y=>Af x.1.sg (xh x) (CP x.1.sg (pE x.1.sg n .value) x.2.2.2.2.2) (yS y),res:=fun x y=> .int .i64 y.1,outs:=fun x y=>[rdG x.1 (yG y.2),.top],keep:=true}
theorem a0k(n:Nat)(h:rAll G n):Aj G Tryz.prog 181 (Jd n):=
 vcFun_okP [(137,0,CA),(138,164+1,(HE n)),(165,0,CE)] [(45,⟨Int,Bb⟩)] false (fun x=>[]) Tryz.func181 rfl (by decide) ⟨Jb,(a0j n h),Lj,trivial⟩ (fun(x:ST×Int×Int×Bool×List Nd×Int)=>True∧cA CA [rdG x.1 (xh x),.str #[(40:UInt8)].toList] fun x_1 y=>∃(x_2:Int),x.2.2.2.2.2=x_2∧(True∧True)∧cA (HE n) [rdG x_1.1 (Al x_1.1.sg (xh x_1) x_1.2.2.2.2.2),.str #[(41:UInt8)].toList,AV.clo (Fn.yield (164:Nat)) [AV.al (0:Nat)]] fun x_3 y=>∃(zs:List Int),Ab y.1=Ab zs∧Be Bb∧AS (List.length [x_2]+List.length zs) (8:Nat)∧cA CE [rdG x_3.1 (yG y.2),.str #[(41:UInt8)].toList,.agg [.int .i64 (5:Int),.str #[].toList,Ab ([x_2]++zs),.bool false]] fun x_4 y=>rA (Jd n) x [.int .i64 (BB x_4.1.sg (xh x_4) x_4.2.2.2.2.2.1),rdG x_4.1 (Bs x_4.1.sg (xh x_4) x_4.2.2.2.2.2.1 {kind:=x_4.2.2.2.2.2.2.1,text:=x_4.2.2.2.2.2.2.2.1,kids:=x_4.2.2.2.2.2.2.2.2.1,blank:=x_4.2.2.2.2.2.2.2.2.2}),.top]) (fun x=>by kernel_rfl) fun(x:ST×Int×Int×Bool×List Nd×Int) (hx:wP 11 n x.1 (xh x))=>(by
 dsimp only[cA,mbs,Bg,Ab,Au,rA,rdG,Jd,CE,HE,CA,Bj,sgs,Av,AB,mvL,lnL,mvE,lnE]
 obtain⟨s,p,d,b,ns,e⟩:=x;dsimp only[xg,xh] at hx ⊢
 obtain⟨⟨h1,h2⟩,h3⟩:=hx
 (repeat' first|(with_reducible first|rfl|exact True.intro|apply AK|apply And.intro|((first|apply Az|apply AI|apply AA|apply AJ)<;>intro _))|(apply Aw<;>intro _)|apply AH|refine Ae () ?_ ?_|((first|apply AO|apply AN|apply AM|apply AL|apply AG|apply AF|apply AE|apply AD|apply AC)<;>try dsimp only)|apply Ae|(refine Prod.forall.2 ?_;intro _;try dsimp only)|(intro _;try dsimp only))
 all_goals(try dsimp only[xg,xh,yG,yS,iG] at*)
 all_goals(try simp only[CM] at*)
 all_goals first
  |rfl
  |exact h1
  |exact a9p h1 h2 h3
  |exact(a0h (k:=e) h1 ‹_›).1
  |exact(a0h h1 ‹_›).2
  |(have hq:=And.right (show Bm _ _ _ _∧_ by assumption);(try simp only[AS,List.length_append,List.length_cons,List.length_nil]);omega)
  |exact a0i h1.2 ‹_›
  |skip)
end Go.My
end
