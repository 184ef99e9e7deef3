/- joined -/
import Derived.Test.YtblmpjljedglaaaGreatDoorQL
set_option linter.unusedSimpArgs false
set_option linter.unusedVariables false
section
namespace Go.My
open Go.Eng Go.Proofs
variable {G:GInv}
theorem Lt{ns:List Nd}{n:Nat}{k ind:Int}{pre post:List UInt8}(h:(BA ns k=0∨(Bh ns k=true∧AX (Al ns k)=false))∨(inn ind 0 60=false∨((pre.length:Int)>40∨(post.length:Int)>40))∨(Bf pre=false∨Bf post=false)):pfR ns n k pre post ind=pc0∧CQ ns k pre post ind=false:=by
 refine Pl ?_
 rcases h with(h|h)|(h|h|h)|(h|h)
 ·exact .inl (.inl (.inl (by simp [Cx,h])))
 ·exact .inl (.inl (.inl (by simp [Cx,h.2])))
 ·exact .inl (.inl (.inr h))
 ·exact .inl (.inr (by rw[Di,decide_eq_false (by omega)];rfl))
 ·exact .inr (by rw[Di,decide_eq_false (by omega)];rfl)
 ·exact .inl (.inr (by simp [Di,h]))
 ·exact .inr (by simp [Di,h])
theorem b7X{ns:List Nd}{n:Nat}{k ind:Int}{pre post:List UInt8}{e:Nd}(hd:¬BA ns k=0)(he:ns[k.toNat]? =some e)(hv:AX e.kind=true)(hi:inn ind 0 60=true)(h1:¬(pre.length:Int)>40)(h2:¬(post.length:Int)>40)(h3:Bf pre=true)(h4:Bf post=true):(Cx ns k=true∧Di pre=true)∧Di post=true:=by
 have h0:= @Vw ns k
 refine⟨⟨?_,by simp [Di,h3];omega⟩,by simp [Di,h4];omega⟩
 simp only[Cx,Bool.and_eq_true,decide_eq_true_eq]
 exact⟨(HH hd).1,by rw[Ek he];exact hv,by omega⟩
def isP(p q:Pc):Prop:=q=p
theorem a6M{s:List UInt8}(h:s≠[]){b:UInt8}(hb:s[((s.length:Int)-1).toNat]? =some b):((b.toNat:Int)==61)=Dh s:=by
 have hl:0<s.length:=List.length_pos_iff.2 h
 rw[show((s.length:Int)-1).toNat=s.length-1 by omega] at hb
 rw[Dh,List.getLast?_eq_getElem?,hb,Bool.eq_iff_iff]
 simp only[beq_iff_eq,Option.some.injEq]
 constructor
 ·intro e
  have h4:(61:UInt8).toNat=61:=rfl
  exact UInt8.toNat_inj.1 (by omega)
 ·intro e;rw[e];rfl
theorem b7Y{ns:List Nd}{n:Nat}{k ind:Int}{pre post:List UInt8}{t u:Bs}(ht:isB (AU (AM true (b00 pre)) 1 true 4 u) t)(hu:u=Be true 2 2 (b00 pre))(he:Dh pre=true)(h:bdQ ns n k pre post ind)(hk:k≤2^30):vsP ns n t k 0:=by
 have:=a6B ht hu he h
 exact⟨this.up,this.lt,this.vl,this.rm,by omega⟩
theorem b7Z{ns:List Nd}{n:Nat}{k ind:Int}{pre post:List UInt8}(he:Dh pre=false)(h:bdQ ns n k pre post ind)(hk:k≤2^30):vsP ns n (b00 pre) k 0:=by
 have:=a6C he h
 exact⟨this.up,this.lt,this.vl,this.rm,by omega⟩
theorem b8a{ns:List Nd}{n:Nat}{k ind:Int}{pre:List UInt8}{t u v:Bs}(hv:vsQ ⟨ind,ns,true⟩ n t k 0 v)(ht:isB (AU (AM true (b00 pre)) 1 true 4 u) t)(hu:u=Be true 2 2 (b00 pre))(he:Dh pre=true):v=Fq ns n k pre:=a6D (ind:=ind) (o:=GF true (Aa ns k) t) ⟨hv,rfl⟩ ht hu he
theorem b8b{ns:List Nd}{n:Nat}{k ind:Int}{pre:List UInt8}{v:Bs}(hv:vsQ ⟨ind,ns,true⟩ n (b00 pre) k 0 v)(he:Dh pre=false):v=Fq ns n k pre:=a6E (ind:=ind) (o:=GF true (Aa ns k) (b00 pre)) ⟨hv,rfl⟩ he
theorem b8c{ns:List Nd}{n:Nat}{k ind:Int}{pre post:List UInt8}{v w:Bs}(hw:isB (Am post v) w)(hv:v=Fq ns n k pre):isP (bdP ns n k pre post ind) ⟨ind,w.rules,w.chunks++[⟨w.text,0,0,false,0⟩],w.spans,w.ties⟩:=by
 rw[isP,bdP,JL,←hv,hw];rfl
theorem a6N{ns:List Nd}{n:Nat}{k ind:Int}{pre post:List UInt8}{v:Bs}(hv:v=Fq ns n k pre)(hx:bdQ ns n k pre post ind):v.chunks.length≤79∧v.text.length≤2^61:=by
 rw[hv];have:=SO hx;exact⟨this.1.ch,Hi (CY this)⟩
theorem b8d{ns:List Nd}{n:Nat}{k ind:Int}{pre post:List UInt8}{v w:Bs}(hw:isB (Am post v) w)(hv:v=Fq ns n k pre)(hx:bdQ ns n k pre post ind):w.chunks.length≤79:=by
 have:=(a6N hv hx).1
 rw[hw];exact this
theorem b8e{ns:List Nd}{n:Nat}{k ind:Int}{pre post:List UInt8}{e:Nd}(hd:¬BA ns k=0)(he:ns[k.toNat]? =some e)(hv:AX e.kind=false):pfR ns n k pre post ind=pc0∧CQ ns k pre post ind=false:=Lt (.inl (.inr ⟨(HH hd).1,by rw[Ek he];exact hv⟩))
theorem b8f{pre:List UInt8}(h:¬(pre.length:Int)>40):bB (b00 pre):=Ym (by omega)
theorem b8g{pre:List UInt8}{t:Bs}(ht:t=Be true 2 2 (b00 pre))(h:¬(pre.length:Int)>40):bB t:=a6A ht (by omega)
theorem b8h{ns:List Nd}{n:Nat}{k:Int}{pre post:List UInt8}(h:pfP ns n k pre post)(hd:¬BA ns k=0):(0≤k∧k<ns.length)∧k≤2^30:=by
 have:=Bc.1 (HH hd).1
 have:=h.l30
 omega
theorem b8i{s:List UInt8}(h:s=[]):Dh s=false:=by rw[h];rfl
theorem b8j{ns:List Nd}{n:Nat}{k:Int}{e:Nd}(hd:¬BA ns k=0)(he:ns[k.toNat]? =some e)(hv:AX e.kind=true):Cx ns k=true:=by
 have h0:= @Vw ns k
 simp only[Cx,Bool.and_eq_true,decide_eq_true_eq]
 exact⟨(HH hd).1,by rw[Ek he];exact hv,by omega⟩
theorem b8k{ns:List Nd}{k:Int}(hd:BA ns k=0):Cx ns k=false:=by simp [Cx,hd]
theorem b8l{ns:List Nd}{k:Int}{e:Nd}(he:ns[k.toNat]? =some e)(hv:AX e.kind=false):Cx ns k=false:=by simp [Cx,Ek he,hv]
theorem b8m{ns:List Nd}{n:Nat}{k:Int}(h3:ns.length≤n)(h4:Cx ns k=true→tW ns n k≤2^60)(h:Cx ns k=true)(h2:ns.length≤2^30):vsP ns n (b00 []) k 0:=by
 have hv:=a6F h
 have hr:=Bc.1 hv.1.1
 have:=a6H (ns:=ns) (n:=n) (k:=k) ⟨hv.1,by omega,hv.2,h4 h⟩
 exact⟨this.up,this.lt,this.vl,this.rm,by omega⟩
theorem b8n{ns:List Nd}{n:Nat}{k ind:Int}{pre post:List UInt8}{e:Nd}(hx:pfP ns n k pre post)(hd:BA ns k≠0)(he:ns[k.toNat]? =some e)(hv:AX e.kind=true)(hi:inn ind 0 60=true)(h1:¬(pre.length:Int)>40)(h2:¬(post.length:Int)>40)(h3:Bf pre=true)(h4:Bf post=true):bdQ ns n k pre post ind∧CQ ns k pre post ind=true∧pfR ns n k pre post ind=bdP ns n k pre post ind:=by
 have hT:= @b7X ns n k ind pre post e hd he hv hi h1 h2 h3 h4
 have:=Yo (n:=n) hT.1.1 hi hT.1.2 hT.2
 exact⟨a6G hx hT.1.1 hi hT.1.2 hT.2,this.2,this.1⟩
theorem b8o{s:List UInt8}{b:UInt8}(h:(s==[])=false)(hb:s[((s.length:Int)-1).toNat]? =some b)(h61:(b.toNat:Int)=61):Dh s=true:=by
 rw[←a6M (by intro e;rw[e] at h;cases h) hb];simp [h61]
theorem b8p{s:List UInt8}(h:(s==[])=true):Dh s=false:=b8i (by simpa using h)
theorem b8q{s:List UInt8}{b:UInt8}(h:(s==[])=false)(hb:s[((s.length:Int)-1).toNat]? =some b)(h61:(b.toNat:Int)≠61):Dh s=false:=by
 rw[←a6M (by intro e;rw[e] at h;cases h) hb];simp only[beq_eq_false_iff_ne,ne_eq];exact h61
theorem b8r{s:List UInt8}(h:(s==[])=false):0<s.length:=List.length_pos_iff.2 (by intro e;rw[e] at h;cases h)
theorem a6O{ns:List Nd}{n:Nat}{k ind:Int}{pre post:List UInt8}{p:Pc}(h:isP (bdP ns n k pre post ind) p):p=bdP ns n k pre post ind:=h
def Ng(n:Nat):Sig:= {X:=List Nd×Int×List UInt8×List UInt8×Int,args:=fun x=>[nds x.1,.int .i64 x.2.1,.str x.2.2.1,.str x.2.2.2.1,.int .i64 x.2.2.2.2],pre:=fun x=>pfP x.1 n x.2.1 x.2.2.1 x.2.2.2.1,Y:=Unit,post:=fun x y=>True,res:=fun x y=> .tup [.agg (pcA true (pfR x.1 n x.2.1 x.2.2.1 x.2.2.2.1 x.2.2.2.2)),.bool (CQ x.1 x.2.1 x.2.2.1 x.2.2.2.1 x.2.2.2.2)],outs:=fun x y=>[.top,.top,.top,.top,.top],keep:=false}
def b8s(n:Nat)(x:List Nd×Int×List UInt8×List UInt8×Int):LS:= {ι:=List Ru×List Ch×List Sn×List Ti×List UInt8,inv:=fun j=>isP (bdP x.1 n x.2.1 x.2.2.1 x.2.2.2.1 x.2.2.2.2) ⟨x.2.2.2.2,j.1,j.2.1,j.2.2.1,j.2.2.2.1⟩∧bdQ x.1 n x.2.1 x.2.2.1 x.2.2.2.1 x.2.2.2.2∧CQ x.1 x.2.1 x.2.2.1 x.2.2.2.1 x.2.2.2.2=true,regs:=fun j=>[(10,.box 0 (pcA true pc0)),(12,suA ⟨x.2.2.2.2,x.1,true⟩ (yBW j))],als:=[],meas:=fun _=>0}
def Pp(n:Nat)(x:List Nd×Int×List UInt8×List UInt8×Int)(x_7:BQ.X)(y:BQ.Y):Prop:=∃(x_8:Ch),(yBW y).text=x_8.text∧((0:Int)=x_8.rule∧((0:Int)=x_8.fr∧false=x_8.space∧((0:Int)=x_8.nest∧(∃(zs:List Ch),AV.sl true 0 5 Ch chA [x_8]=AV.sl true 0 5 Ch chA zs∧(BH chA∧(Bb (List.length (yBW y).chunks+List.length zs) (48:Nat)∧(true=true∧(∃(i:List Ru×List Ch×List Sn×List Ti×List UInt8),(isP (bdP x.1 n x.2.1 x.2.2.1 x.2.2.2.1 x.2.2.2.2) {ind:=x.2.2.2.2,rules:=i.1,chunks:=i.2.1,spans:=i.2.2.1,ties:=i.2.2.2.1}∧bdQ x.1 n x.2.1 x.2.2.1 x.2.2.2.1 x.2.2.2.2∧CQ x.1 x.2.1 x.2.2.1 x.2.2.2.1 x.2.2.2.2=true)∧(((0:Int)=pc0.ind∧pc0.rules=[]∧pc0.chunks=[]∧pc0.spans=[]∧pc0.ties=[]∧nds x_7.1.ns=nds x.1∧x_7.1.ind=x.2.2.2.2∧AV.sl true 0 2 Ru ruA (yBW y).rules=AV.sl true 0 2 Ru ruA (yBW i).rules∧AV.sl true 0 5 Ch chA ((yBW y).chunks++zs)=AV.sl true 0 5 Ch chA (yBW i).chunks∧AV.sl true 0 3 Sn snA (yBW y).spans=AV.sl true 0 3 Sn snA (yBW i).spans∧AV.sl true 0 2 Ti tiA (yBW y).ties=AV.sl true 0 2 Ti tiA (yBW i).ties∧(yBW y).text=(yBW i).text∧(!x_7.1.rd)=false∧True)∧True)))))))))
def Pq(n:Nat)(x:List Nd×Int×List UInt8×List UInt8×Int)(x_9:BQ.X)(y:BQ.Y):Prop:=∃(x_10:Ch),(yBW y).text=x_10.text∧((0:Int)=x_10.rule∧((0:Int)=x_10.fr∧false=x_10.space∧((0:Int)=x_10.nest∧(∃(zs:List Ch),AV.sl true 0 5 Ch chA [x_10]=AV.sl true 0 5 Ch chA zs∧(BH chA∧(Bb (List.length (yBW y).chunks+List.length zs) (48:Nat)∧(true=true∧(∃(i:List Ru×List Ch×List Sn×List Ti×List UInt8),(isP (bdP x.1 n x.2.1 x.2.2.1 x.2.2.2.1 x.2.2.2.2) {ind:=x.2.2.2.2,rules:=i.1,chunks:=i.2.1,spans:=i.2.2.1,ties:=i.2.2.2.1}∧bdQ x.1 n x.2.1 x.2.2.1 x.2.2.2.1 x.2.2.2.2∧CQ x.1 x.2.1 x.2.2.1 x.2.2.2.1 x.2.2.2.2=true)∧(((0:Int)=pc0.ind∧pc0.rules=[]∧pc0.chunks=[]∧pc0.spans=[]∧pc0.ties=[]∧nds x_9.1.ns=nds x.1∧x_9.1.ind=x.2.2.2.2∧AV.sl true 0 2 Ru ruA (yBW y).rules=AV.sl true 0 2 Ru ruA (yBW i).rules∧AV.sl true 0 5 Ch chA ((yBW y).chunks++zs)=AV.sl true 0 5 Ch chA (yBW i).chunks∧AV.sl true 0 3 Sn snA (yBW y).spans=AV.sl true 0 3 Sn snA (yBW i).spans∧AV.sl true 0 2 Ti tiA (yBW y).ties=AV.sl true 0 2 Ti tiA (yBW i).ties∧(yBW y).text=(yBW i).text∧(!x_9.1.rd)=false∧True)∧True)))))))))
def HV(n:Nat)(x:List Nd×Int×List UInt8×List UInt8×Int):Prop:=∃(y:Unit),True∧((0:Int)=(pfR x.1 n x.2.1 x.2.2.1 x.2.2.2.1 x.2.2.2.2).ind∧((pfR x.1 n x.2.1 x.2.2.1 x.2.2.2.1 x.2.2.2.2).rules=[]∧((pfR x.1 n x.2.1 x.2.2.1 x.2.2.2.1 x.2.2.2.2).chunks=[]∧((pfR x.1 n x.2.1 x.2.2.1 x.2.2.2.1 x.2.2.2.2).spans=[]∧((pfR x.1 n x.2.1 x.2.2.1 x.2.2.2.1 x.2.2.2.2).ties=[]∧false=CQ x.1 x.2.1 x.2.2.1 x.2.2.2.1 x.2.2.2.2∧True)))))
def Yr(n:Nat)(x:List Nd×Int×List UInt8×List UInt8×Int):Prop:=cA (BR n) [.box 0 [nds x.1,.int .i64 x.2.2.2.2,.nil,.nil,.nil,.nil,.str x.2.2.1,.bool false],.int .i64 x.2.1,.int .i64 (0:Int)] fun x_6 y=>cA BQ [.box 0 [nds x_6.1.ns,.int .i64 x_6.1.ind,AV.sl true 0 2 Ru ruA (yBW y).rules,AV.sl true 0 5 Ch chA (yBW y).chunks,AV.sl true 0 3 Sn snA (yBW y).spans,AV.sl true 0 2 Ti tiA (yBW y).ties,.str (yBW y).text,.bool !x_6.1.rd],.str x.2.2.2.1] fun x_7 y=>true=true∧(((Pp n x x_7 y)∧((Pp n x x_7 y)∧((Pp n x x_7 y)∧(Pp n x x_7 y))))∧(∀(i:List Ru×List Ch×List Sn×List Ti×List UInt8),isP (bdP x.1 n x.2.1 x.2.2.1 x.2.2.2.1 x.2.2.2.2) {ind:=x.2.2.2.2,rules:=i.1,chunks:=i.2.1,spans:=i.2.2.1,ties:=i.2.2.2.1}∧bdQ x.1 n x.2.1 x.2.2.1 x.2.2.2.1 x.2.2.2.2∧CQ x.1 x.2.1 x.2.2.1 x.2.2.2.1 x.2.2.2.2=true→cA Dg [.agg [.int .i64 x.2.2.2.2,AV.sl true 0 2 Ru ruA (yBW i).rules,AV.sl true 0 5 Ch chA (yBW i).chunks,AV.sl true 0 3 Sn snA (yBW i).spans,AV.sl true 0 2 Ti tiA (yBW i).ties]] fun x_8 y=>Ab (!Bo x_8) (HV n x) (∃(y:Unit),True∧x.2.2.2.2=(pfR x.1 n x.2.1 x.2.2.1 x.2.2.2.1 x.2.2.2.2).ind∧AV.sl true 0 2 Ru ruA (yBW i).rules=AV.sl true 0 2 Ru ruA (pfR x.1 n x.2.1 x.2.2.1 x.2.2.2.1 x.2.2.2.2).rules∧AV.sl true 0 5 Ch chA (yBW i).chunks=AV.sl true 0 5 Ch chA (pfR x.1 n x.2.1 x.2.2.1 x.2.2.2.1 x.2.2.2.2).chunks∧AV.sl true 0 3 Sn snA (yBW i).spans=AV.sl true 0 3 Sn snA (pfR x.1 n x.2.1 x.2.2.1 x.2.2.2.1 x.2.2.2.2).spans∧AV.sl true 0 2 Ti tiA (yBW i).ties=AV.sl true 0 2 Ti tiA (pfR x.1 n x.2.1 x.2.2.1 x.2.2.2.1 x.2.2.2.2).ties∧true=CQ x.1 x.2.1 x.2.2.1 x.2.2.2.1 x.2.2.2.2∧True)))
set_option maxHeartbeats 8000000 in
theorem b8t(n:Nat)(hv:Ah G Go.Proofs.Tryz.prog 49 (BR n)):Ah G Tryz.prog 11 (Ng n):=
 vcFun_okP [(44,0,EU),(34,0,Ec),(45,0,Bq),(46,0,IB),(48,0,DU),(47,0,Dt),(49,0,(BR n)),(50,0,BQ),(13,0,Dg)] [(28,⟨Ch,chA⟩)] false (fun x=>[(100008,b8s n x)]) Tryz.func11 rfl (by decide) ⟨QT,QM,Gx,a3Y,OT,OV,hv,MX,a3Z,trivial⟩ (fun(x:List Nd×Int×List UInt8×List UInt8×Int)=>(∀(y:Unit),True→((True∧(∀(x:Ru),True∧True∧True)∧(∀(x:Ch),True∧True∧True∧True∧True∧True)∧(∀(x:Sn),True∧True∧True∧True)∧(∀(x:Ti),True∧True∧True)∧True)∧True∧True)∧True∧True∧True∧True∧True∧True)∧cA EU [nds x.1,.int .i64 x.2.1] fun x_1 y=>Ab (BA x_1.1 x_1.2==(0:Int)) (HV n x) (((0:Int)≤x.2.1∧x.2.1<(↑(List.length x.1):Int))∧∀(e:Nd),x.1[Int.toNat x.2.1]? =some e→cA Ec [.int .i64 e.kind] fun x_2 y=>Ab (!AX x_2) (HV n x) (cA Bq [.int .i64 x.2.2.2.2,.int .i64 (0:Int),.int .i64 (60:Int)] fun x_3 y=>Ab (!inn x_3.1 x_3.2.1 x_3.2.2) (HV n x) (Ab (decide ((↑(List.length x.2.2.1):Int)>(40:Int))) (HV n x) (Ab (decide ((↑(List.length x.2.2.2.1):Int)>(40:Int))) (HV n x) (cA IB [.str x.2.2.1] fun x_4 y=>Ab (!Bf x_4.1) (HV n x) (cA IB [.str x.2.2.2.1] fun x_5 y=>Ab (!Bf x_5.1) (HV n x) (Ab (!x.2.2.1== #[].toList) (inR IntKind.i64 ((↑(List.length x.2.2.1):Int)-(1:Int))∧((0:Int)≤(↑(List.length x.2.2.1):Int)-(1:Int)∧(↑(List.length x.2.2.1):Int)-(1:Int)<(↑(List.length x.2.2.1):Int))∧∀(c:UInt8),x.2.2.1[Int.toNat ((↑(List.length x.2.2.1):Int)-(1:Int))]? =some c→Ab ((↑(UInt8.toNat c):Int)==(61:Int)) (cA DU [.box 0 [nds x.1,.int .i64 x.2.2.2.2,.nil,.nil,.nil,.nil,.str x.2.2.1,.bool false],.int .i64 (2:Int),.int .i64 (2:Int)] fun x_6 y=>cA Dt [.box 0 [nds x_6.1.ns,.int .i64 x_6.1.ind,AV.sl true 0 2 Ru ruA (yBW y).rules,AV.sl true 0 5 Ch chA (yBW y).chunks,AV.sl true 0 3 Sn snA (yBW y).spans,AV.sl true 0 2 Ti tiA (yBW y).ties,.str (yBW y).text,.bool !x_6.1.rd],.int .i64 (AM x_6.1.rd (xC x_6)),.int .i64 (1:Int),.bool true,.int .i64 (4:Int)] fun x_7 y=>cA (BR n) [.box 0 [nds x_7.1.ns,.int .i64 x_7.1.ind,AV.sl true 0 2 Ru ruA (yBW y).rules,AV.sl true 0 5 Ch chA (yBW y).chunks,AV.sl true 0 3 Sn snA (yBW y).spans,AV.sl true 0 2 Ti tiA (yBW y).ties,.str (yBW y).text,.bool !x_7.1.rd],.int .i64 x.2.1,.int .i64 (0:Int)] fun x_8 y=>cA BQ [.box 0 [nds x_8.1.ns,.int .i64 x_8.1.ind,AV.sl true 0 2 Ru ruA (yBW y).rules,AV.sl true 0 5 Ch chA (yBW y).chunks,AV.sl true 0 3 Sn snA (yBW y).spans,AV.sl true 0 2 Ti tiA (yBW y).ties,.str (yBW y).text,.bool !x_8.1.rd],.str x.2.2.2.1] fun x_9 y=>true=true∧((Pq n x x_9 y)∧(Pq n x x_9 y)∧(Pq n x x_9 y)∧(Pq n x x_9 y))∧∀(i:List Ru×List Ch×List Sn×List Ti×List UInt8),isP (bdP x.1 n x.2.1 x.2.2.1 x.2.2.2.1 x.2.2.2.2) {ind:=x.2.2.2.2,rules:=i.1,chunks:=i.2.1,spans:=i.2.2.1,ties:=i.2.2.2.1}∧bdQ x.1 n x.2.1 x.2.2.1 x.2.2.2.1 x.2.2.2.2∧CQ x.1 x.2.1 x.2.2.1 x.2.2.2.1 x.2.2.2.2=true→cA Dg [.agg [.int .i64 x.2.2.2.2,AV.sl true 0 2 Ru ruA (yBW i).rules,AV.sl true 0 5 Ch chA (yBW i).chunks,AV.sl true 0 3 Sn snA (yBW i).spans,AV.sl true 0 2 Ti tiA (yBW i).ties]] fun x_10 y=>Ab (!Bo x_10) (HV n x) (∃(y:Unit),True∧x.2.2.2.2=(pfR x.1 n x.2.1 x.2.2.1 x.2.2.2.1 x.2.2.2.2).ind∧AV.sl true 0 2 Ru ruA (yBW i).rules=AV.sl true 0 2 Ru ruA (pfR x.1 n x.2.1 x.2.2.1 x.2.2.2.1 x.2.2.2.2).rules∧AV.sl true 0 5 Ch chA (yBW i).chunks=AV.sl true 0 5 Ch chA (pfR x.1 n x.2.1 x.2.2.1 x.2.2.2.1 x.2.2.2.2).chunks∧AV.sl true 0 3 Sn snA (yBW i).spans=AV.sl true 0 3 Sn snA (pfR x.1 n x.2.1 x.2.2.1 x.2.2.2.1 x.2.2.2.2).spans∧AV.sl true 0 2 Ti tiA (yBW i).ties=AV.sl true 0 2 Ti tiA (pfR x.1 n x.2.1 x.2.2.1 x.2.2.2.1 x.2.2.2.2).ties∧true=CQ x.1 x.2.1 x.2.2.1 x.2.2.2.1 x.2.2.2.2∧True)) (Yr n x)) (Yr n x))))))))) (fun x=>by kernel_rfl) fun(x:List Nd×Int×List UInt8×List UInt8×Int) (hx:pfP x.1 n x.2.1 x.2.2.1 x.2.2.2.1)=>(by
 dsimp only[Yr,HV,Pq,Pp,cA,Bl,Bg,nds,pcA,Bj,Bq,Ec,Dg,IB,EU,BQ,DU,Dt,BR,Bm,suA,Bn,Aq,Aw,mvL,lnL,mvE,lnE,mvG,mvH,lnG,lnH]
 obtain⟨ns,k,pre,post,ind⟩:=x;dsimp only at hx ⊢
 have hx:pfP ns n k pre post:=hx
 (repeat' first|refine RX ?_|refine SQ ⟨ind,ns,true⟩ ?_|refine Iu (bdP ns n k pre post ind) ?_|(with_reducible first|rfl|exact True.intro|apply AG|apply And.intro|((first|apply Au|apply AE|apply Av|apply AF)<;>intro _))|(apply As<;>intro _)|apply AD|refine Af () ?_ ?_|((first|apply AK|apply AJ|apply AI|apply AH|apply AC|apply AB|apply AA|apply Az|apply Ax)<;>try dsimp only)|apply Af|(refine Prod.forall.2 ?_;intro _;try dsimp only)|(intro _;try dsimp only))
 all_goals(try dsimp only[yBW,xC,zBW,zI,wB] at*)
 all_goals(try(have hkk:=b8h hx ‹_›))
 all_goals(try(have hQQ:=b8n (ind:=ind) hx (show BA ns k≠0 by assumption) (show ns[k.toNat]? =some _ by assumption) ‹_› ‹_› (show¬(pre.length:Int)>40 by assumption) (show¬(post.length:Int)>40 by assumption) ‹_› ‹_›;have hQ:=hQQ.1))
 all_goals(try(first
  |(have hF:= @Lt ns n k ind pre post (.inl (.inl ‹_›)))
  |(have hF:= @b8e ns n k ind pre post _ ‹_› ‹_› ‹_›)
  |(have hF:= @Lt ns n k ind pre post (.inr (.inl (.inl ‹_›))))
  |(have hF:= @Lt ns n k ind pre post (.inr (.inl (.inr (.inl ‹_›)))))
  |(have hF:= @Lt ns n k ind pre post (.inr (.inl (.inr (.inr ‹_›)))))
  |(have hF:= @Lt ns n k ind pre post (.inr (.inr (.inl ‹_›))))
  |(have hF:= @Lt ns n k ind pre post (.inr (.inr (.inr ‹_›))))))
 all_goals(try(first|(have hE:Dh pre=true:=b8o ‹_› ‹_› ‹_›)|(have hE:Dh pre=false:=b8p ‹_›)|(have hE:Dh pre=false:=b8q ‹_› ‹_› ‹_›)))
 all_goals(try(have hZ:=b8r (show(pre==[])=false by assumption)))
 all_goals(try(first|(have hA:=b8a (ind:=ind) ‹_› ‹_› ‹_› hE)|(have hA:=b8b (ind:=ind) ‹_› hE)))
 all_goals(try(have hL:=a6N hA hQ;dsimp only at hL))
 all_goals(try(have hW:=b8d (show isB (Am post _) _ by assumption) hA hQ;dsimp only at hW))
 all_goals first
  |with_reducible rfl
  |with_reducible assumption
  |omega
  |exact hx.ok
  |exact hx.ok.1
  |exact hx.l30
  |(rw[hF.1];done)
  |(rw[hF.1];rfl)
  |exact hF.2.symm
  |exact b8f ‹_›
  |exact b8g ‹_› ‹_›
  |exact b7Y ‹_› ‹_› hE hQ hkk.2
  |exact b7Z hE hQ hkk.2
  |exact b8c ‹_› hA
  |exact hQ
  |exact hQQ.2.1
  |(have hq:=(show isP _ _∧_ by assumption).1;have e:=a6O hq;first|exact congrArg Pc.ind e|exact congrArg Pc.rules e|exact congrArg Pc.chunks e|exact congrArg Pc.spans e|exact congrArg Pc.ties e)
  |exact Pg (show isP _ _∧bdQ _ _ _ _ _ _∧_ by assumption).2.1
  |(exfalso;rename Bo _=false=>hf;rw[Nc (show isP _ _∧bdQ _ _ _ _ _ _∧_ by assumption).2.1] at hf;cases hf)
  |(have hq:=(show isP _ _∧bdQ _ _ _ _ _ _∧_ by assumption);have e:=a6O hq.1;have eR:=hQQ.2.2;rw[eR];first|exact congrArg Pc.ind e|exact(congrArg Pc.ind e).symm|exact congrArg Pc.rules e|exact(congrArg Pc.rules e).symm|exact congrArg Pc.chunks e|exact(congrArg Pc.chunks e).symm|exact congrArg Pc.spans e|exact(congrArg Pc.spans e).symm|exact congrArg Pc.ties e|exact(congrArg Pc.ties e).symm)
  |exact(show isP _ _∧bdQ _ _ _ _ _ _∧CQ ns k pre post ind=true by assumption).2.2.symm
  |((try simp only[Ai,Bb,List.length_cons,List.length_nil]);omega)
  |rfl
  |exact()
  |skip)
def JQ(n:Nat):Sig:= {X:=List Nd×Int,args:=fun x=>[nds x.1,.int .i64 x.2],pre:=fun x=>(CH x.1∧x.1.length≤2^30)∧(x.1.length≤n∧(Cx x.1 x.2=true→tW x.1 n x.2≤2^60)),Y:=Unit,post:=fun x y=>True,res:=fun x y=> .str (if Cx x.1 x.2 then Ho x.1 n x.2 else []),outs:=fun x y=>[.top,.top],keep:=false}
theorem b8u(n:Nat)(hv:Ah G Go.Proofs.Tryz.prog 49 (BR n)):Ah G Tryz.prog 15 (JQ n):=
 vcFun_okP [(44,0,EU),(34,0,Ec),(49,0,(BR n))] [] false (fun x=>[]) Tryz.func15 rfl (by decide) ⟨QT,QM,hv,trivial⟩ (fun(x:List Nd×Int)=>(∀(y:Unit),True→True∧True∧True∧True)∧cA EU [nds x.1,.int .i64 x.2] fun x_1 y=>Ab (BA x_1.1 x_1.2==(0:Int)) (rA (JQ n) x [.str #[].toList,.top,.top]) (((0:Int)≤x.2∧x.2<(↑(List.length x.1):Int))∧∀(e:Nd),x.1[Int.toNat x.2]? =some e→cA Ec [.int .i64 e.kind] fun x_2 y=>Ab (!AX x_2) (rA (JQ n) x [.str #[].toList,.top,.top]) (cA (BR n) [.box 0 [nds x.1,.int .i64 (0:Int),.nil,.nil,.nil,.nil,.str #[].toList,.bool true],.int .i64 x.2,.int .i64 (0:Int)] fun x_3 y=>rA (JQ n) x [.str (yBW y).text,.top,.top]))) (fun x=>by kernel_rfl) fun(x:List Nd×Int) (hx:(CH x.1∧x.1.length≤2^30)∧(x.1.length≤n∧(Cx x.1 x.2=true→tW x.1 n x.2≤2^60)))=>(by
 dsimp only[cA,Bl,Bg,nds,rA,Bj,Ec,EU,BR,JQ,Bm,suA,Bn,Aq,Aw,mvL,lnL,mvE,lnE,mvG,mvH,lnG,lnH]
 obtain⟨ns,k⟩:=x;dsimp only at hx ⊢
 obtain⟨⟨h1,h2⟩,h3,h4⟩:=hx
 (repeat' first|refine SQ ⟨0,ns,false⟩ ?_|(with_reducible first|rfl|exact True.intro|apply AG|apply And.intro|((first|apply Au|apply AE|apply Av|apply AF)<;>intro _))|(apply As<;>intro _)|apply AD|refine Af () ?_ ?_|((first|apply AK|apply AJ|apply AI|apply AH|apply AC|apply AB|apply AA|apply Az|apply Ax)<;>try dsimp only)|apply Af|(refine Prod.forall.2 ?_;intro _;try dsimp only)|(intro _;try dsimp only))
 all_goals(try dsimp only[yBW,xC,zBW,zI,wB] at*)
 all_goals(try(have hkk:=Bc.1 (HH (show BA ns k≠0 by assumption)).1))
 all_goals(try(have hT:= @b8j ns n k _ ‹_› ‹_› ‹_›))
 all_goals(try(first|(have hF:= @b8k ns k ‹_›)|(have hF:= @b8l ns k _ ‹_› ‹_›)))
 all_goals first
  |with_reducible rfl
  |with_reducible assumption
  |omega
  |exact h1
  |exact h1.1
  |(rw[if_neg (by rw[hF];simp)];done)
  |exact b8m h3 h4 hT h2
  |(rw[if_pos hT];rename vsQ _ _ _ _ _ _=>hq;exact congrArg Bs.text hq)
  |rfl
  |skip)
def wpL(p:Pc)(w bud:Int):List (List UInt8):=if Bo p then El p w bud else []
def wpS(p:Pc)(w bud:Int):Int:=if Bo p then Ew p w bud else 0
theorem b8v{p:Pc}{w bud:Int}(h:Bo p=false):wpL p w bud=[]∧wpS p w bud=0:=by simp [wpL,wpS,h]
theorem b8w{p:Pc}{w bud:Int}(h:Bo p=true):wpL p w bud=BF p (srF p w bud).1.best∧wpS p w bud=(srF p w bud).2:=by simp [wpL,wpS,h,El,Ew]
theorem b8x{p:Pc}{w bud:Int}(h:Bo p=true):(srF p w bud).2≠0:=by rcases(WR (w:=w) (bud:=bud) (EV h)).2 with e|e<;>omega
def SU:Sig:= {X:=Pc×Int×Int,args:=fun x=>[.agg (pcA false x.1),.int .i64 x.2.1,.int .i64 x.2.2],pre:=fun x=>pcS x.1,Y:=Unit,post:=fun x y=>True,res:=fun x y=> .agg [Cg (wpL x.1 x.2.1 x.2.2),.int .i64 (wpS x.1 x.2.1 x.2.2)],outs:=fun x y=>[.top,.top,.top],keep:=false}
theorem b8y:Ah G Tryz.prog 127 SU:=
 vcFun_okP [(164,0,Lb),(165,0,HN)] [] false (fun x=>[]) Tryz.func127 rfl (by decide) ⟨b4m,a2V,trivial⟩ (fun(x:Pc×Int×Int)=>(∀(y:Unit),True→((∀(x:List UInt8),True∧True)∧True∧True)∧True∧True∧True∧True)∧cA Lb [.agg [.int .i64 x.1.ind,AV.sl false 0 2 Ru ruA x.1.rules,AV.sl false 0 5 Ch chA x.1.chunks,AV.sl false 0 3 Sn snA x.1.spans,AV.sl false 0 2 Ti tiA x.1.ties],.int .i64 x.2.1,.int .i64 x.2.2] fun x_1 y=>Ab ((if Bo x_1.1=true then(srF x_1.1 x_1.2.1 x_1.2.2).2 else(0:Int))==(0:Int)) (∃(y:Unit),True∧wpL x.1 x.2.1 x.2.2=[]∧(0:Int)=wpS x.1 x.2.1 x.2.2∧True) (cA HN [.agg [.int .i64 x.1.ind,AV.sl false 0 2 Ru ruA x.1.rules,AV.sl false 0 5 Ch chA x.1.chunks,AV.sl false 0 3 Sn snA x.1.spans,AV.sl false 0 2 Ti tiA x.1.ties],Ad (if Bo x_1.1=true then(srF x_1.1 x_1.2.1 x_1.2.2).1.best else [])] fun x_2 y=>∃(y:Unit),True∧AV.sl true 0 1 (List UInt8) Ag (BF x_2.1 x_2.2)=AV.sl true 0 1 (List UInt8) Ag (wpL x.1 x.2.1 x.2.2)∧(if Bo x_1.1=true then(srF x_1.1 x_1.2.1 x_1.2.2).2 else(0:Int))=wpS x.1 x.2.1 x.2.2∧True)) (fun x=>by kernel_rfl) fun(x:Pc×Int×Int) (hx:pcS x.1)=>(by
 dsimp only[cA,Bl,chs,Ad,Cg,pcA,Bj,HN,Lb,Bm,Bn,Aq,Aw,mvL,lnL,mvE,lnE,mvG,mvH,lnG,lnH]
 obtain⟨p,w,bud⟩:=x;dsimp only at hx ⊢
 have hx:pcS p:=hx
 by_cases hp:Bo p=true
 ·have hF:= @b8w p w bud hp
  have hn:= @b8x p w bud hp
  (repeat' first|refine Iu p ?_|refine Ds p ?_|(with_reducible first|rfl|exact True.intro|apply AG|apply And.intro|((first|apply Au|apply AE|apply Av|apply AF)<;>intro _))|(apply As<;>intro _)|apply AD|refine Af () ?_ ?_|((first|apply AK|apply AJ|apply AI|apply AH|apply AC|apply AB|apply AA|apply Az|apply Ax)<;>try dsimp only)|apply Af|(refine Prod.forall.2 ?_;intro _;try dsimp only)|(intro _;try dsimp only))
  all_goals first
   |with_reducible rfl
   |exact hx
   |(exfalso;rename(if Bo p=true then _ else _)=(0:Int)=>hq;rw[if_pos hp] at hq;exact hn hq)
   |(rw[if_pos hp,hF.1];done)
   |(rw[if_pos hp,hF.2];done)
   |(dsimp only;rw[if_pos hp];exact⟨EV hp,(WR (EV hp)).1.bl,hx.2.1.2⟩)
   |skip
 ·have hp2:Bo p=false:=by simpa using hp
  have hF:= @b8v p w bud hp2
  (repeat' first|refine Iu p ?_|refine Ds p ?_|(with_reducible first|rfl|exact True.intro|apply AG|apply And.intro|((first|apply Au|apply AE|apply Av|apply AF)<;>intro _))|(apply As<;>intro _)|apply AD|refine Af () ?_ ?_|((first|apply AK|apply AJ|apply AI|apply AH|apply AC|apply AB|apply AA|apply Az|apply Ax)<;>try dsimp only)|apply Af|(refine Prod.forall.2 ?_;intro _;try dsimp only)|(intro _;try dsimp only))
  all_goals first
   |with_reducible rfl
   |exact hx
   |exact hF.1
   |exact hF.2.symm
   |(exfalso;rename¬(if Bo p=true then _ else _)=(0:Int)=>hq;rw[if_neg hp] at hq;exact hq rfl)
   |skip)
theorem a6P{i:Int}(h1:0≤i)(h2:i≤100000):(blk i).length≤100000:=by simp [blk];omega
def wrA(c:WC)(s:Ws):AV:= .box 0 [nds c.ns,.int .i64 c.w,.int .i64 c.bud,.sl true 0 1 (List UInt8) Ag s.ls,.int .i64 s.st]
abbrev yW (y:List (List UInt8)×Int):Ws:=⟨y.1,y.2⟩
abbrev xW {α:Type} (x:WC×List (List UInt8)×Int×α):Ws:=⟨x.2.1,x.2.2.1⟩
def AR(a b:Ws):Prop:=b=a
def DV:Sig:= {X:=WC×List (List UInt8)×Int×Int×List UInt8,args:=fun x=>[wrA x.1 (xW x),.int .i64 x.2.2.2.1,.str x.2.2.2.2],pre:=fun x=>(0≤x.2.2.2.1∧x.2.2.2.1≤100000)∧x.2.2.2.2.length≤2^62∧x.2.1.length≤2^41,Y:=List (List UInt8)×Int,post:=fun x y=>AR (Bw x.2.2.2.1 x.2.2.2.2 (xW x)) (yW y),res:=fun x y=> .tup [],outs:=fun x y=>[wrA x.1 (yW y),.top,.top],keep:=true}
def b8z(x:WC×List (List UInt8)×Int×Int×List UInt8):LS:= {ι:=Unit,inv:=fun _=>True,regs:=fun _=>[(0,wrA x.1 ⟨x.2.1++[blk x.2.2.2.1++x.2.2.2.2],x.2.2.1⟩)],als:=[],meas:=fun _=>0}
def SV(x:WC×List (List UInt8)×Int×Int×List UInt8)(x_1:GK.X):Prop:=∃(x_2:List UInt8),blk x_1++x.2.2.2.2=x_2∧(∃(zs:List (List UInt8)),AV.sl true 0 1 (List UInt8) Ag [x_2]=AV.sl true 0 1 (List UInt8) Ag zs∧(BH Ag∧(Bb (List.length (xW x).ls+List.length zs) (16:Nat)∧(true=true∧(∃(i:Unit),True∧((nds x.1.ns=nds x.1.ns∧x.1.w=x.1.w∧x.1.bud=x.1.bud∧AV.sl true 0 1 (List UInt8) Ag ((xW x).ls++zs)=AV.sl true 0 1 (List UInt8) Ag (x.2.1++[blk x.2.2.2.1++x.2.2.2.2])∧(xW x).st=x.2.2.1∧True)∧True))))))
theorem a6Q:Ah G Tryz.prog 99 DV:=
 vcFun_okP [(126,0,GK)] [(42,⟨List UInt8,Ag⟩)] false (fun x=>[(100000,b8z x)]) Tryz.func99 rfl (by decide) ⟨a2U,trivial⟩ (fun(x:WC×List (List UInt8)×Int×Int×List UInt8)=>True∧true=true∧((cA GK [.int .i64 x.2.2.2.1] fun x_1 y=>(↑(List.length (blk x_1)+List.length x.2.2.2.2):Int)≤IntKind.max IntKind.i64∧(SV x x_1))∧cA GK [.int .i64 x.2.2.2.1] fun x_1 y=>(↑(List.length (blk x_1)+List.length x.2.2.2.2):Int)≤IntKind.max IntKind.i64∧(SV x x_1)∧(SV x x_1))∧∀(i:Unit),True→rA DV x [.tup [],.box 0 [nds x.1.ns,.int .i64 x.1.w,.int .i64 x.1.bud,AV.sl true 0 1 (List UInt8) Ag (x.2.1++[blk x.2.2.2.1++x.2.2.2.2]),.int .i64 x.2.2.1],.top,.top]) (fun x=>by kernel_rfl) fun(x:WC×List (List UInt8)×Int×Int×List UInt8) (hx:(0≤x.2.2.2.1∧x.2.2.2.1≤100000)∧x.2.2.2.2.length≤2^62∧x.2.1.length≤2^41)=>(by
 dsimp only[SV,cA,Bg,nds,rA,GK,DV,wrA,Aq,Aw,mvL,lnL,mvE,lnE,mvG,mvH,lnG,lnH]
 obtain⟨c,ls,st,i,t⟩:=x;dsimp only[xW] at hx ⊢
 obtain⟨⟨h1,h2⟩,h3,h4⟩:=hx
 (repeat' first|(with_reducible first|rfl|exact True.intro|apply AG|apply And.intro|((first|apply Au|apply AE|apply Av|apply AF)<;>intro _))|(apply As<;>intro _)|apply AD|refine Af () ?_ ?_|((first|apply AK|apply AJ|apply AI|apply AH|apply AC|apply AB|apply AA|apply Az|apply Ax)<;>try dsimp only)|apply Af|(refine Prod.forall.2 ?_;intro _;try dsimp only)|(intro _;try dsimp only))
 all_goals first
  |with_reducible rfl
  |exact(show AR _ _ from rfl)
  |rfl
  |((try simp only[Ai,Bb,List.length_cons,List.length_nil]);omega)
  |(have hb:=a6P (i:=i) h1 h2;(try simp only[Ai]);omega)
  |skip)
structure wvP (c:WC) (n:Nat) (s:Ws) (pre:List UInt8) (k:Int) (post:List UInt8) (i:Int):Prop where
 vw:vwP c n pre k post i
 rm:s.ls.length+81≤2^41
theorem a6R{c:WC}{n:Nat}{s:Ws}{pre:List UInt8}{k:Int}{post:List UInt8}{i:Int}(h:wvP c n s pre k post i):CQ c.ns k pre post i=true∧pfR c.ns n k pre post i=bdP c.ns n k pre post i:=by
 have hb:=h.vw.bd
 have h1:Di pre=true:=by simp only[Di,Bool.and_eq_true,decide_eq_true_eq];exact hb.pr
 have h2:Di post=true:=by simp only[Di,Bool.and_eq_true,decide_eq_true_eq];exact hb.po
 have:= @Yo c.ns n k i pre post h.vw.va (Br.2 hb.ind) h1 h2
 exact⟨this.2,this.1⟩
theorem a6S{c:WC}{n:Nat}{s:Ws}{pre:List UInt8}{k:Int}{post:List UInt8}{i:Int}(h:wvP c n s pre k post i):pfP c.ns n k pre post:=
 ⟨h.vw.tr.ok,h.vw.tr.l30,h.vw.tr.ln,fun _=>h.vw.bd.tw,by have:=h.vw.bd.pr;omega,by have:=h.vw.bd.po;omega⟩
theorem a6T{c:WC}{n:Nat}{s:Ws}{pre:List UInt8}{k:Int}{post:List UInt8}{i:Int}(h:wvP c n s pre k post i):wpL (bdP c.ns n k pre post i) c.w c.bud=El (bdP c.ns n k pre post i) c.w c.bud∧wpS (bdP c.ns n k pre post i) c.w c.bud=Ew (bdP c.ns n k pre post i) c.w c.bud∧(El (bdP c.ns n k pre post i) c.w c.bud).length≤81:=by
 have hb:=Nc h.vw.bd
 exact⟨by rw[wpL,if_pos hb],by rw[wpS,if_pos hb],a6s (EV hb)⟩
theorem Ys{c:WC}{n:Nat}{s:Ws}{pre:List UInt8}{k:Int}{post:List UInt8}{i:Int}(h:Ew (bdP c.ns n k pre post i) c.w c.bud=2):AR (Ca c n pre k post i s) ⟨s.ls++El (bdP c.ns n k pre post i) c.w c.bud,2⟩:=by rw[AR,Ca,if_pos h]
theorem a6U{c:WC}{n:Nat}{s:Ws}{pre:List UInt8}{k:Int}{post:List UInt8}{i:Int}(h:¬Ew (bdP c.ns n k pre post i) c.w c.bud=2):AR (Ca c n pre k post i s) ⟨s.ls++El (bdP c.ns n k pre post i) c.w c.bud,s.st⟩:=by rw[AR,Ca,if_neg h]
def Ey(n:Nat):Sig:= {X:=WC×List (List UInt8)×Int×List UInt8×Int×List UInt8×Int,args:=fun x=>[wrA x.1 (xW x),.str x.2.2.2.1,.int .i64 x.2.2.2.2.1,.str x.2.2.2.2.2.1,.int .i64 x.2.2.2.2.2.2],pre:=fun x=>wvP x.1 n (xW x) x.2.2.2.1 x.2.2.2.2.1 x.2.2.2.2.2.1 x.2.2.2.2.2.2,Y:=List (List UInt8)×Int,post:=fun x y=>AR (Ca x.1 n x.2.2.2.1 x.2.2.2.2.1 x.2.2.2.2.2.1 x.2.2.2.2.2.2 (xW x)) (yW y),res:=fun x y=> .tup [],outs:=fun x y=>[wrA x.1 (yW y),.top,.top,.top,.top],keep:=true}
def b8A(n:Nat)(x:WC×List (List UInt8)×Int×List UInt8×Int×List UInt8×Int):LS:= {ι:=Unit,inv:=fun _=>True,regs:=fun _=>[(0,wrA x.1 (xW x)),(12,.box 0 [Cg (El (bdP x.1.ns n x.2.2.2.2.1 x.2.2.2.1 x.2.2.2.2.2.1 x.2.2.2.2.2.2) x.1.w x.1.bud),.int .i64 (Ew (bdP x.1.ns n x.2.2.2.2.1 x.2.2.2.1 x.2.2.2.2.2.1 x.2.2.2.2.2.2) x.1.w x.1.bud)])],als:=[],meas:=fun _=>0}
def b8B(n:Nat)(x:WC×List (List UInt8)×Int×List UInt8×Int×List UInt8×Int):LS:= {ι:=Unit,inv:=fun _=>True,regs:=fun _=>[(0,wrA x.1 ⟨x.2.1++El (bdP x.1.ns n x.2.2.2.2.1 x.2.2.2.1 x.2.2.2.2.2.1 x.2.2.2.2.2.2) x.1.w x.1.bud,x.2.2.1⟩),(12,.box 0 [.top,.int .i64 (Ew (bdP x.1.ns n x.2.2.2.2.1 x.2.2.2.1 x.2.2.2.2.2.1 x.2.2.2.2.2.2) x.1.w x.1.bud)])],als:=[],meas:=fun _=>0}
def CD(n:Nat)(x:WC×List (List UInt8)×Int×List UInt8×Int×List UInt8×Int)(x_1:(Pm n).X):Prop:=cA SU [.agg [.int .i64 (pfR x_1.1 n x_1.2.1 x_1.2.2.1 x_1.2.2.2.1 x_1.2.2.2.2).ind,AV.sl true 0 2 Ru ruA (pfR x_1.1 n x_1.2.1 x_1.2.2.1 x_1.2.2.2.1 x_1.2.2.2.2).rules,AV.sl true 0 5 Ch chA (pfR x_1.1 n x_1.2.1 x_1.2.2.1 x_1.2.2.2.1 x_1.2.2.2.2).chunks,AV.sl true 0 3 Sn snA (pfR x_1.1 n x_1.2.1 x_1.2.2.1 x_1.2.2.2.1 x_1.2.2.2.2).spans,AV.sl true 0 2 Ti tiA (pfR x_1.1 n x_1.2.1 x_1.2.2.1 x_1.2.2.2.1 x_1.2.2.2.2).ties],.int .i64 x.1.w,.int .i64 x.1.bud] fun x_2 y=>true=true∧(∃(i:Unit),True∧((nds x.1.ns=nds x.1.ns∧x.1.w=x.1.w∧x.1.bud=x.1.bud∧AV.sl true 0 1 (List UInt8) Ag (xW x).ls=AV.sl true 0 1 (List UInt8) Ag (xW x).ls∧((xW x).st=(xW x).st∧AV.sl true 0 1 (List UInt8) Ag (wpL x_2.1 x_2.2.1 x_2.2.2)=AV.sl true 0 1 (List UInt8) Ag (El (bdP x.1.ns n x.2.2.2.2.1 x.2.2.2.1 x.2.2.2.2.2.1 x.2.2.2.2.2.2) x.1.w x.1.bud)∧wpS x_2.1 x_2.2.1 x_2.2.2=Ew (bdP x.1.ns n x.2.2.2.2.1 x.2.2.2.1 x.2.2.2.2.2.1 x.2.2.2.2.2.2) x.1.w x.1.bud∧True))∧True))
def Yt(n:Nat)(x:WC×List (List UInt8)×Int×List UInt8×Int×List UInt8×Int):Prop:=∃(zs:List (List UInt8)),AV.sl true 0 1 (List UInt8) Ag (El (bdP x.1.ns n x.2.2.2.2.1 x.2.2.2.1 x.2.2.2.2.2.1 x.2.2.2.2.2.2) x.1.w x.1.bud)=AV.sl true 0 1 (List UInt8) Ag zs∧(BH Ag∧(Bb (List.length (xW x).ls+List.length zs) (16:Nat)∧(true=true∧(∃(i:Unit),True∧((nds x.1.ns=nds x.1.ns∧x.1.w=x.1.w∧x.1.bud=x.1.bud∧AV.sl true 0 1 (List UInt8) Ag ((xW x).ls++zs)=AV.sl true 0 1 (List UInt8) Ag (x.2.1++El (bdP x.1.ns n x.2.2.2.2.1 x.2.2.2.1 x.2.2.2.2.2.1 x.2.2.2.2.2.2) x.1.w x.1.bud)∧((xW x).st=x.2.2.1∧Ew (bdP x.1.ns n x.2.2.2.2.1 x.2.2.2.1 x.2.2.2.2.2.1 x.2.2.2.2.2.2) x.1.w x.1.bud=Ew (bdP x.1.ns n x.2.2.2.2.1 x.2.2.2.1 x.2.2.2.2.2.1 x.2.2.2.2.2.2) x.1.w x.1.bud∧True))∧True)))))
theorem b8C(n:Nat):Ah G Tryz.prog 100 (Ey n):=
 vcFun_okP [(8,0,(Pm n)),(78,0,IL),(39,0,(Ls n)),(99,0,DV),(127,0,SU)] [(42,⟨List UInt8,Ag⟩)] false (fun x=>[(100005,b8A n x),(100006,b8B n x)]) Tryz.func100 rfl (by decide) ⟨(b7R n),a6z,(b7S n),a6Q,b8y,trivial⟩ (fun(x:WC×List (List UInt8)×Int×List UInt8×Int×List UInt8×Int)=>True∧cA (Pm n) [nds x.1.ns,.int .i64 x.2.2.2.2.1,.str x.2.2.2.1,.str x.2.2.2.2.2.1,.int .i64 x.2.2.2.2.2.2] fun x_1 y=>Ab (!CQ x_1.1 x_1.2.1 x_1.2.2.1 x_1.2.2.2.1 x_1.2.2.2.2) (cA IL [.str x.2.2.2.1,.str #[(61:UInt8)].toList] fun x_2 y=>Ab (Dh x_2.1) ((↑(List.length x.2.2.2.1+(1:Nat)):Int)≤IntKind.max IntKind.i64∧cA (Ls n) [nds x.1.ns,.int .i64 x.2.2.2.2.1] fun x_3 y=>(↑(List.length (x.2.2.2.1++ #[(32:UInt8)].toList)+List.length (Ho x_3.1 n x_3.2)):Int)≤IntKind.max IntKind.i64∧(↑(List.length (x.2.2.2.1++ #[(32:UInt8)].toList++Ho x_3.1 n x_3.2)+List.length x.2.2.2.2.2.1):Int)≤IntKind.max IntKind.i64∧cA DV [.box 0 [nds x.1.ns,.int .i64 x.1.w,.int .i64 x.1.bud,AV.sl true 0 1 (List UInt8) Ag (xW x).ls,.int .i64 (xW x).st],.int .i64 x.2.2.2.2.2.2,.str (x.2.2.2.1++ #[(32:UInt8)].toList++Ho x_3.1 n x_3.2++x.2.2.2.2.2.1)] fun x_4 y=>rA (Ey n) x [.tup [],.box 0 [nds x_4.1.ns,.int .i64 x_4.1.w,.int .i64 x_4.1.bud,AV.sl true 0 1 (List UInt8) Ag (yW y).ls,.int .i64 (yW y).st],.top,.top,.top,.top]) (cA (Ls n) [nds x.1.ns,.int .i64 x.2.2.2.2.1] fun x_3 y=>(↑(List.length x.2.2.2.1+List.length (Ho x_3.1 n x_3.2)):Int)≤IntKind.max IntKind.i64∧(↑(List.length (x.2.2.2.1++Ho x_3.1 n x_3.2)+List.length x.2.2.2.2.2.1):Int)≤IntKind.max IntKind.i64∧cA DV [.box 0 [nds x.1.ns,.int .i64 x.1.w,.int .i64 x.1.bud,AV.sl true 0 1 (List UInt8) Ag (xW x).ls,.int .i64 (xW x).st],.int .i64 x.2.2.2.2.2.2,.str (x.2.2.2.1++Ho x_3.1 n x_3.2++x.2.2.2.2.2.1)] fun x_4 y=>rA (Ey n) x [.tup [],.box 0 [nds x_4.1.ns,.int .i64 x_4.1.w,.int .i64 x_4.1.bud,AV.sl true 0 1 (List UInt8) Ag (yW y).ls,.int .i64 (yW y).st],.top,.top,.top,.top])) (true=true∧(((((CD n x x_1)∧(CD n x x_1))∧(CD n x x_1))∧((((CD n x x_1)∧(CD n x x_1))∧(CD n x x_1))∧((CD n x x_1)∧(CD n x x_1))))∧((((CD n x x_1)∧(CD n x x_1))∧(CD n x x_1))∧((((CD n x x_1)∧(CD n x x_1))∧(CD n x x_1))∧((CD n x x_1)∧(CD n x x_1))))∧((((CD n x x_1)∧(CD n x x_1))∧(CD n x x_1))∧((((CD n x x_1)∧(CD n x x_1))∧(CD n x x_1))∧((CD n x x_1)∧(CD n x x_1))))∧((CD n x x_1)∧(CD n x x_1))∧((CD n x x_1)∧(CD n x x_1))∧((CD n x x_1)∧(CD n x x_1)))∧∀(i:Unit),True→true=true∧((Yt n x)∧(Yt n x))∧∀(i:Unit),True→Ab (Ew (bdP x.1.ns n x.2.2.2.2.1 x.2.2.2.1 x.2.2.2.2.2.1 x.2.2.2.2.2.2) x.1.w x.1.bud==(2:Int)) (rA (Ey n) x [.tup [],.box 0 [nds x.1.ns,.int .i64 x.1.w,.int .i64 x.1.bud,AV.sl true 0 1 (List UInt8) Ag (x.2.1++El (bdP x.1.ns n x.2.2.2.2.1 x.2.2.2.1 x.2.2.2.2.2.1 x.2.2.2.2.2.2) x.1.w x.1.bud),.int .i64 (2:Int)],.top,.top,.top,.top]) (rA (Ey n) x [.tup [],.box 0 [nds x.1.ns,.int .i64 x.1.w,.int .i64 x.1.bud,AV.sl true 0 1 (List UInt8) Ag (x.2.1++El (bdP x.1.ns n x.2.2.2.2.1 x.2.2.2.1 x.2.2.2.2.2.1 x.2.2.2.2.2.2) x.1.w x.1.bud),.int .i64 x.2.2.1],.top,.top,.top,.top]))) (fun x=>by kernel_rfl) fun(x:WC×List (List UInt8)×Int×List UInt8×Int×List UInt8×Int) (hx:wvP x.1 n (xW x) x.2.2.2.1 x.2.2.2.2.1 x.2.2.2.2.2.1 x.2.2.2.2.2.2)=>(by
 dsimp only[Yt,CD,cA,Bl,Bg,nds,Cg,pcA,rA,Bj,Pm,Ls,SU,IL,DV,Ey,Bm,Bn,wrA,Aq,Aw,mvL,lnL,mvE,lnE,mvG,mvH,lnG,lnH]
 obtain⟨c,ls,st,pre,k,post,i⟩:=x;dsimp only[xW] at hx ⊢
 have hx:wvP c n ⟨ls,st⟩ pre k post i:=hx
 have ho:=a6R hx;have hl:=a6T hx
 have hr:=hx.rm;dsimp only at hr
 (repeat' first|refine Ds (bdP c.ns n k pre post i) ?_|(with_reducible first|rfl|exact True.intro|apply AG|apply And.intro|((first|apply Au|apply AE|apply Av|apply AF)<;>intro _))|(apply As<;>intro _)|apply AD|refine Af () ?_ ?_|((first|apply AK|apply AJ|apply AI|apply AH|apply AC|apply AB|apply AA|apply Az|apply Ax)<;>try dsimp only)|apply Af|(refine Prod.forall.2 ?_;intro _;try dsimp only)|(intro _;try dsimp only))
 all_goals first
  |with_reducible rfl
  |(exfalso;rename CQ _ _ _ _ _=false=>hq;rw[ho.1] at hq;cases hq)
  |exact a6S hx
  |(rw[ho.2];done)
  |(rw[hl.1];done)
  |(rw[hl.2.1];done)
  |exact Ys ‹_›
  |exact a6U ‹_›
  |exact Pg hx.vw.bd
  |((try simp only[Ai,Bb]);omega)
  |rfl
  |skip)
structure ndP (c:WC) (n m:Nat) (s:Ws) (k i:Int):Prop where
 v:ndV c n m k i
 rm:s.ls.length+wW c.ns m k≤2^41
def GN(n m:Nat):Sig:= {X:=WC×List (List UInt8)×Int×Int×Int,args:=fun x=>[wrA x.1 (xW x),.int .i64 x.2.2.2.1,.int .i64 x.2.2.2.2],pre:=fun x=>ndP x.1 n m (xW x) x.2.2.2.1 x.2.2.2.2,Y:=List (List UInt8)×Int,post:=fun x y=>AR (wN x.1 n m x.2.2.2.1 x.2.2.2.2 (xW x)) (yW y),res:=fun x y=> .tup [],outs:=fun x y=>[wrA x.1 (yW y),.top,.top],keep:=true}
structure alP (c:WC) (n m:Nat) (s:Ws) (ks:List Int) (i:Int):Prop where
 v:alV c n m ks i
 rm:s.ls.length+(wL (wW c.ns m) ks+ks.length)≤2^41
 kl:ks.length≤2^40
 i0:0≤i∧i≤61
theorem IM{c:WC}{n m:Nat}(ih:∀ {k i:Int} {s:Ws},ndV c n m k i→(wN c n m k i s).ls.length≤s.ls.length+wW c.ns m k){b i:Int}{s:Ws}(h:alV c n m (Aa c.ns b).kids (i+2)):(CC c.ns (wN c n m) b i s).ls.length≤s.ls.length+bkW c.ns m b:=Po ih h
theorem Yu{c:WC}{n m:Nat}{k i:Int}(h:ndV c n m k i):(Al c.ns k=12∨Al c.ns k=13∨Al c.ns k=14∨Al c.ns k=15∨Al c.ns k=16∨Al c.ns k=17∨Al c.ns k=19∨Al c.ns k=20∨Al c.ns k=21):=(Yq h.tk).2
theorem Nh{c:WC}{n m:Nat}{k i:Int}(h:ndV c n (m+1) k i)(h21:¬Al c.ns k=21):wW c.ns (m+1) k=85+wL (wW c.ns m) (Aa c.ns k).kids:=b7W (by have:=Yu h;omega) (Yq h.tk).1
theorem SW{c:WC}{n m:Nat}{k i:Int}(h:ndV c n (m+1) k i)(h21:Al c.ns k=21):wW c.ns (m+1) k=2+(wL (wW c.ns m) (Aa c.ns k).kids+(Aa c.ns k).kids.length):=by
 rw[wW,if_neg (by rw[h21];decide),if_pos (.inr (.inl h21))]
theorem Pr{c:WC}{n m:Nat}{k i:Int}(h:ndV c n m k i)(hk:Al c.ns k=12∨Al c.ns k=13∨Al c.ns k=20∨Al c.ns k=21):(Aa c.ns k).text.length≤30∧Bf (Aa c.ns k).text=true:=by
 have ht:=(Dc (Ed h.up)).2.2.1
 have:Da (Aa c.ns k).text=true:=by
  have h2:(Aa c.ns k).kind=12∨(Aa c.ns k).kind=13∨(Aa c.ns k).kind=20∨(Aa c.ns k).kind=21:=hk
  rw[Dy,if_pos (by omega)] at ht;exact ht
 exact⟨QZ this,a6h this⟩
theorem a6V{c:WC}{n m:Nat}{k i:Int}(h:ndV c n m k i):(Aa c.ns k).text.length≤1048576:=by
 have:=a2k (Bc.1 h.up.1);have:=h.tr.tx;omega
theorem a6W{c:WC}{n m:Nat}{k i:Int}(h:ndV c n m k i):c.ns[k.toNat]? =some (Aa c.ns k):=by
 have hr:=Bc.1 h.up.1
 have e:c.ns[k.toNat]? =some c.ns[k.toNat]:=List.getElem?_eq_getElem (by omega)
 rw[Bd e];exact e
theorem a6X{x:Nd}(h:2≤x.kids.length∧x.kids.length≤3):(x.kids.length=2∧x.kids=[kd x 0,kd x 1])∨(x.kids.length=3∧x.kids=[kd x 0,kd x 1,kd x 2]):=by
 obtain⟨k,t,ks,b⟩:=x
 match ks,h with
 |[a,b],_=>exact .inl ⟨rfl,rfl⟩
 |[a,b,c],_=>exact .inr ⟨rfl,rfl⟩
 |[],h=>simp at h
 |[a],h=>simp at h
 |a::b::c::d::l,h=>simp at h
structure brW (c:WC) (n m:Nat) (b i:Int):Prop where
 up:Bv c.ns b
 al:alV c n m (Aa c.ns b).kids (i+2)
 kl:(Aa c.ns b).kids.length≤12
theorem Ps{c:WC}{n m:Nat}{k i b:Int}(h:ndV c n (m+1) k i)(hk:¬Al c.ns k=21)(hb:b∈(Aa c.ns k).kids)(h18:Al c.ns b=18):brW c n m b i∧2+bkW c.ns m b=wW c.ns m b:=
 ⟨⟨(Cv h.up hb).1,b7U h hk hb h18,(Dc (Ed (Cv h.up hb).1)).2.1⟩,b7V h.up h.lt hb h18⟩
theorem a6Y{c:WC}{n m:Nat}{k i:Int}(h:ndV c n (m+1) k i)(hk:Al c.ns k=16)(hl:¬(Aa c.ns k).kids.length=3):brW c n m (kd (Aa c.ns k) 1) i∧87+bkW c.ns m (kd (Aa c.ns k) 1)≤wW c.ns (m+1) k:=by
 have hi:=JM h.up hk
 rcases a6X hi.1 with⟨e,hks⟩|⟨e,_⟩
 ·have h1:=Ps (b:=kd (Aa c.ns k) 1) h (by omega) (DS (by omega)) (hi.2.2 _ (by rw[hks];simp))
  rw[Nh h (by omega),hks,De,De]
  exact⟨h1.1,by omega⟩
 ·exact absurd e hl
theorem Yv{c:WC}{n m:Nat}{k i:Int}(h:ndV c n (m+1) k i)(hk:Al c.ns k=16)(hl:(Aa c.ns k).kids.length=3):brW c n m (kd (Aa c.ns k) 1) i∧brW c n m (kd (Aa c.ns k) 2) i∧89+(bkW c.ns m (kd (Aa c.ns k) 1)+bkW c.ns m (kd (Aa c.ns k) 2))≤wW c.ns (m+1) k:=by
 have hi:=JM h.up hk
 rcases a6X hi.1 with⟨e,_⟩|⟨e,hks⟩
 ·omega
 ·have h1:=Ps (b:=kd (Aa c.ns k) 1) h (by omega) (DS (by omega)) (hi.2.2 _ (by rw[hks];simp))
  have h2:=Ps (b:=kd (Aa c.ns k) 2) h (by omega) (DS (by omega)) (hi.2.2 _ (by rw[hks];simp))
  rw[Nh h (by omega),hks,De,De,De]
  exact⟨h1.1,h2.1,by omega⟩
theorem Yw{c:WC}{n m:Nat}{k i:Int}(h:ndV c n (m+1) k i)(hk:Al c.ns k=17):brW c n m (kd (Aa c.ns k) 1) i∧87+bkW c.ns m (kd (Aa c.ns k) 1)≤wW c.ns (m+1) k:=by
 have hi:=Ph h.up hk
 have hm:=DS (x:=Aa c.ns k) (i:=1) (by omega)
 have h1:=Ps h (by omega) hm hi.2.2
 have h2:=Om (w:=wW c.ns m) hm
 rw[Nh h (by omega)]
 exact⟨h1.1,by omega⟩
theorem Yx{c:WC}{n m:Nat}{k i:Int}(h:ndV c n (m+1) k i)(hk:Al c.ns k=20):brW c n m (kd (Aa c.ns k) ((Aa c.ns k).kids.length-1)) i∧87+bkW c.ns m (kd (Aa c.ns k) ((Aa c.ns k).kids.length-1))≤wW c.ns (m+1) k:=by
 have hi:=JN h.up hk
 have hm:=DS (x:=Aa c.ns k) (i:=(Aa c.ns k).kids.length-1) (by omega)
 have h1:=Ps h (by omega) hm hi.2.1
 have h2:=Om (w:=wW c.ns m) hm
 rw[Nh h (by omega)]
 exact⟨h1.1,by omega⟩
theorem IP{c:WC}{n:Nat}:∀ {m:Nat} {k i:Int} {s:Ws},ndV c n m k i→(wN c n m k i s).ls.length≤s.ls.length+wW c.ns m k
 |0,k,i,s,h=>by have:=Bc.1 h.up.1;have:=h.lt;omega
 |m+1,k,i,s,h=>by
  have ih:∀ {k i:Int} {s:Ws},ndV c n m k i→(wN c n m k i s).ls.length≤s.ls.length+wW c.ns m k:=IP
  have hkid:∀j:Nat,j<(Aa c.ns k).kids.length→kd (Aa c.ns k) j∈(Aa c.ns k).kids:=fun j hj=>DS hj
  have hk:=Yu h
  unfold Al at hk
  have hvl:∀ {pre post:List UInt8} {s:Ws},0<(Aa c.ns k).kids.length→AX (Al c.ns (kd (Aa c.ns k) 0))=true→(pre.length≤40∧Bf pre=true)→(post.length≤40∧Bf post=true)→(Ca c n pre (kd (Aa c.ns k) 0) post i s).ls.length≤s.ls.length+81:=
   fun hl hv hp hq=>ST (a6K h (hkid 0 hl) hv hp hq)
  rw[wN]
  unfold wV1
  by_cases e21:(Aa c.ns k).kind=21
  ·simp only[e21]
   have hw:=SW h e21
   have h1:=Po ih (i:=i+2) (s:=Bw i ([99,108,97,115,115,32]++(Aa c.ns k).text++[32,123]) s) (Yp h e21)
   simp only[show¬(21:Int)=19 by decide,show¬(21:Int)=12 by decide,show¬(21:Int)=13 by decide,show¬(21:Int)=14 by decide,show¬(21:Int)=15 by decide,show¬(21:Int)=16 by decide,show¬(21:Int)=17 by decide,show¬(21:Int)=20 by decide,if_false,if_true]
   rw[Gd] at h1 ⊢;omega
  have hw:=Nh h e21
  split
  ·rw[Gd];omega
  split
  ·rename_i e
   have hn:=Pr h (.inl e)
   split
   ·rw[Gd];omega
   ·have hm:=hkid 0 (by omega)
    have:=hvl (pre:=[118,97,114,32]++(Aa c.ns k).text++[32,61]) (post:=[59]) (s:=s) (by omega) (HU h.up (.inl e) _ hm) ⟨by simp;omega,by rw[Fp,Fp,hn.2];rfl⟩ ⟨by simp,rfl⟩
    omega
  split
  ·rename_i e
   have hn:=Pr h (.inr (.inl e))
   have hl:=(Iq h.up).2.1
   rw[e] at hl
   have:(CO 13).1=1:=rfl
   have hm:=hkid 0 (by omega)
   have:=hvl (pre:=(Aa c.ns k).text++[32,61]) (post:=[59]) (s:=s) (by omega) (HU h.up (.inr (.inl e)) _ hm) ⟨by simp;omega,by rw[Fp,hn.2];rfl⟩ ⟨by simp,rfl⟩
   omega
  split
  ·rename_i e
   have hl:=(Iq h.up).2.1
   rw[e] at hl
   have:(CO 14).1=1:=rfl
   have hm:=hkid 0 (by omega)
   have:=hvl (pre:=[]) (post:=[59]) (s:=s) (by omega) (HU h.up (.inr (.inr (.inl e))) _ hm) ⟨by simp,rfl⟩ ⟨by simp,rfl⟩
   omega
  split
  ·rename_i e
   split
   ·rw[Gd];omega
   ·have hm:=hkid 0 (by omega)
    have:=hvl (pre:=[114,101,116,117,114,110,32]) (post:=[59]) (s:=s) (by omega) (HU h.up (.inr (.inr (.inr (.inl e)))) _ hm) ⟨by simp,rfl⟩ ⟨by simp,rfl⟩
    omega
  split
  ·rename_i e
   have hi:=JM h.up e
   have h1:=hvl (pre:=[105,102,32,40]) (post:=[41,32,123]) (s:=s) (by omega) hi.2.1 ⟨by simp,rfl⟩ ⟨by simp,rfl⟩
   rw[Gd]
   split
   ·rename_i e3
    have h2:=Yv h e e3
    have h3:=IM ih (s:=Ca c n [105,102,32,40] (kd (Aa c.ns k) 0) [41,32,123] i s) h2.1.al
    have h4:=IM ih (s:=Bw i [125,32,101,108,115,101,32,123] (CC c.ns (wN c n m) (kd (Aa c.ns k) 1) i (Ca c n [105,102,32,40] (kd (Aa c.ns k) 0) [41,32,123] i s))) h2.2.1.al
    rw[Gd] at h4;omega
   ·rename_i e3
    have h2:=a6Y h e e3
    have h3:=IM ih (s:=Ca c n [105,102,32,40] (kd (Aa c.ns k) 0) [41,32,123] i s) h2.1.al
    omega
  split
  ·rename_i e
   have hi:=Ph h.up e
   have h1:=hvl (pre:=[119,104,105,108,101,32,40]) (post:=[41,32,123]) (s:=s) (by omega) hi.2.1 ⟨by simp,rfl⟩ ⟨by simp,rfl⟩
   have h2:=Yw h e
   have h3:=IM ih (s:=Ca c n [119,104,105,108,101,32,40] (kd (Aa c.ns k) 0) [41,32,123] i s) h2.1.al
   rw[Gd];omega
  split
  ·rename_i e
   have h2:=Yx h e
   have h3:=IM ih (s:=Bw i (hdT c.ns (Aa c.ns k)) s) h2.1.al
   rw[Gd] at h3 ⊢;omega
  ·omega
def wlI(ns:List Nd)(f:Int→Int→Ws→Ws)(w:Int→Nat)(ks:List Int)(i:Int)(s0:Ws)(j:Int)(s:Ws):Prop:=
 (0≤j∧j≤ks.length)∧Em ns f i (ks.drop j.toNat) s=Em ns f i ks s0∧s.ls.length+(wL w (ks.drop j.toNat)+(ks.drop j.toNat).length)≤2^41
theorem a6Z{c:WC}{n m:Nat}{s:Ws}{ks:List Int}{i:Int}(h:alP c n m s ks i):wlI c.ns (wN c n m) (wW c.ns m) ks i s 0 s:=⟨by omega,rfl,h.rm⟩
theorem a7a{c:WC}{n m:Nat}{s0 s:Ws}{ks:List Int}{i j:Int}(h:wlI c.ns (wN c n m) (wW c.ns m) ks i s0 j s):0≤j∧j≤ks.length:=h.1
theorem SX{c:WC}{n m:Nat}{s0 s:Ws}{ks:List Int}{i j k:Int}(h:wlI c.ns (wN c n m) (wW c.ns m) ks i s0 j s)(hk:ks[j.toNat]? =some k):s.ls.length+(1+wW c.ns m k)≤2^41:=by
 have h3:=h.2.2
 rw[Dq hk,De,List.length_cons] at h3;omega
theorem a7b{c:WC}{n m:Nat}{s:Ws}{ks:List Int}{i j k:Int}(hx:alP c n m s ks i)(hk:ks[j.toNat]? =some k):0≤k∧k<c.ns.length:=Bc.1 (hx.v k (AY hk)).up.1
theorem a7c{c:WC}{n m:Nat}{s0 s:Ws}{ks:List Int}{i j k:Int}(h:wlI c.ns (wN c n m) (wW c.ns m) ks i s0 j s)(hx:alP c n m s0 ks i)(hk:ks[j.toNat]? =some k):ndP c n m s k i:=⟨hx.v k (AY hk),by have:=SX h hk;omega⟩
theorem a7d{c:WC}{n m:Nat}{s0:Ws}{ls:List (List UInt8)}{st:Int}{ks:List Int}{i j k:Int}(h:wlI c.ns (wN c n m) (wW c.ns m) ks i s0 j ⟨ls,st⟩)(hx:alP c n m s0 ks i)(hk:ks[j.toNat]? =some k):ndP c n m ⟨ls++[[]],st⟩ k i:=⟨hx.v k (AY hk),by have:=SX h hk;simp at this ⊢;omega⟩
theorem a7e{c:WC}{n m:Nat}{s0 s t:Ws}{ks:List Int}{i j k:Int}(h:wlI c.ns (wN c n m) (wW c.ns m) ks i s0 j s)(hx:alP c n m s0 ks i)(hk:ks[j.toNat]? =some k)(ht:t=wN c n m k i (IK c.ns k s)):wlI c.ns (wN c n m) (wW c.ns m) ks i s0 (j+1) t:=by
 have hl:=(Cm hk).1
 have h2:=h.2.1;have h3:=h.2.2
 have h4:=IP (s:=IK c.ns k s) (hx.v k (AY hk))
 have h5:= @a6L c.ns k s
 rw[Dq hk] at h2 h3
 rw[Em] at h2
 rw[De,List.length_cons] at h3
 refine⟨by have:=h.1;omega,?_,?_⟩
 ·rw[BD h.1.1,ht];exact h2
 ·rw[BD h.1.1,ht];omega
theorem a7f{c:WC}{n m:Nat}{s0 t:Ws}{ls:List (List UInt8)}{st:Int}{ks:List Int}{i j k:Int}{e:Nd}(h:wlI c.ns (wN c n m) (wW c.ns m) ks i s0 j ⟨ls,st⟩)(hx:alP c n m s0 ks i)(hk:ks[j.toNat]? =some k)(he:c.ns[k.toNat]? =some e)(hb:e.blank=true)(ht:AR (wN c n m k i ⟨ls++[[]],st⟩) t):wlI c.ns (wN c n m) (wW c.ns m) ks i s0 (j+1) t:=
 a7e h hx hk (by rw[IK,Bd he,if_pos hb];exact ht)
theorem a7g{c:WC}{n m:Nat}{s0 s t:Ws}{ks:List Int}{i j k:Int}{e:Nd}(h:wlI c.ns (wN c n m) (wW c.ns m) ks i s0 j s)(hx:alP c n m s0 ks i)(hk:ks[j.toNat]? =some k)(he:c.ns[k.toNat]? =some e)(hb:e.blank=false)(ht:AR (wN c n m k i s) t):wlI c.ns (wN c n m) (wW c.ns m) ks i s0 (j+1) t:=
 a7e h hx hk (by rw[IK,Bd he,if_neg (by rw[hb];simp)];exact ht)
theorem a7h{c:WC}{n m:Nat}{s0 s:Ws}{ks:List Int}{i j:Int}(h:wlI c.ns (wN c n m) (wW c.ns m) ks i s0 j s)(hj:¬j<ks.length):AR (Em c.ns (wN c n m) i ks s0) s:=by
 have h2:=h.2.1
 rw[List.drop_of_length_le (by have:=h.1;omega),Em] at h2
 exact h2
abbrev vWs (x:List (List UInt8)×Int×Int):Ws:=⟨x.1,x.2.1⟩
attribute [local irreducible] wlI
def GP(n m:Nat):Sig:= {X:=WC×List (List UInt8)×Int×List Int×Int,args:=fun x=>[wrA x.1 (xW x),Ad x.2.2.2.1,.int .i64 x.2.2.2.2],pre:=fun x=>alP x.1 n m (xW x) x.2.2.2.1 x.2.2.2.2,Y:=List (List UInt8)×Int,post:=fun x y=>AR (Em x.1.ns (wN x.1 n m) x.2.2.2.2 x.2.2.2.1 (xW x)) (yW y),res:=fun x y=> .tup [],outs:=fun x y=>[wrA x.1 (yW y),.top,.top],keep:=true}
def Pt(n m:Nat)(x:WC×List (List UInt8)×Int×List Int×Int):LS:= {ι:=List (List UInt8)×Int×Int,inv:=fun j=>wlI x.1.ns (wN x.1 n m) (wW x.1.ns m) x.2.2.2.1 x.2.2.2.2 (xW x) j.2.2 (vWs j),regs:=fun j=>[(0,wrA x.1 (vWs j)),(2,.int .i64 x.2.2.2.2),(8,Ad x.2.2.2.1),(9,.int .i64 x.2.2.2.1.length),(10,.int .i64 j.2.2)],als:=[],meas:=fun j=>x.2.2.2.1.length-j.2.2.toNat}
theorem Yy(n m:Nat)(hc:Ah G Go.Proofs.Tryz.prog 61 (GN n m)):Ah G Tryz.prog 71 (GP n m):=
 vcFun_okP [(61,0,(GN n m))] [(42,⟨List UInt8,Ag⟩)] false (fun x=>[(1,Pt n m x)]) Tryz.func71 rfl (by decide) ⟨hc,trivial⟩ (fun(x:WC×List (List UInt8)×Int×List Int×Int)=>True∧eA (Pt n m x) [.box 0 [nds x.1.ns,.int .i64 x.1.w,.int .i64 x.1.bud,AV.sl true 0 1 (List UInt8) Ag (xW x).ls,.int .i64 (xW x).st],.int .i64 x.2.2.2.2,Ad x.2.2.2.1,.int .i64 (↑(List.length x.2.2.2.1):Int),.int .i64 (0:Int)]∧∀(i:List (List UInt8)×Int×Int),wlI x.1.ns (wN x.1 n m) (wW x.1.ns m) x.2.2.2.1 x.2.2.2.2 (xW x) i.2.2 (vWs i)→Ab (decide (i.2.2<(↑(List.length x.2.2.2.1):Int))) (((0:Int)≤i.2.2∧i.2.2<(↑(List.length x.2.2.2.1):Int))∧∀(e:Int),x.2.2.2.1[Int.toNat i.2.2]? =some e→((0:Int)≤e∧e<(↑(List.length x.1.ns):Int))∧∀(e_1:Nd),x.1.ns[Int.toNat e]? =some e_1→Ab e_1.blank (∃(x_1:List UInt8),#[].toList=x_1∧∃(zs:List (List UInt8)),AV.sl true 0 1 (List UInt8) Ag [x_1]=AV.sl true 0 1 (List UInt8) Ag zs∧BH Ag∧Bb (List.length (vWs i).ls+List.length zs) (16:Nat)∧∃(x_2:WC×List (List UInt8)×Int×Int×Int),ndP x_2.1 n m (xW x_2) x_2.2.2.2.1 x_2.2.2.2.2∧nds x.1.ns=nds x_2.1.ns∧x.1.w=x_2.1.w∧x.1.bud=x_2.1.bud∧AV.sl true 0 1 (List UInt8) Ag ((vWs i).ls++zs)=AV.sl true 0 1 (List UInt8) Ag (xW x_2).ls∧(vWs i).st=(xW x_2).st∧e=x_2.2.2.2.1∧x.2.2.2.2=x_2.2.2.2.2∧∀(y:List (List UInt8)×Int),AR (wN x_2.1 n m x_2.2.2.2.1 x_2.2.2.2.2 (xW x_2)) (yW y)→inR IntKind.i64 (i.2.2+(1:Int))∧eN (Pt n m x) i [.box 0 [nds x_2.1.ns,.int .i64 x_2.1.w,.int .i64 x_2.1.bud,AV.sl true 0 1 (List UInt8) Ag (yW y).ls,.int .i64 (yW y).st],.int .i64 x.2.2.2.2,Ad x.2.2.2.1,.int .i64 (↑(List.length x.2.2.2.1):Int),.int .i64 (i.2.2+(1:Int))]) (cA (GN n m) [.box 0 [nds x.1.ns,.int .i64 x.1.w,.int .i64 x.1.bud,AV.sl true 0 1 (List UInt8) Ag (vWs i).ls,.int .i64 (vWs i).st],.int .i64 e,.int .i64 x.2.2.2.2] fun x_1 y=>inR IntKind.i64 (i.2.2+(1:Int))∧eN (Pt n m x) i [.box 0 [nds x_1.1.ns,.int .i64 x_1.1.w,.int .i64 x_1.1.bud,AV.sl true 0 1 (List UInt8) Ag (yW y).ls,.int .i64 (yW y).st],.int .i64 x.2.2.2.2,Ad x.2.2.2.1,.int .i64 (↑(List.length x.2.2.2.1):Int),.int .i64 (i.2.2+(1:Int))])) (rA (GP n m) x [.tup [],.box 0 [nds x.1.ns,.int .i64 x.1.w,.int .i64 x.1.bud,AV.sl true 0 1 (List UInt8) Ag (vWs i).ls,.int .i64 (vWs i).st],.top,.top])) (fun x=>by kernel_rfl) fun(x:WC×List (List UInt8)×Int×List Int×Int) (hx:alP x.1 n m (xW x) x.2.2.2.1 x.2.2.2.2)=>(by
 dsimp only[cA,eA,eN,Pt,Ad,Bg,nds,rA,GP,GN,wrA,Aq,Aw,mvL,lnL,mvE,lnE,mvG,mvH,lnG,lnH,AZ]
 obtain⟨c,ls,st,ks,i⟩:=x;dsimp only[xW] at hx ⊢
 have hx:alP c n m ⟨ls,st⟩ ks i:=hx
 have h1:=hx.kl;have h2:=hx.rm;dsimp only at h2
 (repeat' first|(with_reducible first|rfl|exact True.intro|apply AG|apply And.intro|((first|apply Au|apply AE|apply Av|apply AF)<;>intro _))|(apply As<;>intro _)|apply AD|refine Af () ?_ ?_|((first|apply AK|apply AJ|apply AI|apply AH|apply AC|apply AB|apply AA|apply Az|apply Ax)<;>try dsimp only)|apply Af|(refine Prod.forall.2 ?_;intro _;try dsimp only)|(intro _;try dsimp only))
 all_goals(try dsimp only[yW,xW,vWs] at*)
 all_goals first
  |with_reducible rfl
  |exact a6Z hx
  |exact a7c ‹_› hx ‹_›
  |exact a7d ‹_› hx ‹_›
  |exact a7f ‹_› hx ‹_› ‹_› ‹_› ‹_›
  |exact a7g ‹_› hx ‹_› ‹_› ‹_› ‹_›
  |exact a7h ‹_› ‹_›
  |(have hq:=a7a (show wlI _ _ _ _ _ _ _ _ by assumption);(try simp only[Ai]);omega)
  |(have hq:=a7b hx ‹_›;omega)
  |(have hq:=SX (show wlI _ _ _ _ _ _ _ _ by assumption) ‹_›;dsimp only at hq;(try simp only[Bb,List.length_cons,List.length_nil]);omega)
  |exact()
  |rfl
  |skip)
structure bkP (c:WC) (n m:Nat) (s:Ws) (b i:Int):Prop where
 br:brW c n m b i
 rm:s.ls.length+bkW c.ns m b≤2^41
 i0:0≤i∧i≤59
theorem a7i{c:WC}{n m:Nat}{s:Ws}{b i:Int}{e:Nd}(h:bkP c n m s b i)(he:c.ns[b.toNat]? =some e):alP c n m s e.kids (i+2):=by
 rw[←Bd he]
 exact⟨h.br.al,h.rm,by have:=h.br.kl;omega,by have:=h.i0;omega⟩
theorem a7j{c:WC}{n m:Nat}{s t:Ws}{b i:Int}{e:Nd}(he:c.ns[b.toNat]? =some e)(h:AR (Em c.ns (wN c n m) (i+2) e.kids s) t):AR (CC c.ns (wN c n m) b i s) t:=by
 rw[CC,Bd he];exact h
def IQ(n m:Nat):Sig:= {X:=WC×List (List UInt8)×Int×Int×Int,args:=fun x=>[wrA x.1 (xW x),.int .i64 x.2.2.2.1,.int .i64 x.2.2.2.2],pre:=fun x=>bkP x.1 n m (xW x) x.2.2.2.1 x.2.2.2.2,Y:=List (List UInt8)×Int,post:=fun x y=>AR (CC x.1.ns (wN x.1 n m) x.2.2.2.1 x.2.2.2.2 (xW x)) (yW y),res:=fun x y=> .tup [],outs:=fun x y=>[wrA x.1 (yW y),.top,.top],keep:=true}
theorem b8D(n m:Nat)(hc:Ah G Go.Proofs.Tryz.prog 61 (GN n m)):Ah G Tryz.prog 101 (IQ n m):=
 vcFun_okP [(71,0,(GP n m))] [] false (fun x=>[]) Tryz.func101 rfl (by decide) ⟨(Yy n m hc),trivial⟩ (fun(x:WC×List (List UInt8)×Int×Int×Int)=>True∧((0:Int)≤x.2.2.2.1∧x.2.2.2.1<(↑(List.length x.1.ns):Int))∧∀(e:Nd),x.1.ns[Int.toNat x.2.2.2.1]? =some e→inR IntKind.i64 (x.2.2.2.2+(2:Int))∧cA (GP n m) [.box 0 [nds x.1.ns,.int .i64 x.1.w,.int .i64 x.1.bud,AV.sl true 0 1 (List UInt8) Ag (xW x).ls,.int .i64 (xW x).st],Ad e.kids,.int .i64 (x.2.2.2.2+(2:Int))] fun x_1 y=>rA (IQ n m) x [.tup [],.box 0 [nds x_1.1.ns,.int .i64 x_1.1.w,.int .i64 x_1.1.bud,AV.sl true 0 1 (List UInt8) Ag (yW y).ls,.int .i64 (yW y).st],.top,.top]) (fun x=>by kernel_rfl) fun(x:WC×List (List UInt8)×Int×Int×Int) (hx:bkP x.1 n m (xW x) x.2.2.2.1 x.2.2.2.2)=>(by
 dsimp only[cA,Ad,Bg,nds,rA,GP,IQ,wrA,Aq,Aw,mvL,lnL,mvE,lnE,mvG,mvH,lnG,lnH]
 obtain⟨c,ls,st,b,i⟩:=x;dsimp only[xW] at hx ⊢
 have hx:bkP c n m ⟨ls,st⟩ b i:=hx
 have h1:=Bc.1 hx.br.up.1;have h2:=hx.i0
 (repeat' first|(with_reducible first|rfl|exact True.intro|apply AG|apply And.intro|((first|apply Au|apply AE|apply Av|apply AF)<;>intro _))|(apply As<;>intro _)|apply AD|refine Af () ?_ ?_|((first|apply AK|apply AJ|apply AI|apply AH|apply AC|apply AB|apply AA|apply Az|apply Ax)<;>try dsimp only)|apply Af|(refine Prod.forall.2 ?_;intro _;try dsimp only)|(intro _;try dsimp only))
 all_goals first
  |with_reducible rfl
  |exact a7i hx ‹_›
  |exact a7j ‹_› ‹_›
  |((try simp only[Ai]);omega)
  |skip)
structure hdP (ns:List Nd) (x:Nd):Prop where
 kl:1≤x.kids.length∧x.kids.length≤12
 nm:∀k∈x.kids.take (x.kids.length-1),(Aa ns k).text.length≤30
 nd:∀k∈x.kids,0≤k∧k<ns.length
 tx:x.text.length≤30
def hdM(ns:List Nd)(x:Nd)(i:Int):List (List UInt8):=fnM ⟨0,ns,false⟩ x i
theorem Yz{ns:List Nd}{x:Nd}{i:Int}(h:¬i<(fnT x).length):DF (hdM ns x i) [44,32]=DC ns (fnT x) true:=XG (c:=⟨0,ns,false⟩) h
theorem a7k{ns:List Nd}{x:Nd}{i:Int}(hx:hdP ns x)(h:¬i<(fnT x).length):(DF (hdM ns x i) [44,32]).length≤400:=by
 rw[Yz h]
 have h1:=KK (ns:=ns) (w:=fun _=>30) (l:=fnT x) (first:=true) fun k hk=>hx.nm k hk
 have h2:=Jt (w:=fun _=>30) (b:=30) (l:=fnT x) fun _ _=>by omega
 have h3:= @Ga x;have h4:=hx.kl
 omega
theorem b8E{ns:List Nd}{x:Nd}:hdM ns x 0=[]:=rfl
theorem a7l{ns:List Nd}{x:Nd}{i k:Int}{e:Nd}(h0:0≤i)(h:(fnT x)[i.toNat]? =some k)(he:ns[k.toNat]? =some e):hdM ns x i++[e.text]=hdM ns x (i+1):=XF (c:=⟨0,ns,false⟩) h0 h he
theorem b8F{ns:List Nd}{x:Nd}{i:Int}:(hdM ns x i).length≤x.kids.length:=Sv
theorem b8G{ns:List Nd}{x:Nd}{i:Int}{t:List UInt8}(h:x.kids.length≤12):Bb ((hdM ns x i).length+[t].length) 16:=a5j h
theorem b8H{ns:List Nd}{x:Nd}{i:Nat}{k:Int}(hx:hdP ns x)(h:(fnT x)[i]? =some k):0≤k∧k<ns.length:=hx.nd k (XE h)
theorem b8I{ns:List Nd}{x:Nd}{i:Int}(h:¬i<(fnT x).length):x.text++[40]++DF (hdM ns x i) [44,32]++[41,32,123]=hdT ns x:=by rw[Yz h,hdT,fnT]
def Ni:Sig:= {X:=List Nd×Nd,args:=fun x=>[nds x.1,.agg (ndA false x.2)],pre:=fun x=>hdP x.1 x.2,Y:=Unit,post:=fun x y=>True,res:=fun x y=> .str (hdT x.1 x.2),outs:=fun x y=>[.top,.top],keep:=false}
def SY(x:List Nd×Nd):LS:= {ι:=Int,inv:=fun i=>0≤i∧i≤(fnT x.2).length,regs:=fun i=>[(0,nds x.1),(3,.box 0 (ndA false x.2)),(5,Cg (hdM x.1 x.2 i)),(14,Ad (fnT x.2)),(15,.int .i64 (fnT x.2).length),(16,.int .i64 i)],als:=[],meas:=fun i=>(fnT x.2).length-i.toNat}
def SZ(x:List Nd×Nd):LS:= {ι:=Unit,inv:=fun _=>True,regs:=fun _=>[(4,.str (hdT x.1 x.2))],als:=[],meas:=fun _=>0}
theorem b8J:Ah G Tryz.prog 102 Ni:=
 vcFun_okP [(128,0,GJ)] [(42,⟨List UInt8,Ag⟩)] false (fun x=>[(3,SY x),(100007,SZ x)]) Tryz.func102 rfl (by decide) ⟨a2S,trivial⟩ (fun(x:List Nd×Nd)=>(∀(y:Unit),True→True∧True∧True∧True)∧inR IntKind.i64 ((↑(List.length x.2.kids):Int)-(1:Int))∧((0:Int)≤(0:Int)∧(0:Int)≤(↑(List.length x.2.kids):Int)-(1:Int)∧(↑(List.length x.2.kids):Int)-(1:Int)≤(↑(List.length x.2.kids):Int))∧eA (SY x) [nds x.1,.box 0 [.int .i64 x.2.kind,.str x.2.text,Ad x.2.kids,.bool x.2.blank],.nil,Ad (List.take (Int.toNat ((↑(List.length x.2.kids):Int)-(1:Int))) x.2.kids),.int .i64 (↑(List.length (List.take (Int.toNat ((↑(List.length x.2.kids):Int)-(1:Int))) x.2.kids)):Int),.int .i64 (0:Int)]∧∀(i:Int),(0:Int)≤i∧i≤(↑(List.length (fnT x.2)):Int)→Ab (decide (i<(↑(List.length (fnT x.2)):Int))) (((0:Int)≤i∧i<(↑(List.length (fnT x.2)):Int))∧∀(e:Int),(fnT x.2)[Int.toNat i]? =some e→((0:Int)≤e∧e<(↑(List.length x.1):Int))∧∀(e_1:Nd),x.1[Int.toNat e]? =some e_1→∃(x_1:List UInt8),e_1.text=x_1∧∃(zs:List (List UInt8)),AV.sl true 0 1 (List UInt8) Ag [x_1]=AV.sl true 0 1 (List UInt8) Ag zs∧BH Ag∧Bb (List.length (hdM x.1 x.2 i)+List.length zs) (16:Nat)∧inR IntKind.i64 (i+(1:Int))∧eN (SY x) i [nds x.1,.box 0 [.int .i64 x.2.kind,.str x.2.text,Ad x.2.kids,.bool x.2.blank],AV.sl true 0 1 (List UInt8) Ag (hdM x.1 x.2 i++zs),Ad (fnT x.2),.int .i64 (↑(List.length (fnT x.2)):Int),.int .i64 (i+(1:Int))]) (true=true∧(((↑(List.length x.2.text+(1:Nat)):Int)≤IntKind.max IntKind.i64∧cA GJ [AV.sl true 0 1 (List UInt8) Ag (hdM x.1 x.2 i),.str #[(44:UInt8),(32:UInt8)].toList] fun x_1 y=>(↑(List.length (x.2.text++ #[(40:UInt8)].toList)+List.length (DF x_1.1 x_1.2)):Int)≤IntKind.max IntKind.i64∧((↑(List.length (x.2.text++ #[(40:UInt8)].toList++DF x_1.1 x_1.2)+(3:Nat)):Int)≤IntKind.max IntKind.i64∧(true=true∧(eA (SZ x) [.str (x.2.text++ #[(40:UInt8)].toList++DF x_1.1 x_1.2++ #[(41:UInt8),(32:UInt8),(123:UInt8)].toList)]))))∧cA GJ [AV.sl true 0 1 (List UInt8) Ag (hdM x.1 x.2 i),.str #[(44:UInt8),(32:UInt8)].toList] fun x_1 y=>(↑(List.length x.2.text+(1:Nat)):Int)≤IntKind.max IntKind.i64∧(↑(List.length (x.2.text++ #[(40:UInt8)].toList)+List.length (DF x_1.1 x_1.2)):Int)≤IntKind.max IntKind.i64∧((↑(List.length (x.2.text++ #[(40:UInt8)].toList++DF x_1.1 x_1.2)+(3:Nat)):Int)≤IntKind.max IntKind.i64∧(true=true∧(eA (SZ x) [.str (x.2.text++ #[(40:UInt8)].toList++DF x_1.1 x_1.2++ #[(41:UInt8),(32:UInt8),(123:UInt8)].toList)]))))∧∀(i:Unit),True→rA Ni x [.str (hdT x.1 x.2),.top,.top])) (fun x=>by kernel_rfl) fun(x:List Nd×Nd) (hx:hdP x.1 x.2)=>(by
 dsimp only[cA,eA,eN,SZ,SY,Ad,Bg,nds,Cg,rA,GJ,Ni,Ej,Aq,Aw,mvL,lnL,mvE,lnE,mvG,mvH,lnG,lnH,AZ]
 obtain⟨ns,x⟩:=x;dsimp only at hx ⊢
 have hx:hdP ns x:=hx
 have h2:=hx.kl;have h3:=hx.tx
 (repeat' first|(with_reducible first|rfl|exact True.intro|apply AG|apply And.intro|((first|apply Au|apply AE|apply Av|apply AF)<;>intro _))|(apply As<;>intro _)|apply AD|refine Af () ?_ ?_|((first|apply AK|apply AJ|apply AI|apply AH|apply AC|apply AB|apply AA|apply Az|apply Ax)<;>try dsimp only)|apply Af|(refine Prod.forall.2 ?_;intro _;try dsimp only)|(intro _;try dsimp only))
 all_goals first
  |with_reducible rfl
  |exact Su hx.kl.1
  |(rw[Su hx.kl.1];done)
  |exact b8E
  |exact a7l (by omega) ‹_› ‹_›
  |exact(a7l (by omega) ‹_› ‹_›).symm
  |exact b8I ‹_›
  |exact b8G hx.kl.2
  |(have hl:= @Ga x;(try simp only[Ai]);omega)
  |(have hq:=b8H hx ‹_›;(try simp only[Ai]);omega)
  |(have hq:=a7k hx ‹_›;(try simp only[Ai,List.length_append,List.length_cons,List.length_nil]);omega)
  |(have hm:= @b8F ns x ‹Int›;omega)
  |exact()
  |rfl
  |skip)
end Go.My
end
section
namespace Go.My
open Go.Eng Go.Proofs
variable {G:GInv}
def tIf:List UInt8:=[105,102,32,40]
def tWh:List UInt8:=[119,104,105,108,101,32,40]
def tPE:List UInt8:=[41,32,123]
theorem nq{c:WC}{n m:Nat}{s t:Ws}{k i:Int}(h:t=wV1 c n (wN c n m) (Aa c.ns k) i s):AR (wN c n (m+1) k i s) t:=h
theorem Pu{c:WC}{n m:Nat}{s:Ws}{k i:Int}(h:ndP c n (m+1) s k i):s.ls.length+2≤2^41∧(¬(Aa c.ns k).kind=21→s.ls.length+85≤2^41):=by
 have h1:=h.rm
 by_cases e:(Aa c.ns k).kind=21
 ·have:=SW h.v e;omega
 ·have:=Nh h.v e;omega
theorem HW{c:WC}{n m:Nat}{s:Ws}{k i:Int}(h:ndP c n m s k i):(0≤k∧k<c.ns.length)∧(0≤i∧i≤59)∧(Aa c.ns k).kids.length≤12:=⟨Bc.1 h.v.up.1,a6I h.v,(Dc (Ed h.v.up)).2.1⟩
theorem a7m{c:WC}{n m:Nat}{s t:Ws}{k i:Int}(hk:(Aa c.ns k).kind=19)(h:AR (Bw i (Aa c.ns k).text s) t):AR (wN c n (m+1) k i s) t:=nq (by rw[wV1,if_pos hk];exact h)
theorem Nj{c:WC}{n m:Nat}{s:Ws}{k i d:Int}{pre post:List UInt8}(h:ndP c n (m+1) s k i)(hk:¬(Aa c.ns k).kind=21)(hd:(Aa c.ns k).kids[(0:Nat)]? =some d)(hv:AX (Al c.ns d)=true)(hp:pre.length≤40∧Bf pre=true)(hq:post.length≤40∧Bf post=true):wvP c n s pre d post i:=
 ⟨a6K h.v (AY hd) hv hp hq,by have:=(Pu h).2 hk;omega⟩
theorem a7n{c:WC}{n m:Nat}{s:Ws}{k i d:Int}(h:ndP c n (m+1) s k i)(hk:(Aa c.ns k).kind=12)(hd:(Aa c.ns k).kids[(0:Nat)]? =some d):wvP c n s ([118,97,114,32]++(Aa c.ns k).text++[32,61]) d [59] i:=by
 have hn:=Pr h.v (.inl hk)
 exact Nj h (by omega) hd (HU h.v.up (.inl hk) d (AY hd)) ⟨by simp;omega,by rw[Fp,Fp,hn.2];rfl⟩ ⟨by simp,rfl⟩
theorem Ta{c:WC}{n m:Nat}{s:Ws}{k i:Int}(h:ndP c n m s k i)(hk:(Aa c.ns k).kind=12∨(Aa c.ns k).kind=13∨(Aa c.ns k).kind=20∨(Aa c.ns k).kind=21):(Aa c.ns k).text.length≤30:=(Pr h.v hk).1
theorem b8K{c:WC}{n m:Nat}{s t:Ws}{k i d:Int}(hk:(Aa c.ns k).kind=12)(hl:¬((Aa c.ns k).kids.length:Int)=0)(hd:(Aa c.ns k).kids[(0:Nat)]? =some d)(h:AR (Ca c n ([118,97,114,32]++(Aa c.ns k).text++[32,61]) d [59] i s) t):AR (wN c n (m+1) k i s) t:=
 nq (by rw[wV1,if_neg (by omega),if_pos hk,if_neg (by omega),Ct hd];exact h)
theorem b8L{c:WC}{n m:Nat}{s t:Ws}{k i:Int}(hk:(Aa c.ns k).kind=12)(hl:((Aa c.ns k).kids.length:Int)=0)(h:AR (Bw i ([118,97,114,32]++(Aa c.ns k).text++[59]) s) t):AR (wN c n (m+1) k i s) t:=
 nq (by rw[wV1,if_neg (by omega),if_pos hk,if_pos (by omega)];exact h)
theorem a7o{c:WC}{n m:Nat}{s:Ws}{k i d:Int}(h:ndP c n (m+1) s k i)(hk:(Aa c.ns k).kind=13)(hd:(Aa c.ns k).kids[(0:Nat)]? =some d):wvP c n s ((Aa c.ns k).text++[32,61]) d [59] i:=by
 have hn:=Pr h.v (.inr (.inl hk))
 exact Nj h (by omega) hd (HU h.v.up (.inr (.inl hk)) d (AY hd)) ⟨by simp;omega,by rw[Fp,hn.2];rfl⟩ ⟨by simp,rfl⟩
theorem b8M{c:WC}{n m:Nat}{s t:Ws}{k i d:Int}(hk:(Aa c.ns k).kind=13)(hd:(Aa c.ns k).kids[(0:Nat)]? =some d)(h:AR (Ca c n ((Aa c.ns k).text++[32,61]) d [59] i s) t):AR (wN c n (m+1) k i s) t:=
 nq (by rw[wV1,if_neg (by omega),if_neg (by omega),if_pos hk,Ct hd];exact h)
theorem a7p{c:WC}{n m:Nat}{s:Ws}{k i d:Int}(h:ndP c n (m+1) s k i)(hk:(Aa c.ns k).kind=14)(hd:(Aa c.ns k).kids[(0:Nat)]? =some d):wvP c n s [] d [59] i:=
 Nj h (by omega) hd (HU h.v.up (.inr (.inr (.inl hk))) d (AY hd)) ⟨by simp,rfl⟩ ⟨by simp,rfl⟩
theorem b8N{c:WC}{n m:Nat}{s t:Ws}{k i d:Int}(hk:(Aa c.ns k).kind=14)(hd:(Aa c.ns k).kids[(0:Nat)]? =some d)(h:AR (Ca c n [] d [59] i s) t):AR (wN c n (m+1) k i s) t:=
 nq (by rw[wV1,if_neg (by omega),if_neg (by omega),if_neg (by omega),if_pos hk,Ct hd];exact h)
theorem a7q{c:WC}{n m:Nat}{s:Ws}{k i d:Int}(h:ndP c n (m+1) s k i)(hk:(Aa c.ns k).kind=15)(hd:(Aa c.ns k).kids[(0:Nat)]? =some d):wvP c n s [114,101,116,117,114,110,32] d [59] i:=
 Nj h (by omega) hd (HU h.v.up (.inr (.inr (.inr (.inl hk)))) d (AY hd)) ⟨by simp,rfl⟩ ⟨by simp,rfl⟩
theorem b8O{c:WC}{n m:Nat}{s t:Ws}{k i d:Int}(hk:(Aa c.ns k).kind=15)(hl:¬((Aa c.ns k).kids.length:Int)=0)(hd:(Aa c.ns k).kids[(0:Nat)]? =some d)(h:AR (Ca c n [114,101,116,117,114,110,32] d [59] i s) t):AR (wN c n (m+1) k i s) t:=
 nq (by rw[wV1,if_neg (by omega),if_neg (by omega),if_neg (by omega),if_neg (by omega),if_pos hk,if_neg (by omega),Ct hd];exact h)
theorem b8P{c:WC}{n m:Nat}{s t:Ws}{k i:Int}(hk:(Aa c.ns k).kind=15)(hl:((Aa c.ns k).kids.length:Int)=0)(h:AR (Bw i [114,101,116,117,114,110,59] s) t):AR (wN c n (m+1) k i s) t:=
 nq (by rw[wV1,if_neg (by omega),if_neg (by omega),if_neg (by omega),if_neg (by omega),if_pos hk,if_pos (by omega)];exact h)
theorem YA{c:WC}{n m:Nat}{s:Ws}{k i d:Int}(h:ndP c n (m+1) s k i)(hk:(Aa c.ns k).kind=16)(hd:(Aa c.ns k).kids[(0:Nat)]? =some d):wvP c n s tIf d tPE i:=
 Nj h (by omega) hd (by have:=(JM h.v.up hk).2.1;rwa [Ct hd] at this) ⟨by decide,rfl⟩ ⟨by decide,rfl⟩
def Nk(c:WC)(n:Nat)(k i:Int)(s:Ws):Ws:=Ca c n tIf (kd (Aa c.ns k) 0) tPE i s
def Nl(c:WC)(n m:Nat)(k i:Int)(s:Ws):Ws:=CC c.ns (wN c n m) (kd (Aa c.ns k) 1) i (Nk c n k i s)
def Nm(c:WC)(n m:Nat)(k i:Int)(s:Ws):Ws:=Bw i [125,32,101,108,115,101,32,123] (Nl c n m k i s)
def Tb(c:WC)(n m:Nat)(k i:Int)(s:Ws):Ws:=CC c.ns (wN c n m) (kd (Aa c.ns k) 2) i (Nm c n m k i s)
theorem b8Q{c:WC}{n m:Nat}{s:Ws}{k i:Int}(h:ndP c n (m+1) s k i)(hk:(Aa c.ns k).kind=16):(Aa c.ns k).kids[(0:Nat)]? =some (kd (Aa c.ns k) 0):=by
 have hi:=JM h.v.up hk
 have hg:(Aa c.ns k).kids[0]? =some (Aa c.ns k).kids[0]:=List.getElem?_eq_getElem (by omega)
 rw[Ct hg];exact hg
theorem a7r{c:WC}{n m:Nat}{s:Ws}{k i:Int}(h:ndP c n (m+1) s k i)(hk:(Aa c.ns k).kind=16):(Nk c n k i s).ls.length≤s.ls.length+81:=ST (YA h hk (b8Q h hk)).vw
theorem YB{c:WC}{n m:Nat}{s:Ws}{k i:Int}(h:ndP c n (m+1) s k i)(hk:(Aa c.ns k).kind=16):brW c n m (kd (Aa c.ns k) 1) i∧s.ls.length+(87+bkW c.ns m (kd (Aa c.ns k) 1))≤2^41:=by
 have h1:=h.rm
 by_cases e:(Aa c.ns k).kids.length=3
 ·have:=Yv h.v hk e;exact⟨this.1,by omega⟩
 ·have:=a6Y h.v hk e;exact⟨this.1,by omega⟩
theorem b8R{c:WC}{n m:Nat}{s:Ws}{k i:Int}(h:ndP c n (m+1) s k i)(hk:(Aa c.ns k).kind=16):bkP c n m (Nk c n k i s) (kd (Aa c.ns k) 1) i:=by
 have h1:=YB h hk;have h2:=a7r h hk
 exact⟨h1.1,by omega,(HW h).2.1⟩
theorem a7s{c:WC}{n m:Nat}{s:Ws}{k i:Int}(h:ndP c n (m+1) s k i)(hk:(Aa c.ns k).kind=16):(Nl c n m k i s).ls.length≤s.ls.length+(81+bkW c.ns m (kd (Aa c.ns k) 1)):=by
 have h1:=YB h hk;have h2:=a7r h hk
 have h3:=IM (s:=Nk c n k i s) IP h1.1.al
 unfold Nl;omega
theorem a7t{c:WC}{n m:Nat}{s:Ws}{k i:Int}(h:ndP c n (m+1) s k i)(hk:(Aa c.ns k).kind=16)(e:(Aa c.ns k).kids.length=3):bkP c n m (Nm c n m k i s) (kd (Aa c.ns k) 2) i∧(Tb c n m k i s).ls.length+2≤2^41:=by
 have h1:=Yv h.v hk e;have h2:=a7s h hk;have h3:=h.rm
 have h4:(Nm c n m k i s).ls.length=(Nl c n m k i s).ls.length+1:=Gd
 have h5:=IM (s:=Nm c n m k i s) IP h1.2.1.al
 exact⟨⟨h1.2.1,by omega,(HW h).2.1⟩,by unfold Tb;omega⟩
theorem a7u{c:WC}{n m:Nat}{s t:Ws}{k i d b:Int}(h1:AR (Ca c n tIf d tPE i s) t)(hd:(Aa c.ns k).kids[(0:Nat)]? =some d)(hb:(Aa c.ns k).kids[(1:Nat)]? =some b)(h:ndP c n (m+1) s k i)(hk:(Aa c.ns k).kind=16):bkP c n m t b i:=by
 have:=b8R h hk
 rw[Nk,Ct hd,Ct hb,←h1] at this;exact this
theorem YC{c:WC}{n m:Nat}{s t u:Ws}{k i d b:Int}(h2:AR (CC c.ns (wN c n m) b i t) u)(h1:AR (Ca c n tIf d tPE i s) t)(hd:(Aa c.ns k).kids[(0:Nat)]? =some d)(hb:(Aa c.ns k).kids[(1:Nat)]? =some b):u=Nl c n m k i s:=by
 rw[Nl,Nk,Ct hd,Ct hb,←h1];exact h2
theorem a7v{c:WC}{n m:Nat}{s t u:Ws}{k i d b:Int}(h2:AR (CC c.ns (wN c n m) b i t) u)(h1:AR (Ca c n tIf d tPE i s) t)(hd:(Aa c.ns k).kids[(0:Nat)]? =some d)(hb:(Aa c.ns k).kids[(1:Nat)]? =some b)(h:ndP c n (m+1) s k i)(hk:(Aa c.ns k).kind=16):u.ls.length+6≤2^41:=by
 have h3:=a7s h hk;have h4:=YB h hk
 rw[YC h2 h1 hd hb];omega
theorem a7w{c:WC}{n m:Nat}{s t u v:Ws}{k i d b:Int}(h3:AR (Bw i [125,32,101,108,115,101,32,123] u) v)(h2:AR (CC c.ns (wN c n m) b i t) u)(h1:AR (Ca c n tIf d tPE i s) t)(hd:(Aa c.ns k).kids[(0:Nat)]? =some d)(hb:(Aa c.ns k).kids[(1:Nat)]? =some b):v=Nm c n m k i s:=by
 rw[Nm,←YC h2 h1 hd hb];exact h3
theorem a7x{c:WC}{n m:Nat}{s t u v:Ws}{k i d b e:Int}(h3:AR (Bw i [125,32,101,108,115,101,32,123] u) v)(h2:AR (CC c.ns (wN c n m) b i t) u)(h1:AR (Ca c n tIf d tPE i s) t)(hd:(Aa c.ns k).kids[(0:Nat)]? =some d)(hb:(Aa c.ns k).kids[(1:Nat)]? =some b)(he:(Aa c.ns k).kids[(2:Nat)]? =some e)(h:ndP c n (m+1) s k i)(hk:(Aa c.ns k).kind=16)(hl:((Aa c.ns k).kids.length:Int)=3):bkP c n m v e i:=by
 have:=(a7t h hk (by omega)).1
 rw[Ct he,←a7w h3 h2 h1 hd hb] at this;exact this
theorem a7y{c:WC}{n m:Nat}{s t u v x:Ws}{k i d b e:Int}(h4:AR (CC c.ns (wN c n m) e i v) x)(h3:AR (Bw i [125,32,101,108,115,101,32,123] u) v)(h2:AR (CC c.ns (wN c n m) b i t) u)(h1:AR (Ca c n tIf d tPE i s) t)(hd:(Aa c.ns k).kids[(0:Nat)]? =some d)(hb:(Aa c.ns k).kids[(1:Nat)]? =some b)(he:(Aa c.ns k).kids[(2:Nat)]? =some e):x=Tb c n m k i s:=by
 rw[Tb,Ct he,←a7w h3 h2 h1 hd hb];exact h4
theorem a7z{c:WC}{n m:Nat}{s t u v x:Ws}{k i d b e:Int}(h4:AR (CC c.ns (wN c n m) e i v) x)(h3:AR (Bw i [125,32,101,108,115,101,32,123] u) v)(h2:AR (CC c.ns (wN c n m) b i t) u)(h1:AR (Ca c n tIf d tPE i s) t)(hd:(Aa c.ns k).kids[(0:Nat)]? =some d)(hb:(Aa c.ns k).kids[(1:Nat)]? =some b)(he:(Aa c.ns k).kids[(2:Nat)]? =some e)(h:ndP c n (m+1) s k i)(hk:(Aa c.ns k).kind=16)(hl:((Aa c.ns k).kids.length:Int)=3):x.ls.length+2≤2^41:=by
 rw[a7y h4 h3 h2 h1 hd hb he];exact(a7t h hk (by omega)).2
theorem a7A{c:WC}{n m:Nat}{s t u v x y:Ws}{k i d b e:Int}(h5:AR (Bw i [125] x) y)(h4:AR (CC c.ns (wN c n m) e i v) x)(h3:AR (Bw i [125,32,101,108,115,101,32,123] u) v)(h2:AR (CC c.ns (wN c n m) b i t) u)(h1:AR (Ca c n tIf d tPE i s) t)(hd:(Aa c.ns k).kids[(0:Nat)]? =some d)(hb:(Aa c.ns k).kids[(1:Nat)]? =some b)(he:(Aa c.ns k).kids[(2:Nat)]? =some e)(hk:(Aa c.ns k).kind=16)(hl:((Aa c.ns k).kids.length:Int)=3):AR (wN c n (m+1) k i s) y:=by
 have h6:=a7y h4 h3 h2 h1 hd hb he
 refine nq ?_
 rw[wV1,if_neg (by omega),if_neg (by omega),if_neg (by omega),if_neg (by omega),if_neg (by omega),if_pos hk,if_pos (by omega)]
 rw[h6] at h5;exact h5
theorem a7B{c:WC}{n m:Nat}{s t u y:Ws}{k i d b:Int}(h5:AR (Bw i [125] u) y)(h2:AR (CC c.ns (wN c n m) b i t) u)(h1:AR (Ca c n tIf d tPE i s) t)(hd:(Aa c.ns k).kids[(0:Nat)]? =some d)(hb:(Aa c.ns k).kids[(1:Nat)]? =some b)(hk:(Aa c.ns k).kind=16)(hl:¬((Aa c.ns k).kids.length:Int)=3):AR (wN c n (m+1) k i s) y:=by
 have h6:=YC h2 h1 hd hb
 refine nq ?_
 rw[wV1,if_neg (by omega),if_neg (by omega),if_neg (by omega),if_neg (by omega),if_neg (by omega),if_pos hk,if_neg (by omega)]
 rw[h6] at h5;exact h5
theorem Tc{c:WC}{n m:Nat}{s:Ws}{k i d:Int}(h:ndP c n (m+1) s k i)(hk:(Aa c.ns k).kind=17)(hd:(Aa c.ns k).kids[(0:Nat)]? =some d):wvP c n s tWh d tPE i:=
 Nj h (by omega) hd (by have:=(Ph h.v.up hk).2.1;rwa [Ct hd] at this) ⟨by decide,rfl⟩ ⟨by decide,rfl⟩
theorem a7C{c:WC}{n m:Nat}{s t:Ws}{k i d b:Int}(h1:AR (Ca c n tWh d tPE i s) t)(hd:(Aa c.ns k).kids[(0:Nat)]? =some d)(hb:(Aa c.ns k).kids[(1:Nat)]? =some b)(h:ndP c n (m+1) s k i)(hk:(Aa c.ns k).kind=17):bkP c n m t b i:=by
 have h2:=Yw h.v hk;have h3:=h.rm
 have h4:=ST (s:=s) (Tc h hk hd).vw
 rw[Ct hb] at h2
 rw[←h1] at h4
 exact⟨h2.1,by omega,(HW h).2.1⟩
theorem a7D{c:WC}{n m:Nat}{s t u:Ws}{k i d b:Int}(h2:AR (CC c.ns (wN c n m) b i t) u)(h1:AR (Ca c n tWh d tPE i s) t)(hd:(Aa c.ns k).kids[(0:Nat)]? =some d)(hb:(Aa c.ns k).kids[(1:Nat)]? =some b)(h:ndP c n (m+1) s k i)(hk:(Aa c.ns k).kind=17):u.ls.length+2≤2^41:=by
 have h3:=Yw h.v hk;have h4:=h.rm
 have h5:=ST (s:=s) (Tc h hk hd).vw
 rw[Ct hb] at h3
 rw[←h1] at h5
 have h6:=IM (s:=t) IP h3.1.al
 rw[h2];omega
theorem a7E{c:WC}{n m:Nat}{s t u y:Ws}{k i d b:Int}(h5:AR (Bw i [125] u) y)(h2:AR (CC c.ns (wN c n m) b i t) u)(h1:AR (Ca c n tWh d tPE i s) t)(hd:(Aa c.ns k).kids[(0:Nat)]? =some d)(hb:(Aa c.ns k).kids[(1:Nat)]? =some b)(hk:(Aa c.ns k).kind=17):AR (wN c n (m+1) k i s) y:=by
 refine nq ?_
 rw[wV1,if_neg (by omega),if_neg (by omega),if_neg (by omega),if_neg (by omega),if_neg (by omega),if_neg (by omega),if_pos hk,Ct hd,Ct hb]
 rw[h2,h1] at h5;exact h5
theorem YD{c:WC}{n m:Nat}{s:Ws}{k i:Int}(h:ndP c n (m+1) s k i)(hk:(Aa c.ns k).kind=20):hdP c.ns (Aa c.ns k):=by
 have hi:=JN h.v.up hk
 refine⟨⟨hi.1,(HW h).2.2⟩,fun e he=> ?_,fun e he=>Bc.1 (Cv h.v.up he).1.1,Ta h (by omega)⟩
 have ht:=(Dc (Ed (Cv h.v.up (List.mem_of_mem_take he)).1)).2.2.1
 have h4:(Aa c.ns e).kind=1:=hi.2.2 e he
 rw[h4] at ht
 exact QZ (by simpa [Dy] using ht)
theorem b8S{ns:List Nd}{x:Nd}(h:hdP ns x):(hdT ns x).length≤440:=by
 have h1:=a7k (i:=(fnT x).length) h (by omega)
 rw[Yz (by omega)] at h1
 have h2:=h.tx
 simp only[fnT] at h1
 rw[hdT]
 simp only[List.length_append,List.length_cons,List.length_nil];omega
theorem YE{c:WC}{n m:Nat}{s t:Ws}{k i b:Int}(h1:AR (Bw i (hdT c.ns (Aa c.ns k)) s) t)(hb:(Aa c.ns k).kids[(((Aa c.ns k).kids.length:Int)-1).toNat]? =some b)(h:ndP c n (m+1) s k i)(hk:(Aa c.ns k).kind=20):bkP c n m t b i:=by
 have h2:=Yx h.v hk;have h3:=h.rm
 have hl:=(JN h.v.up hk).1
 rw[show(((Aa c.ns k).kids.length:Int)-1).toNat=(Aa c.ns k).kids.length-1 by omega] at hb
 rw[Ct hb] at h2
 refine⟨h2.1,?_,(HW h).2.1⟩
 rw[h1,Gd];omega
theorem a7F{c:WC}{n m:Nat}{s t u:Ws}{k i b:Int}(h2:AR (CC c.ns (wN c n m) b i t) u)(h1:AR (Bw i (hdT c.ns (Aa c.ns k)) s) t)(hb:(Aa c.ns k).kids[(((Aa c.ns k).kids.length:Int)-1).toNat]? =some b)(h:ndP c n (m+1) s k i)(hk:(Aa c.ns k).kind=20):u.ls.length+2≤2^41:=by
 have h3:=Yx h.v hk;have h4:=h.rm
 have hl:=(JN h.v.up hk).1
 rw[show(((Aa c.ns k).kids.length:Int)-1).toNat=(Aa c.ns k).kids.length-1 by omega] at hb
 rw[Ct hb] at h3
 have h6:=IM (s:=t) IP h3.1.al
 rw[←h2] at h6
 rw[h1,Gd] at h6;omega
theorem b8T{c:WC}{n m:Nat}{s t u y:Ws}{k i b:Int}(h5:AR (Bw i [125] u) y)(h2:AR (CC c.ns (wN c n m) b i t) u)(h1:AR (Bw i (hdT c.ns (Aa c.ns k)) s) t)(hb:(Aa c.ns k).kids[(((Aa c.ns k).kids.length:Int)-1).toNat]? =some b)(h:ndP c n (m+1) s k i)(hk:(Aa c.ns k).kind=20):AR (wN c n (m+1) k i s) y:=by
 have hl:=(JN h.v.up hk).1
 rw[show(((Aa c.ns k).kids.length:Int)-1).toNat=(Aa c.ns k).kids.length-1 by omega] at hb
 refine nq ?_
 rw[wV1,if_neg (by omega),if_neg (by omega),if_neg (by omega),if_neg (by omega),if_neg (by omega),if_neg (by omega),if_neg (by omega),if_pos hk,Ct hb]
 rw[h2,h1] at h5;exact h5
theorem a7G{c:WC}{n m:Nat}{s t:Ws}{k i:Int}(h1:AR (Bw i ([99,108,97,115,115,32]++(Aa c.ns k).text++[32,123]) s) t)(h:ndP c n (m+1) s k i)(hk:(Aa c.ns k).kind=21):alP c n m t (Aa c.ns k).kids (i+2):=by
 have h2:=SW h.v hk;have h3:=h.rm;have h4:=(HW h).2
 refine⟨Yp h.v hk,?_,by omega,by omega⟩
 rw[h1,Gd];omega
theorem a7H{c:WC}{n m:Nat}{s t u:Ws}{k i:Int}(h2:AR (Em c.ns (wN c n m) (i+2) (Aa c.ns k).kids t) u)(h1:AR (Bw i ([99,108,97,115,115,32]++(Aa c.ns k).text++[32,123]) s) t)(h:ndP c n (m+1) s k i)(hk:(Aa c.ns k).kind=21):u.ls.length≤2^41:=by
 have h3:=SW h.v hk;have h4:=h.rm
 have h5:=Po (s:=t) IP (Yp h.v hk)
 rw[←h2] at h5
 rw[h1,Gd] at h5;omega
theorem a7I{c:WC}{n m:Nat}{s t u y:Ws}{k i:Int}(h5:AR (Bw i [125] u) y)(h2:AR (Em c.ns (wN c n m) (i+2) (Aa c.ns k).kids t) u)(h1:AR (Bw i ([99,108,97,115,115,32]++(Aa c.ns k).text++[32,123]) s) t)(hk:(Aa c.ns k).kind=21):AR (wN c n (m+1) k i s) y:=by
 refine nq ?_
 rw[wV1,if_neg (by omega),if_neg (by omega),if_neg (by omega),if_neg (by omega),if_neg (by omega),if_neg (by omega),if_neg (by omega),if_neg (by omega),if_pos hk]
 rw[h2,h1] at h5;exact h5
theorem a7J{c:WC}{n m:Nat}{s:Ws}{k i:Int}(h:ndP c n m s k i)(hk:((((((((¬(Aa c.ns k).kind=19∧¬(Aa c.ns k).kind=12)∧¬(Aa c.ns k).kind=13)∧¬(Aa c.ns k).kind=14)∧¬(Aa c.ns k).kind=15)∧¬(Aa c.ns k).kind=16)∧¬(Aa c.ns k).kind=17)∧¬(Aa c.ns k).kind=20)∧¬(Aa c.ns k).kind=21)):False:=by
 have:=Yu h.v
 unfold Al at this
 omega
theorem Td{c:WC}{n m:Nat}{s:Ws}{k i:Int}(h:ndP c n (m+1) s k i):((Aa c.ns k).kind=13∨(Aa c.ns k).kind=14→1≤(Aa c.ns k).kids.length)∧((Aa c.ns k).kind=16∨(Aa c.ns k).kind=17→2≤(Aa c.ns k).kids.length)∧((Aa c.ns k).kind=20→1≤(Aa c.ns k).kids.length):=by
 have hl:=(Iq h.v.up).2.1
 refine⟨fun e=> ?_,fun e=> ?_,fun e=>(JN h.v.up e).1⟩
 ·rcases e with e|e<;>rw[e] at hl<;>exact(by have:(CO 13).1=1:=rfl;have:(CO 14).1=1:=rfl;omega)
 ·rcases e with e|e
  ·exact(JM h.v.up e).1.1
  ·exact Nat.le_of_eq (Ph h.v.up e).1.symm
def DH:Sig:= {X:=WC×List (List UInt8)×Int×Int×List UInt8,args:=fun x=>[wrA x.1 (xW x),.int .i64 x.2.2.2.1,.str x.2.2.2.2],pre:=fun x=>(0≤x.2.2.2.1∧x.2.2.2.1≤100000)∧x.2.2.2.2.length≤2^62∧x.2.1.length≤2^41,Y:=List (List UInt8)×Int,post:=fun x y=>AR (Bw x.2.2.2.1 x.2.2.2.2 (xW x)) (yW y),res:=fun x y=> .tup [],outs:=fun x y=>[wrA x.1 (yW y),.top,.top],keep:=true}
def b8U(x:WC×List (List UInt8)×Int×Int×List UInt8):LS:= {ι:=Unit,inv:=fun _=>True,regs:=fun _=>[(0,wrA x.1 ⟨x.2.1++[blk x.2.2.2.1++x.2.2.2.2],x.2.2.1⟩)],als:=[],meas:=fun _=>0}
def Te(x:WC×List (List UInt8)×Int×Int×List UInt8)(x_1:Hg.X):Prop:=∃(x_2:List UInt8),blk x_1.1++x.2.2.2.2=x_2∧(∃(zs:List (List UInt8)),AV.sl true 0 1 (List UInt8) Ag [x_2]=AV.sl true 0 1 (List UInt8) Ag zs∧(BH Ag∧(Bb (List.length (xW x).ls+List.length zs) (16:Nat)∧(true=true∧(∃(i:Unit),True∧((nds x.1.ns=nds x.1.ns∧x.1.w=x.1.w∧x.1.bud=x.1.bud∧AV.sl true 0 1 (List UInt8) Ag ((xW x).ls++zs)=AV.sl true 0 1 (List UInt8) Ag (x.2.1++[blk x.2.2.2.1++x.2.2.2.2])∧(xW x).st=x.2.2.1∧True)∧True))))))
theorem Tf:Ah G Tryz.prog 92 DH:=
 vcFun_okP [(89,0,Hg)] [(42,⟨List UInt8,Ag⟩)] false (fun x=>[(100000,b8U x)]) Tryz.func92 rfl (by decide) ⟨a4b,trivial⟩ (fun(x:WC×List (List UInt8)×Int×Int×List UInt8)=>True∧true=true∧((cA Hg [.int .i64 x.2.2.2.1] fun x_1 y=>(↑(List.length (blk x_1.1)+List.length x.2.2.2.2):Int)≤IntKind.max IntKind.i64∧(Te x x_1))∧cA Hg [.int .i64 x.2.2.2.1] fun x_1 y=>(↑(List.length (blk x_1.1)+List.length x.2.2.2.2):Int)≤IntKind.max IntKind.i64∧(Te x x_1)∧(Te x x_1))∧∀(i:Unit),True→rA DH x [.tup [],.box 0 [nds x.1.ns,.int .i64 x.1.w,.int .i64 x.1.bud,AV.sl true 0 1 (List UInt8) Ag (x.2.1++[blk x.2.2.2.1++x.2.2.2.2]),.int .i64 x.2.2.1],.top,.top]) (fun x=>by kernel_rfl) fun(x:WC×List (List UInt8)×Int×Int×List UInt8) (hx:(0≤x.2.2.2.1∧x.2.2.2.1≤100000)∧x.2.2.2.2.length≤2^62∧x.2.1.length≤2^41)=>(by
 dsimp only[Te,cA,Bg,nds,rA,Hg,DH,wrA,Aq,Aw,mvL,lnL,mvE,lnE,mvG,mvH,lnG,lnH]
 obtain⟨c,ls,st,i,t⟩:=x;dsimp only[xW] at hx ⊢
 obtain⟨⟨h1,h2⟩,h3,h4⟩:=hx
 (repeat' first|(with_reducible first|rfl|exact True.intro|apply AG|apply And.intro|((first|apply Au|apply AE|apply Av|apply AF)<;>intro _))|(apply As<;>intro _)|apply AD|refine Af () ?_ ?_|((first|apply AK|apply AJ|apply AI|apply AH|apply AC|apply AB|apply AA|apply Az|apply Ax)<;>try dsimp only)|apply Af|(refine Prod.forall.2 ?_;intro _;try dsimp only)|(intro _;try dsimp only))
 all_goals first
  |with_reducible rfl
  |exact(show AR _ _ from rfl)
  |rfl
  |((try simp only[Ai,Bb,List.length_cons,List.length_nil]);omega)
  |(have hb:=a6P (i:=i) h1 h2;(try simp only[Ai]);omega)
  |exact()
  |skip)
def GQ(n:Nat):Sig:= {X:=WC×List (List UInt8)×Int×Int×List UInt8×List UInt8×Int,args:=fun x=>[wrA x.1 (xW x),.int .i64 x.2.2.2.1,.str x.2.2.2.2.1,.str x.2.2.2.2.2.1,.int .i64 x.2.2.2.2.2.2],pre:=fun x=>wvP x.1 n (xW x) x.2.2.2.2.1 x.2.2.2.1 x.2.2.2.2.2.1 x.2.2.2.2.2.2,Y:=List (List UInt8)×Int,post:=fun x y=>AR (Ca x.1 n x.2.2.2.2.1 x.2.2.2.1 x.2.2.2.2.2.1 x.2.2.2.2.2.2 (xW x)) (yW y),res:=fun x y=> .tup [],outs:=fun x y=>[wrA x.1 (yW y),.top,.top,.top,.top],keep:=true}
def YF(n:Nat)(x:WC×List (List UInt8)×Int×Int×List UInt8×List UInt8×Int):LS:= {ι:=Unit,inv:=fun _=>True,regs:=fun _=>[(0,wrA x.1 (xW x)),(10,.box 0 (pcA false (bdP x.1.ns n x.2.2.2.1 x.2.2.2.2.1 x.2.2.2.2.2.1 x.2.2.2.2.2.2))),(12,Ad (srF (bdP x.1.ns n x.2.2.2.1 x.2.2.2.2.1 x.2.2.2.2.2.1 x.2.2.2.2.2.2) x.1.w x.1.bud).1.best),(13,.int .i64 (Ew (bdP x.1.ns n x.2.2.2.1 x.2.2.2.2.1 x.2.2.2.2.2.1 x.2.2.2.2.2.2) x.1.w x.1.bud))],als:=[],meas:=fun _=>0}
def b8V(n:Nat)(x:WC×List (List UInt8)×Int×Int×List UInt8×List UInt8×Int):LS:= {ι:=Unit,inv:=fun _=>True,regs:=fun _=>[(0,wrA x.1 ⟨x.2.1++El (bdP x.1.ns n x.2.2.2.1 x.2.2.2.2.1 x.2.2.2.2.2.1 x.2.2.2.2.2.2) x.1.w x.1.bud,x.2.2.1⟩),(13,.int .i64 (Ew (bdP x.1.ns n x.2.2.2.1 x.2.2.2.2.1 x.2.2.2.2.2.1 x.2.2.2.2.2.2) x.1.w x.1.bud))],als:=[],meas:=fun _=>0}
def Tg(n:Nat)(x:WC×List (List UInt8)×Int×Int×List UInt8×List UInt8×Int):Prop:=cA Lc [.agg [.int .i64 (bdP x.1.ns n x.2.2.2.1 x.2.2.2.2.1 x.2.2.2.2.2.1 x.2.2.2.2.2.2).ind,AV.sl false 0 2 Ru ruA (bdP x.1.ns n x.2.2.2.1 x.2.2.2.2.1 x.2.2.2.2.2.1 x.2.2.2.2.2.2).rules,AV.sl false 0 5 Ch chA (bdP x.1.ns n x.2.2.2.1 x.2.2.2.2.1 x.2.2.2.2.2.1 x.2.2.2.2.2.2).chunks,AV.sl false 0 3 Sn snA (bdP x.1.ns n x.2.2.2.1 x.2.2.2.2.1 x.2.2.2.2.2.1 x.2.2.2.2.2.2).spans,AV.sl false 0 2 Ti tiA (bdP x.1.ns n x.2.2.2.1 x.2.2.2.2.1 x.2.2.2.2.2.1 x.2.2.2.2.2.2).ties],Ad (srF (bdP x.1.ns n x.2.2.2.1 x.2.2.2.2.1 x.2.2.2.2.2.1 x.2.2.2.2.2.2) x.1.w x.1.bud).1.best] fun x_2 y=>∃(zs:List (List UInt8)),AV.sl true 0 1 (List UInt8) Ag (BF x_2.1 x_2.2)=AV.sl true 0 1 (List UInt8) Ag zs∧(BH Ag∧(Bb (List.length (xW x).ls+List.length zs) (16:Nat)∧(true=true∧(∃(i:Unit),True∧((nds x.1.ns=nds x.1.ns∧x.1.w=x.1.w∧x.1.bud=x.1.bud∧AV.sl true 0 1 (List UInt8) Ag ((xW x).ls++zs)=AV.sl true 0 1 (List UInt8) Ag (x.2.1++El (bdP x.1.ns n x.2.2.2.1 x.2.2.2.2.1 x.2.2.2.2.2.1 x.2.2.2.2.2.2) x.1.w x.1.bud)∧((xW x).st=x.2.2.1∧Ew (bdP x.1.ns n x.2.2.2.1 x.2.2.2.2.1 x.2.2.2.2.2.1 x.2.2.2.2.2.2) x.1.w x.1.bud=Ew (bdP x.1.ns n x.2.2.2.1 x.2.2.2.2.1 x.2.2.2.2.2.1 x.2.2.2.2.2.2) x.1.w x.1.bud∧True))∧True)))))
def YG(n:Nat)(x:WC×List (List UInt8)×Int×Int×List UInt8×List UInt8×Int)(x_1:(Ng n).X)(x_2:IC.X):Prop:=true=true∧(eA (YF n x) [.box 0 [nds x.1.ns,.int .i64 x.1.w,.int .i64 x.1.bud,AV.sl true 0 1 (List UInt8) Ag (xW x).ls,.int .i64 (xW x).st],.box 0 [.int .i64 (pfR x_1.1 n x_1.2.1 x_1.2.2.1 x_1.2.2.2.1 x_1.2.2.2.2).ind,AV.sl false 0 2 Ru (fun(x:Ru)=>fzL (ruA x)) (pfR x_1.1 n x_1.2.1 x_1.2.2.1 x_1.2.2.2.1 x_1.2.2.2.2).rules,AV.sl false 0 5 Ch (fun(x:Ch)=>fzL (chA x)) (pfR x_1.1 n x_1.2.1 x_1.2.2.1 x_1.2.2.2.1 x_1.2.2.2.2).chunks,AV.sl false 0 3 Sn (fun(x:Sn)=>fzL (snA x)) (pfR x_1.1 n x_1.2.1 x_1.2.2.1 x_1.2.2.2.1 x_1.2.2.2.2).spans,AV.sl false 0 2 Ti (fun(x:Ti)=>fzL (tiA x)) (pfR x_1.1 n x_1.2.1 x_1.2.2.1 x_1.2.2.2.1 x_1.2.2.2.2).ties],Ad (if Bo x_2.1=true then(srF x_2.1 x_2.2.1 x_2.2.2).1.best else []),.int .i64 (if Bo x_2.1=true then(srF x_2.1 x_2.2.1 x_2.2.2).2 else(0:Int))])
def Lu(n:Nat)(x:WC×List (List UInt8)×Int×Int×List UInt8×List UInt8×Int)(x_1:(Ng n).X):Prop:=cA IC [.agg [.int .i64 (pfR x_1.1 n x_1.2.1 x_1.2.2.1 x_1.2.2.2.1 x_1.2.2.2.2).ind,AV.sl true 0 2 Ru ruA (pfR x_1.1 n x_1.2.1 x_1.2.2.1 x_1.2.2.2.1 x_1.2.2.2.2).rules,AV.sl true 0 5 Ch chA (pfR x_1.1 n x_1.2.1 x_1.2.2.1 x_1.2.2.2.1 x_1.2.2.2.2).chunks,AV.sl true 0 3 Sn snA (pfR x_1.1 n x_1.2.1 x_1.2.2.1 x_1.2.2.2.1 x_1.2.2.2.2).spans,AV.sl true 0 2 Ti tiA (pfR x_1.1 n x_1.2.1 x_1.2.2.1 x_1.2.2.2.1 x_1.2.2.2.2).ties],.int .i64 x.1.w,.int .i64 x.1.bud] fun x_2 y=>(YG n x x_1 x_2)∧(YG n x x_1 x_2)
theorem a7K(n:Nat)(hv:Ah G Go.Proofs.Tryz.prog 49 (BR n)):Ah G Tryz.prog 94 (GQ n):=
 vcFun_okP [(11,0,(Ng n)),(15,0,(JQ n)),(92,0,DH),(121,0,IC),(53,0,Lc)] [(42,⟨List UInt8,Ag⟩)] false (fun x=>[(100003,YF n x),(100004,b8V n x)]) Tryz.func94 rfl (by decide) ⟨(b8t n hv),(b8u n hv),Tf,b5i,b4t,trivial⟩ (fun(x:WC×List (List UInt8)×Int×Int×List UInt8×List UInt8×Int)=>True∧cA (Ng n) [nds x.1.ns,.int .i64 x.2.2.2.1,.str x.2.2.2.2.1,.str x.2.2.2.2.2.1,.int .i64 x.2.2.2.2.2.2] fun x_1 y=>Ab (!CQ x_1.1 x_1.2.1 x_1.2.2.1 x_1.2.2.2.1 x_1.2.2.2.2) (cA (JQ n) [nds x.1.ns,.int .i64 x.2.2.2.1] fun x_2 y=>(↑(List.length x.2.2.2.2.1+List.length (if Cx x_2.1 x_2.2=true then Ho x_2.1 n x_2.2 else [])):Int)≤IntKind.max IntKind.i64∧(↑(List.length (x.2.2.2.2.1++if Cx x_2.1 x_2.2=true then Ho x_2.1 n x_2.2 else [])+List.length x.2.2.2.2.2.1):Int)≤IntKind.max IntKind.i64∧cA DH [.box 0 [nds x.1.ns,.int .i64 x.1.w,.int .i64 x.1.bud,AV.sl true 0 1 (List UInt8) Ag (xW x).ls,.int .i64 (xW x).st],.int .i64 x.2.2.2.2.2.2,.str ((x.2.2.2.2.1++if Cx x_2.1 x_2.2=true then Ho x_2.1 n x_2.2 else [])++x.2.2.2.2.2.1)] fun x_3 y=>rA (GQ n) x [.tup [],.box 0 [nds x_3.1.ns,.int .i64 x_3.1.w,.int .i64 x_3.1.bud,AV.sl true 0 1 (List UInt8) Ag (yW y).ls,.int .i64 (yW y).st],.top,.top,.top,.top]) (true=true∧(((Lu n x x_1)∧(Lu n x x_1))∧((Lu n x x_1)∧(Lu n x x_1))∧((Lu n x x_1)∧(Lu n x x_1)))∧∀(i:Unit),True→true=true∧((Tg n x)∧(Tg n x)∧(Tg n x))∧∀(i:Unit),True→Ab (Ew (bdP x.1.ns n x.2.2.2.1 x.2.2.2.2.1 x.2.2.2.2.2.1 x.2.2.2.2.2.2) x.1.w x.1.bud==(2:Int)) (rA (GQ n) x [.tup [],.box 0 [nds x.1.ns,.int .i64 x.1.w,.int .i64 x.1.bud,AV.sl true 0 1 (List UInt8) Ag (x.2.1++El (bdP x.1.ns n x.2.2.2.1 x.2.2.2.2.1 x.2.2.2.2.2.1 x.2.2.2.2.2.2) x.1.w x.1.bud),.int .i64 (Ew (bdP x.1.ns n x.2.2.2.1 x.2.2.2.2.1 x.2.2.2.2.2.1 x.2.2.2.2.2.2) x.1.w x.1.bud)],.top,.top,.top,.top]) (rA (GQ n) x [.tup [],.box 0 [nds x.1.ns,.int .i64 x.1.w,.int .i64 x.1.bud,AV.sl true 0 1 (List UInt8) Ag (x.2.1++El (bdP x.1.ns n x.2.2.2.1 x.2.2.2.2.1 x.2.2.2.2.2.1 x.2.2.2.2.2.2) x.1.w x.1.bud),.int .i64 x.2.2.1],.top,.top,.top,.top]))) (fun x=>by kernel_rfl) fun(x:WC×List (List UInt8)×Int×Int×List UInt8×List UInt8×Int) (hx:wvP x.1 n (xW x) x.2.2.2.2.1 x.2.2.2.1 x.2.2.2.2.2.1 x.2.2.2.2.2.2)=>(by
 dsimp only[Lu,YG,Tg,cA,Bl,eA,YF,Ad,Bg,nds,Cg,pcA,rA,Bj,Lc,IC,DH,GQ,Ng,JQ,Bm,HI,suA,Bn,wrA,Aq,Aw,mvL,lnL,mvE,lnE,mvG,mvH,lnG,lnH,AZ]
 obtain⟨c,ls,st,k,pre,post,i⟩:=x;dsimp only[xW] at hx ⊢
 have hx:wvP c n ⟨ls,st⟩ pre k post i:=hx
 have ho:=a6R hx;have hl:=a6T hx;have hok:=Nc hx.vw.bd
 have hr:=hx.rm;dsimp only at hr
 (repeat' first|refine Ds (bdP c.ns n k pre post i) ?_|(with_reducible first|rfl|exact True.intro|apply AG|apply And.intro|((first|apply Au|apply AE|apply Av|apply AF)<;>intro _))|(apply As<;>intro _)|apply AD|refine Af () ?_ ?_|((first|apply AK|apply AJ|apply AI|apply AH|apply AC|apply AB|apply AA|apply Az|apply Ax)<;>try dsimp only)|apply Af|(refine Prod.forall.2 ?_;intro _;try dsimp only)|(intro _;try dsimp only))
 all_goals first
  |with_reducible rfl
  |(exfalso;rename CQ _ _ _ _ _=false=>hq;rw[ho.1] at hq;cases hq)
  |exact a6S hx
  |(rw[ho.2];done)
  |(rw[hl.1];done)
  |(rw[hl.2.1];done)
  |(rw[if_pos hok];done)
  |(rw[if_pos hok];rfl)
  |(dsimp only;exact⟨EV hok,(WR (EV hok)).1.bl,(Pg hx.vw.bd).2.1.2⟩)
  |exact Ys ‹_›
  |exact a6U ‹_›
  |(rename _=(2:Int)=>hq;rw[hq];exact Ys ‹_›)
  |exact Pg hx.vw.bd
  |((try simp only[Ai,Bb]);omega)
  |exact()
  |rfl
  |skip)
structure alQ (c:WC) (n m:Nat) (s:Ws) (ks:List Int) (i:Int):Prop where
 al:alP c n m s ks i
def HX(n m:Nat):Sig:= {X:=WC×List (List UInt8)×Int×Int×Int,args:=fun x=>[wrA x.1 (xW x),.int .i64 x.2.2.2.1,.int .i64 x.2.2.2.2],pre:=fun x=>ndP x.1 n m (xW x) x.2.2.2.1 x.2.2.2.2,Y:=List (List UInt8)×Int,post:=fun x y=>AR (wN x.1 n m x.2.2.2.1 x.2.2.2.2 (xW x)) (yW y),res:=fun x y=> .tup [],outs:=fun x y=>[wrA x.1 (yW y),.top,.top],keep:=true}
attribute [local irreducible] wlI
def HY(n m:Nat):Sig:= {X:=WC×List (List UInt8)×Int×List Int×Int,args:=fun x=>[wrA x.1 (xW x),Ad x.2.2.2.1,.int .i64 x.2.2.2.2],pre:=fun x=>alP x.1 n m (xW x) x.2.2.2.1 x.2.2.2.2,Y:=List (List UInt8)×Int,post:=fun x y=>AR (Em x.1.ns (wN x.1 n m) x.2.2.2.2 x.2.2.2.1 (xW x)) (yW y),res:=fun x y=> .tup [],outs:=fun x y=>[wrA x.1 (yW y),.top,.top],keep:=true}
def Pv(n m:Nat)(x:WC×List (List UInt8)×Int×List Int×Int):LS:= {ι:=List (List UInt8)×Int×Int,inv:=fun j=>wlI x.1.ns (wN x.1 n m) (wW x.1.ns m) x.2.2.2.1 x.2.2.2.2 (xW x) j.2.2 (vWs j),regs:=fun j=>[(0,wrA x.1 (vWs j)),(1,Ad x.2.2.2.1),(2,.int .i64 x.2.2.2.2),(6,.int .i64 j.2.2)],als:=[],meas:=fun j=>x.2.2.2.1.length-j.2.2.toNat}
theorem YH(n m:Nat)(hc:Ah G Go.Proofs.Tryz.prog 55 (HX n m)):Ah G Tryz.prog 69 (HY n m):=
 vcFun_okP [(55,0,(HX n m))] [(42,⟨List UInt8,Ag⟩)] false (fun x=>[(1,Pv n m x)]) Tryz.func69 rfl (by decide) ⟨hc,trivial⟩ (fun(x:WC×List (List UInt8)×Int×List Int×Int)=>True∧eA (Pv n m x) [.box 0 [nds x.1.ns,.int .i64 x.1.w,.int .i64 x.1.bud,AV.sl true 0 1 (List UInt8) Ag (xW x).ls,.int .i64 (xW x).st],Ad x.2.2.2.1,.int .i64 x.2.2.2.2,.int .i64 (0:Int)]∧∀(i:List (List UInt8)×Int×Int),wlI x.1.ns (wN x.1 n m) (wW x.1.ns m) x.2.2.2.1 x.2.2.2.2 (xW x) i.2.2 (vWs i)→Ab (decide (i.2.2<(↑(List.length x.2.2.2.1):Int))) (true=true∧true=true∧((0:Int)≤i.2.2∧i.2.2<(↑(List.length x.2.2.2.1):Int))∧∀(e:Int),x.2.2.2.1[Int.toNat i.2.2]? =some e→((0:Int)≤e∧e<(↑(List.length x.1.ns):Int))∧∀(e_1:Nd),x.1.ns[Int.toNat e]? =some e_1→Ab e_1.blank (∃(x_1:List UInt8),#[].toList=x_1∧∃(zs:List (List UInt8)),AV.sl true 0 1 (List UInt8) Ag [x_1]=AV.sl true 0 1 (List UInt8) Ag zs∧BH Ag∧Bb (List.length (vWs i).ls+List.length zs) (16:Nat)∧((0:Int)≤i.2.2∧i.2.2<(↑(List.length x.2.2.2.1):Int))∧∀(e:Int),x.2.2.2.1[Int.toNat i.2.2]? =some e→∃(x_2:WC×List (List UInt8)×Int×Int×Int),ndP x_2.1 n m (xW x_2) x_2.2.2.2.1 x_2.2.2.2.2∧nds x.1.ns=nds x_2.1.ns∧x.1.w=x_2.1.w∧x.1.bud=x_2.1.bud∧AV.sl true 0 1 (List UInt8) Ag ((vWs i).ls++zs)=AV.sl true 0 1 (List UInt8) Ag (xW x_2).ls∧(vWs i).st=(xW x_2).st∧e=x_2.2.2.2.1∧x.2.2.2.2=x_2.2.2.2.2∧∀(y:List (List UInt8)×Int),AR (wN x_2.1 n m x_2.2.2.2.1 x_2.2.2.2.2 (xW x_2)) (yW y)→inR IntKind.i64 (i.2.2+(1:Int))∧eN (Pv n m x) i [.box 0 [nds x_2.1.ns,.int .i64 x_2.1.w,.int .i64 x_2.1.bud,AV.sl true 0 1 (List UInt8) Ag (yW y).ls,.int .i64 (yW y).st],Ad x.2.2.2.1,.int .i64 x.2.2.2.2,.int .i64 (i.2.2+(1:Int))]) (((0:Int)≤i.2.2∧i.2.2<(↑(List.length x.2.2.2.1):Int))∧∀(e:Int),x.2.2.2.1[Int.toNat i.2.2]? =some e→cA (HX n m) [.box 0 [nds x.1.ns,.int .i64 x.1.w,.int .i64 x.1.bud,AV.sl true 0 1 (List UInt8) Ag (vWs i).ls,.int .i64 (vWs i).st],.int .i64 e,.int .i64 x.2.2.2.2] fun x_1 y=>inR IntKind.i64 (i.2.2+(1:Int))∧eN (Pv n m x) i [.box 0 [nds x_1.1.ns,.int .i64 x_1.1.w,.int .i64 x_1.1.bud,AV.sl true 0 1 (List UInt8) Ag (yW y).ls,.int .i64 (yW y).st],Ad x.2.2.2.1,.int .i64 x.2.2.2.2,.int .i64 (i.2.2+(1:Int))])) (rA (HY n m) x [.tup [],.box 0 [nds x.1.ns,.int .i64 x.1.w,.int .i64 x.1.bud,AV.sl true 0 1 (List UInt8) Ag (vWs i).ls,.int .i64 (vWs i).st],.top,.top])) (fun x=>by kernel_rfl) fun(x:WC×List (List UInt8)×Int×List Int×Int) (hx:alP x.1 n m (xW x) x.2.2.2.1 x.2.2.2.2)=>(by
 dsimp only[cA,eA,eN,Pv,Ad,Bg,nds,rA,HY,HX,wrA,Aq,Aw,mvL,lnL,mvE,lnE,mvG,mvH,lnG,lnH,AZ]
 obtain⟨c,ls,st,ks,i⟩:=x;dsimp only[xW] at hx ⊢
 have hx:alP c n m ⟨ls,st⟩ ks i:=hx
 have h1:=hx.kl;have h2:=hx.rm;dsimp only at h2
 (repeat' first|(with_reducible first|rfl|exact True.intro|apply AG|apply And.intro|((first|apply Au|apply AE|apply Av|apply AF)<;>intro _))|(apply As<;>intro _)|apply AD|refine Af () ?_ ?_|((first|apply AK|apply AJ|apply AI|apply AH|apply AC|apply AB|apply AA|apply Az|apply Ax)<;>try dsimp only)|apply Af|(refine Prod.forall.2 ?_;intro _;try dsimp only)|(intro _;try dsimp only))
 all_goals(try(repeat(rename ks[_]? =some _=>hq;revert hq;rename ks[_]? =some _=>hr;intro hq;rw[hr] at hq;cases hq)))
 all_goals(try dsimp only[yW,xW,vWs] at*)
 all_goals first
  |with_reducible rfl
  |exact a6Z hx
  |exact a7c ‹_› hx ‹_›
  |exact a7d ‹_› hx ‹_›
  |exact a7f ‹_› hx ‹_› ‹_› ‹_› ‹_›
  |exact a7g ‹_› hx ‹_› ‹_› ‹_› ‹_›
  |exact a7h ‹_› ‹_›
  |(have hq:=a7a (show wlI _ _ _ _ _ _ _ _ by assumption);(try simp only[Ai]);omega)
  |(have hq:=a7b hx ‹_›;omega)
  |(have hq:=SX (show wlI _ _ _ _ _ _ _ _ by assumption) ‹_›;dsimp only at hq;(try simp only[Bb,List.length_cons,List.length_nil]);omega)
  |exact()
  |rfl
  |skip)
def Hp(n m:Nat):Sig:= {X:=WC×List (List UInt8)×Int×Int×Int,args:=fun x=>[wrA x.1 (xW x),.int .i64 x.2.2.2.1,.int .i64 x.2.2.2.2],pre:=fun x=>bkP x.1 n m (xW x) x.2.2.2.1 x.2.2.2.2,Y:=List (List UInt8)×Int,post:=fun x y=>AR (CC x.1.ns (wN x.1 n m) x.2.2.2.1 x.2.2.2.2 (xW x)) (yW y),res:=fun x y=> .tup [],outs:=fun x y=>[wrA x.1 (yW y),.top,.top],keep:=true}
theorem a7L(n m:Nat)(hc:Ah G Go.Proofs.Tryz.prog 55 (HX n m)):Ah G Tryz.prog 95 (Hp n m):=
 vcFun_okP [(69,0,(HY n m))] [] false (fun x=>[]) Tryz.func95 rfl (by decide) ⟨(YH n m hc),trivial⟩ (fun(x:WC×List (List UInt8)×Int×Int×Int)=>True∧((0:Int)≤x.2.2.2.1∧x.2.2.2.1<(↑(List.length x.1.ns):Int))∧∀(e:Nd),x.1.ns[Int.toNat x.2.2.2.1]? =some e→inR IntKind.i64 (x.2.2.2.2+(2:Int))∧cA (HY n m) [.box 0 [nds x.1.ns,.int .i64 x.1.w,.int .i64 x.1.bud,AV.sl true 0 1 (List UInt8) Ag (xW x).ls,.int .i64 (xW x).st],Ad e.kids,.int .i64 (x.2.2.2.2+(2:Int))] fun x_1 y=>rA (Hp n m) x [.tup [],.box 0 [nds x_1.1.ns,.int .i64 x_1.1.w,.int .i64 x_1.1.bud,AV.sl true 0 1 (List UInt8) Ag (yW y).ls,.int .i64 (yW y).st],.top,.top]) (fun x=>by kernel_rfl) fun(x:WC×List (List UInt8)×Int×Int×Int) (hx:bkP x.1 n m (xW x) x.2.2.2.1 x.2.2.2.2)=>(by
 dsimp only[cA,Ad,Bg,nds,rA,HY,Hp,wrA,Aq,Aw,mvL,lnL,mvE,lnE,mvG,mvH,lnG,lnH]
 obtain⟨c,ls,st,b,i⟩:=x;dsimp only[xW] at hx ⊢
 have hx:bkP c n m ⟨ls,st⟩ b i:=hx
 have h1:=Bc.1 hx.br.up.1;have h2:=hx.i0
 (repeat' first|(with_reducible first|rfl|exact True.intro|apply AG|apply And.intro|((first|apply Au|apply AE|apply Av|apply AF)<;>intro _))|(apply As<;>intro _)|apply AD|refine Af () ?_ ?_|((first|apply AK|apply AJ|apply AI|apply AH|apply AC|apply AB|apply AA|apply Az|apply Ax)<;>try dsimp only)|apply Af|(refine Prod.forall.2 ?_;intro _;try dsimp only)|(intro _;try dsimp only))
 all_goals first
  |with_reducible rfl
  |exact a7i hx ‹_›
  |exact a7j ‹_› ‹_›
  |((try simp only[Ai]);omega)
  |skip)
end Go.My
end
section
namespace Go.My
open Go.Eng Go.Proofs
variable {G:GInv}
def toF(c:WC)(n:Nat)(x:Nd)(bare pre:List UInt8)(i:Int)(s:Ws):Ws:=if x.kids.length=0 then Bw i bare s else Ca c n pre (kd x 0) [59] i s
structure toP (c:WC) (n:Nat) (s:Ws) (x:Nd) (bare pre:List UInt8) (i:Int):Prop where
 l:bare.length≤2^62∧s.ls.length≤2^41
 i0:0≤i∧i≤100000
 v:∀d,x.kids[(0:Nat)]? =some d→wvP c n s pre d [59] i
 kl:x.kids.length≤12
theorem b8W{c:WC}{n:Nat}{x:Nd}{bare pre:List UInt8}{i:Int}{s t:Ws}(h:AR (Bw i bare s) t)(hk:(x.kids.length:Int)=0):AR (toF c n x bare pre i s) t:=by rw[toF,if_pos (by omega)];exact h
theorem b8X{c:WC}{n:Nat}{x:Nd}{bare pre:List UInt8}{i d:Int}{s t:Ws}(h:AR (Ca c n pre d [59] i s) t)(hd:x.kids[(0:Nat)]? =some d)(hk:¬(x.kids.length:Int)=0):AR (toF c n x bare pre i s) t:=by rw[toF,if_neg (by omega),Ct hd];exact h
def HZ(n:Nat):Sig:= {X:=WC×List (List UInt8)×Int×Nd×List UInt8×List UInt8×Int,args:=fun x=>[wrA x.1 (xW x),.agg (ndA false x.2.2.2.1),.str x.2.2.2.2.1,.str x.2.2.2.2.2.1,.int .i64 x.2.2.2.2.2.2],pre:=fun x=>toP x.1 n (xW x) x.2.2.2.1 x.2.2.2.2.1 x.2.2.2.2.2.1 x.2.2.2.2.2.2,Y:=List (List UInt8)×Int,post:=fun x y=>AR (toF x.1 n x.2.2.2.1 x.2.2.2.2.1 x.2.2.2.2.2.1 x.2.2.2.2.2.2 (xW x)) (yW y),res:=fun x y=> .tup [],outs:=fun x y=>[wrA x.1 (yW y),.top,.top,.top,.top],keep:=true}
theorem b8Y(n:Nat)(hv:Ah G Go.Proofs.Tryz.prog 49 (BR n)):Ah G Tryz.prog 93 (HZ n):=
 vcFun_okP [(92,0,DH),(94,0,(GQ n))] [] false (fun x=>[]) Tryz.func93 rfl (by decide) ⟨Tf,(a7K n hv),trivial⟩ (fun(x:WC×List (List UInt8)×Int×Nd×List UInt8×List UInt8×Int)=>True∧Ab ((↑(List.length x.2.2.2.1.kids):Int)==(0:Int)) (cA DH [.box 0 [nds x.1.ns,.int .i64 x.1.w,.int .i64 x.1.bud,AV.sl true 0 1 (List UInt8) Ag (xW x).ls,.int .i64 (xW x).st],.int .i64 x.2.2.2.2.2.2,.str x.2.2.2.2.1] fun x_1 y=>rA (HZ n) x [.tup [],.box 0 [nds x_1.1.ns,.int .i64 x_1.1.w,.int .i64 x_1.1.bud,AV.sl true 0 1 (List UInt8) Ag (yW y).ls,.int .i64 (yW y).st],.top,.top,.top,.top]) (((0:Int)≤(0:Int)∧(0:Int)<(↑(List.length x.2.2.2.1.kids):Int))∧∀(e:Int),x.2.2.2.1.kids[(0:Nat)]? =some e→cA (GQ n) [.box 0 [nds x.1.ns,.int .i64 x.1.w,.int .i64 x.1.bud,AV.sl true 0 1 (List UInt8) Ag (xW x).ls,.int .i64 (xW x).st],.int .i64 e,.str x.2.2.2.2.2.1,.str #[(59:UInt8)].toList,.int .i64 x.2.2.2.2.2.2] fun x_1 y=>rA (HZ n) x [.tup [],.box 0 [nds x_1.1.ns,.int .i64 x_1.1.w,.int .i64 x_1.1.bud,AV.sl true 0 1 (List UInt8) Ag (yW y).ls,.int .i64 (yW y).st],.top,.top,.top,.top])) (fun x=>by kernel_rfl) fun(x:WC×List (List UInt8)×Int×Nd×List UInt8×List UInt8×Int) (hx:toP x.1 n (xW x) x.2.2.2.1 x.2.2.2.2.1 x.2.2.2.2.2.1 x.2.2.2.2.2.2)=>(by
 dsimp only[cA,Bl,Ad,Bg,nds,pcA,rA,Bj,DH,GQ,HZ,Bm,Bn,wrA,Aq,Aw,mvL,lnL,mvE,lnE,mvG,mvH,lnG,lnH]
 obtain⟨c,ls,st,x,bare,pre,i⟩:=x;dsimp only[xW] at hx ⊢
 have hx:toP c n ⟨ls,st⟩ x bare pre i:=hx
 have h1:=hx.l;have h2:=hx.i0;have h3:=hx.kl;dsimp only at h1
 (repeat' first|(with_reducible first|rfl|exact True.intro|apply AG|apply And.intro|((first|apply Au|apply AE|apply Av|apply AF)<;>intro _))|(apply As<;>intro _)|apply AD|refine Af () ?_ ?_|((first|apply AK|apply AJ|apply AI|apply AH|apply AC|apply AB|apply AA|apply Az|apply Ax)<;>try dsimp only)|apply Af|(refine Prod.forall.2 ?_;intro _;try dsimp only)|(intro _;try dsimp only))
 all_goals first
  |with_reducible rfl
  |omega
  |exact b8W ‹_› ‹_›
  |exact b8X ‹_› ‹_› ‹_›
  |exact hx.v _ ‹_›
  |skip)
structure mtP (c:WC) (n m:Nat) (s:Ws) (x:Nd) (i:Int):Prop where
 nd:∃k,ndP c n (m+1) s k i∧x=Aa c.ns k
 k20:x.kind=20
def mtS(c:WC)(x:Nd)(i:Int):List UInt8:=x.text++[40]++DC c.ns ((fnT x).take i.toNat) true
def mtI(x:Nd)(i:Int):Prop:=0≤i∧i≤(fnT x).length
theorem b8Z{c:WC}{n m:Nat}{s:Ws}{x:Nd}{i:Int}(h:mtP c n m s x i):hdP c.ns x:=by
 obtain⟨k,hk,e⟩:=h.nd
 have h20:=h.k20
 subst e;exact YD hk h20
theorem b9a{c:WC}{n m:Nat}{s:Ws}{x:Nd}{i:Int}(h:mtP c n m s x i):(0≤i∧i≤59)∧s.ls.length+85≤2^41:=by
 obtain⟨k,hk,e⟩:=h.nd
 have h20:=h.k20
 subst e
 exact⟨(HW hk).2.1,(Pu hk).2 (by omega)⟩
theorem b9b{c:WC}{x:Nd}{i:Int}(hx:hdP c.ns x):(mtS c x i).length≤460:=by
 have h1:=KK (ns:=c.ns) (w:=fun _=>30) (l:=(fnT x).take i.toNat) (first:=true) fun k hk=>hx.nm k (List.mem_of_mem_take hk)
 have h2:=Jt (w:=fun _=>30) (b:=30) (l:=(fnT x).take i.toNat) fun _ _=>by omega
 have h3:= @Ga x;have h4:=hx.kl;have h6:=hx.tx
 have h5:((fnT x).take i.toNat).length≤(fnT x).length:=by rw[List.length_take];omega
 rw[mtS];simp only[List.length_append,List.length_cons,List.length_nil];omega
theorem b9c{c:WC}{x:Nd}{i:Int}(h:mtI x i)(hx:hdP c.ns x):(mtS c x i).length≤460:=b9b hx
theorem a7M{c:WC}{x:Nd}{i k:Int}{e:Nd}(h0:0≤i)(hl:i<(x.kids.length:Int)-1)(hk:x.kids[i.toNat]? =some k)(he:c.ns[k.toNat]? =some e):mtS c x (i+1)=(if i>0 then mtS c x i++[44,32] else mtS c x i)++e.text:=by
 have hk2:=Lq h0 hl hk
 have hlt:=(Cm hk2).1
 rw[mtS,BD h0,CT hk2,Ya,Bd he]
 by_cases e0:i>0
 ·have:(fnT x).take i.toNat≠[]:=by
   intro h;have h3:((fnT x).take i.toNat).length=0:=by rw[h];rfl
   rw[List.length_take] at h3;omega
  rw[if_pos e0,if_neg (by simp [this])];simp [mtS]
 ·have:(fnT x).take i.toNat=[]:=by rw[show i.toNat=0 by omega];rfl
  rw[if_neg e0,if_pos ⟨this,rfl⟩];simp [mtS]
theorem a7N{c:WC}{x:Nd}{i k:Int}{e:Nd}(h0:mtI x i)(hl:i<(x.kids.length:Int)-1)(hk:x.kids[i.toNat]? =some k)(he:c.ns[k.toNat]? =some e)(hi:i>0):mtS c x i++[44,32]++e.text=mtS c x (i+1):=by rw[a7M h0.1 hl hk he,if_pos hi]
theorem a7O{c:WC}{x:Nd}{i k:Int}{e:Nd}(h0:mtI x i)(hl:i<(x.kids.length:Int)-1)(hk:x.kids[i.toNat]? =some k)(he:c.ns[k.toNat]? =some e)(hi:¬i>0):mtS c x i++e.text=mtS c x (i+1):=by rw[a7M h0.1 hl hk he,if_neg hi]
theorem YI{c:WC}{x:Nd}{i:Int}(h0:mtI x i)(hi:¬i<(x.kids.length:Int)-1):mtS c x i++[41,32,123]=hdT c.ns x:=by
 rw[mtS,hdT,List.take_of_length_le (by have:=h0.1;rw[Ga];omega),fnT]
theorem b9d{c:WC}{x:Nd}{i k:Int}{e:Nd}(hx:hdP c.ns x)(h0:mtI x i)(hl:i<(x.kids.length:Int)-1)(hk:x.kids[i.toNat]? =some k)(he:c.ns[k.toNat]? =some e):e.text.length≤30:=by
 have:=hx.nm k (AY (Lq h0.1 hl hk))
 rwa [Bd he] at this
theorem b9e{c:WC}{n m:Nat}{s t:Ws}{x:Nd}{i b:Int}(h1:AR (Bw i (hdT c.ns x) s) t)(hb:x.kids[((x.kids.length:Int)-1).toNat]? =some b)(h:mtP c n m s x i):bkP c n m t b i:=by
 obtain⟨k,hk,e⟩:=h.nd
 have h20:=h.k20
 subst e;exact YE h1 hb hk h20
theorem b9f{c:WC}{n m:Nat}{s t u:Ws}{x:Nd}{i b:Int}(h2:AR (CC c.ns (wN c n m) b i t) u)(h1:AR (Bw i (hdT c.ns x) s) t)(hb:x.kids[((x.kids.length:Int)-1).toNat]? =some b)(h:mtP c n m s x i):u.ls.length+2≤2^41:=by
 obtain⟨k,hk,e⟩:=h.nd
 have h20:=h.k20
 subst e;exact a7F h2 h1 hb hk h20
def mtQ(c:WC)(n m:Nat)(s:Ws)(x:Nd)(i:Int)(y:Ws):Prop:=y=Bw i [125] (CC c.ns (wN c n m) (kd x (x.kids.length-1)) i (Bw i (hdT c.ns x) s))
theorem b9g{c:WC}{n m:Nat}{s t u y:Ws}{x:Nd}{i b:Int}(h5:AR (Bw i [125] u) y)(h2:AR (CC c.ns (wN c n m) b i t) u)(h1:AR (Bw i (hdT c.ns x) s) t)(hb:x.kids[((x.kids.length:Int)-1).toNat]? =some b)(hl:1≤x.kids.length):mtQ c n m s x i y:=by
 rw[show((x.kids.length:Int)-1).toNat=x.kids.length-1 by omega] at hb
 rw[mtQ,Ct hb,←h1,←h2];exact h5
attribute [local irreducible] mtS mtI
def Nn(n m:Nat):Sig:= {X:=WC×List (List UInt8)×Int×Nd×Int,args:=fun x=>[wrA x.1 (xW x),.agg (ndA false x.2.2.2.1),.int .i64 x.2.2.2.2],pre:=fun x=>mtP x.1 n m (xW x) x.2.2.2.1 x.2.2.2.2,Y:=List (List UInt8)×Int,post:=fun x y=>mtQ x.1 n m (xW x) x.2.2.2.1 x.2.2.2.2 (yW y),res:=fun x y=> .tup [],outs:=fun x y=>[wrA x.1 (yW y),.top,.top],keep:=true}
def Pw(n m:Nat)(x:WC×List (List UInt8)×Int×Nd×Int):LS:= {ι:=Int,inv:=fun i=>mtI x.2.2.2.1 i,regs:=fun i=>[(0,wrA x.1 (xW x)),(2,.int .i64 x.2.2.2.2),(4,.box 0 (ndA false x.2.2.2.1)),(6,.str (mtS x.1 x.2.2.2.1 i)),(7,.int .i64 ((x.2.2.2.1.kids.length:Int)-1)),(8,.int .i64 i)],als:=[],meas:=fun i=>x.2.2.2.1.kids.length-i.toNat}
theorem b9h(n m:Nat)(hc:Ah G Go.Proofs.Tryz.prog 55 (HX n m)):Ah G Tryz.prog 96 (Nn n m):=
 vcFun_okP [(92,0,DH),(95,0,(Hp n m))] [] false (fun x=>[(4,Pw n m x)]) Tryz.func96 rfl (by decide) ⟨Tf,(a7L n m hc),trivial⟩ (fun(x:WC×List (List UInt8)×Int×Nd×Int)=>True∧(↑(List.length x.2.2.2.1.text+(1:Nat)):Int)≤IntKind.max IntKind.i64∧inR IntKind.i64 ((↑(List.length x.2.2.2.1.kids):Int)-(1:Int))∧eA (Pw n m x) [.box 0 [nds x.1.ns,.int .i64 x.1.w,.int .i64 x.1.bud,AV.sl true 0 1 (List UInt8) Ag (xW x).ls,.int .i64 (xW x).st],.int .i64 x.2.2.2.2,.box 0 [.int .i64 x.2.2.2.1.kind,.str x.2.2.2.1.text,Ad x.2.2.2.1.kids,.bool x.2.2.2.1.blank],.str (x.2.2.2.1.text++ #[(40:UInt8)].toList),.int .i64 ((↑(List.length x.2.2.2.1.kids):Int)-(1:Int)),.int .i64 (0:Int)]∧∀(i:Int),mtI x.2.2.2.1 i→Ab (decide (i<(↑(List.length x.2.2.2.1.kids):Int)-(1:Int))) (Ab (decide (i>(0:Int))) ((↑(List.length (mtS x.1 x.2.2.2.1 i)+(2:Nat)):Int)≤IntKind.max IntKind.i64∧true=true∧true=true∧((0:Int)≤i∧i<(↑(List.length x.2.2.2.1.kids):Int))∧∀(e:Int),x.2.2.2.1.kids[Int.toNat i]? =some e→((0:Int)≤e∧e<(↑(List.length x.1.ns):Int))∧∀(e_1:Nd),x.1.ns[Int.toNat e]? =some e_1→(↑(List.length (mtS x.1 x.2.2.2.1 i++ #[(44:UInt8),(32:UInt8)].toList)+List.length e_1.text):Int)≤IntKind.max IntKind.i64∧inR IntKind.i64 (i+(1:Int))∧eN (Pw n m x) i [.box 0 [nds x.1.ns,.int .i64 x.1.w,.int .i64 x.1.bud,AV.sl true 0 1 (List UInt8) Ag (xW x).ls,.int .i64 (xW x).st],.int .i64 x.2.2.2.2,.box 0 [.int .i64 x.2.2.2.1.kind,.str x.2.2.2.1.text,Ad x.2.2.2.1.kids,.bool x.2.2.2.1.blank],.str (mtS x.1 x.2.2.2.1 i++ #[(44:UInt8),(32:UInt8)].toList++e_1.text),.int .i64 ((↑(List.length x.2.2.2.1.kids):Int)-(1:Int)),.int .i64 (i+(1:Int))]) (true=true∧true=true∧((0:Int)≤i∧i<(↑(List.length x.2.2.2.1.kids):Int))∧∀(e:Int),x.2.2.2.1.kids[Int.toNat i]? =some e→((0:Int)≤e∧e<(↑(List.length x.1.ns):Int))∧∀(e_1:Nd),x.1.ns[Int.toNat e]? =some e_1→(↑(List.length (mtS x.1 x.2.2.2.1 i)+List.length e_1.text):Int)≤IntKind.max IntKind.i64∧inR IntKind.i64 (i+(1:Int))∧eN (Pw n m x) i [.box 0 [nds x.1.ns,.int .i64 x.1.w,.int .i64 x.1.bud,AV.sl true 0 1 (List UInt8) Ag (xW x).ls,.int .i64 (xW x).st],.int .i64 x.2.2.2.2,.box 0 [.int .i64 x.2.2.2.1.kind,.str x.2.2.2.1.text,Ad x.2.2.2.1.kids,.bool x.2.2.2.1.blank],.str (mtS x.1 x.2.2.2.1 i++e_1.text),.int .i64 ((↑(List.length x.2.2.2.1.kids):Int)-(1:Int)),.int .i64 (i+(1:Int))])) ((↑(List.length (mtS x.1 x.2.2.2.1 i)+(3:Nat)):Int)≤IntKind.max IntKind.i64∧cA DH [.box 0 [nds x.1.ns,.int .i64 x.1.w,.int .i64 x.1.bud,AV.sl true 0 1 (List UInt8) Ag (xW x).ls,.int .i64 (xW x).st],.int .i64 x.2.2.2.2,.str (mtS x.1 x.2.2.2.1 i++ #[(41:UInt8),(32:UInt8),(123:UInt8)].toList)] fun x_1 y=>((0:Int)≤(↑(List.length x.2.2.2.1.kids):Int)-(1:Int)∧(↑(List.length x.2.2.2.1.kids):Int)-(1:Int)<(↑(List.length x.2.2.2.1.kids):Int))∧∀(e:Int),x.2.2.2.1.kids[Int.toNat ((↑(List.length x.2.2.2.1.kids):Int)-(1:Int))]? =some e→cA (Hp n m) [.box 0 [nds x_1.1.ns,.int .i64 x_1.1.w,.int .i64 x_1.1.bud,AV.sl true 0 1 (List UInt8) Ag (yW y).ls,.int .i64 (yW y).st],.int .i64 e,.int .i64 x.2.2.2.2] fun x_2 y=>cA DH [.box 0 [nds x_2.1.ns,.int .i64 x_2.1.w,.int .i64 x_2.1.bud,AV.sl true 0 1 (List UInt8) Ag (yW y).ls,.int .i64 (yW y).st],.int .i64 x.2.2.2.2,.str #[(125:UInt8)].toList] fun x_3 y=>rA (Nn n m) x [.tup [],.box 0 [nds x_3.1.ns,.int .i64 x_3.1.w,.int .i64 x_3.1.bud,AV.sl true 0 1 (List UInt8) Ag (yW y).ls,.int .i64 (yW y).st],.top,.top])) (fun x=>by kernel_rfl) fun(x:WC×List (List UInt8)×Int×Nd×Int) (hx:mtP x.1 n m (xW x) x.2.2.2.1 x.2.2.2.2)=>(by
 dsimp only[cA,eA,eN,Pw,Ad,Bg,nds,rA,Hp,DH,Nn,wrA,Aq,Aw,mvL,lnL,mvE,lnE,mvG,mvH,lnG,lnH,AZ]
 obtain⟨c,ls,st,x,i⟩:=x;dsimp only[xW] at hx ⊢
 have hx:mtP c n m ⟨ls,st⟩ x i:=hx
 have hh:=b8Z hx;have hi:=b9a hx;have hkl:=hh.kl;have htx:=hh.tx;dsimp only at hi
 have hI:∀j,mtI x j→0≤j∧j≤(fnT x).length:=fun j h=>by unfold mtI at h;exact h
 have hI2:∀j,mtI x j→j<(x.kids.length:Int)-1→mtI x (j+1):=fun j h hl=>by unfold mtI at h ⊢;rw[Ga] at h ⊢;omega
 have hI0:mtI x 0:=by unfold mtI;omega
 have hS0:x.text++[40]=mtS c x 0:=by unfold mtS;simp [DC]
 (repeat' first|(with_reducible first|rfl|exact True.intro|apply AG|apply And.intro|((first|apply Au|apply AE|apply Av|apply AF)<;>intro _))|(apply As<;>intro _)|apply AD|refine Af () ?_ ?_|((first|apply AK|apply AJ|apply AI|apply AH|apply AC|apply AB|apply AA|apply Az|apply Ax)<;>try dsimp only)|apply Af|(refine Prod.forall.2 ?_;intro _;try dsimp only)|(intro _;try dsimp only))
 all_goals(try dsimp only[yW,xW] at*)
 all_goals first
  |with_reducible rfl
  |with_reducible assumption
  |omega
  |exact hI2 _ ‹_› ‹_›
  |exact hS0
  |exact hS0.symm
  |exact a7N ‹_› ‹_› ‹_› ‹_› ‹_›
  |exact a7O ‹_› ‹_› ‹_› ‹_› ‹_›
  |exact(a7N ‹_› ‹_› ‹_› ‹_› ‹_›).symm
  |exact(a7O ‹_› ‹_› ‹_› ‹_› ‹_›).symm
  |(rename AR (Bw i (mtS c x _++[41,32,123]) _) _=>hq;rw[YI ‹_› ‹_›] at hq;exact b9e hq ‹_› hx)
  |(rename AR (Bw i (mtS c x _++[41,32,123]) _) _=>hq;rw[YI ‹_› ‹_›] at hq;exact b9g ‹_› ‹_› hq ‹_› hkl.1)
  |(rename AR (Bw i (mtS c x _++[41,32,123]) _) _=>hq;rw[YI ‹_› ‹_›] at hq;have hz:=b9f ‹_› hq ‹_› hx;dsimp only at hz;omega)
  |(have hq:=hI _ ‹_›;have hl:= @Ga x;(try simp only[Ai]);omega)
  |(have hq:=hI _ ‹_›;have hl:=hh.nd _ (AY (show x.kids[_]? =some _ by assumption));omega)
  |(have h9:=b9c (c:=c) (show mtI x _ by assumption) hh;have hq:=hI _ ‹_›;(try have ht:=b9d hh ‹_› ‹_› ‹_› ‹_›);(try simp only[Ai,List.length_append,List.length_cons,List.length_nil]);omega)
  |((try simp only[Ai,List.length_append,List.length_cons,List.length_nil]);omega)
  |exact()
  |rfl
  |skip)
end Go.My
end
