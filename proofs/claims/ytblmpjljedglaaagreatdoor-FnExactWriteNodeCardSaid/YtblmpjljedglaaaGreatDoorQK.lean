/- joined -/
import Derived.Test.YtblmpjljedglaaaGreatDoorQJ
set_option linter.unusedSimpArgs false
set_option linter.unusedVariables false
section
namespace Go.My
open Go.Eng Go.Proofs
variable {G:GInv}
structure vsP (ns:List Nd) (n:Nat) (s:Bs) (k a:Int):Prop where
 up:BB ns k
 lt:k<n
 vl:AX (Al ns k)=true
 rm:bR (tW ns n k) s
 ar:0≤a∧a+4*k≤2^40
def vsQ(c:BC)(n:Nat)(s:Bs)(k a:Int)(t:Bs):Prop:=t=bV c.ns c.rd n k (min a 40) s
def BQ(n:Nat):Sig:= {X:=BC×List Ru×List Ch×List Sn×List Ti×List UInt8×Int×Int,args:=fun x=>[suA x.1 (xC x),.int .i64 x.2.2.2.2.2.2.1,.int .i64 x.2.2.2.2.2.2.2],pre:=fun x=>vsP x.1.ns n (xC x) x.2.2.2.2.2.2.1 x.2.2.2.2.2.2.2,Y:=BT,post:=fun x y=>vsQ x.1 n (xC x) x.2.2.2.2.2.2.1 x.2.2.2.2.2.2.2 (yBW y),res:=fun x y=> .tup [],outs:=fun x y=>[suA x.1 (yBW y),.top,.top],keep:=true}
def inA(a:Int)(ks:List Int):Prop:=(0≤a∧a≤2^40)∧∀d∈ks,a+4+4*d≤2^40
theorem m40{a:Int}(h:0≤a):min (min a 40+4) 40=min (a+4) 40:=by omega
theorem Xi{ns:List Nd}{n:Nat}{s:Bs}{k a:Int}(h:vlP ns n s k (min (min a 40+4) 40))(ha:0≤a)(hk:a+4+4*k≤2^40):vsP ns n s k (a+4):=⟨h.up,h.lt,h.vl,h.rm,by omega,hk⟩
theorem Xj{c:BC}{n:Nat}{s t:Bs}{k a:Int}(h:vsQ c n s k (a+4) t)(ha:0≤a):BJ c n s k (min (min a 40+4) 40) (Gy c.rd (Aa c.ns k) s) t:=⟨by rw[m40 ha];exact h,rfl⟩
theorem Xk{r fr a:Int}{sp:Bool}{s t:Bs}(h:isB (AU r fr sp (a+4) s) t)(ha:0≤a):t=AU r fr sp (min (min a 40+4) 40) s:=by
 rw[h];exact MK (by omega)
theorem a4l{r fr a:Int}{sp:Bool}{s t:Bs}(h:isB (AU r fr sp a s) t):t=AU r fr sp (min a 40) s:=by
 rw[h];exact MK (by omega)
structure lsP (c:BC) (n:Nat) (s:Bs) (op:List UInt8) (ks:List Int) (en:List UInt8) (a:Int):Prop where
 li:liP c n s op ks en (min a 40)
 ar:inA a ks
theorem Xl{c:BC}{n:Nat}{s:Bs}{op:List UInt8}{ks:List Int}{en:List UInt8}{a i k:Int}(h:lsP c n s op ks en a)(hc:ks[i.toNat]? =some k):a+4+4*k≤2^40:=h.ar.2 k (AZ hc)
theorem b4l{c:BC}{n:Nat}{s w t u:Bs}{op:List UInt8}{ks:List Int}{en:List UInt8}{a:Int}(hu:isB (AU (AM c.rd (Am op s)) 1 false (a+4) t) u)(ht:t=Bd c.rd (min (ks.length:Int) 2+1) 1 (Am op s))(h:lsP c n s op ks en a):liI c n s op ks (min a 40) 0 u:=a3A h.li (Xk hu h.ar.1.1) ht
theorem b4m{c:BC}{n:Nat}{s t:Bs}{op:List UInt8}{ks:List Int}{en:List UInt8}{a i k:Int}(h:liI c n s op ks (min a 40) i t)(hx:lsP c n s op ks en a)(hc:ks[i.toNat]? =some k):vsP c.ns n t k (a+4):=Xi (a3C h hx.li hc) hx.ar.1.1 (Xl hx hc)
theorem b4n{c:BC}{n:Nat}{s t w u:Bs}{op:List UInt8}{ks:List Int}{en:List UInt8}{a i k:Int}(hu:isB (AU (AM c.rd (Am op s)) (min (ks.length:Int) 2) true (a+4) w) u)(hw:isB (Am [44] t) w)(h:liI c n s op ks (min a 40) i t)(hx:lsP c n s op ks en a)(hc:ks[i.toNat]? =some k):vsP c.ns n u k (a+4):=by
 rw[hw] at hu
 exact Xi (a3D h (Xk hu hx.ar.1.1) hx.li hc) hx.ar.1.1 (Xl hx hc)
theorem b4o{c:BC}{n:Nat}{s t u:Bs}{op:List UInt8}{ks:List Int}{en:List UInt8}{a i k:Int}(h:liI c n s op ks (min a 40) i t)(hc:ks[i.toNat]? =some k)(hu:vsQ c n t k (a+4) u)(hx:lsP c n s op ks en a)(hi:¬i>0):liI c n s op ks (min a 40) (i+1) u:=a3E (Xj hu hx.ar.1.1) h hx.li hc hi
theorem b4p{c:BC}{n:Nat}{s t w u v:Bs}{op:List UInt8}{ks:List Int}{en:List UInt8}{a i k:Int}(h:liI c n s op ks (min a 40) i t)(hc:ks[i.toNat]? =some k)(hv:vsQ c n u k (a+4) v)(hu:isB (AU (AM c.rd (Am op s)) (min (ks.length:Int) 2) true (a+4) w) u)(hw:isB (Am [44] t) w)(hx:lsP c n s op ks en a)(hi:i>0):liI c n s op ks (min a 40) (i+1) v:=by
 rw[hw] at hu
 exact a3F h (Xj hv hx.ar.1.1) (Xk hu hx.ar.1.1) hx.li hc hi
theorem b4q{c:BC}{n:Nat}{s t w:Bs}{op:List UInt8}{ks:List Int}{a i k:Int}(hw:isB (Am [44] t) w)(h:liI c n s op ks a i t)(hc:ks[i.toNat]? =some k):bB w:=by rw[hw];exact a3B h hc
theorem a4m{c:BC}{n:Nat}{s t:Bs}{op:List UInt8}{ks:List Int}{a i:Int}(h:liI c n s op ks a i t)(hi:i<ks.length):∃k,ks[i.toNat]? =some k:=by
 have:=WM h
 exact⟨_,List.getElem?_eq_getElem (by omega)⟩
theorem b4r{c:BC}{n:Nat}{s t:Bs}{op:List UInt8}{ks:List Int}{a i:Int}(h:liI c n s op ks a i t)(hi:i<ks.length):t.text.length≤2^61:=by
 obtain⟨k,hk⟩:=a4m h hi
 exact WN h hk
theorem b4s{c:BC}{n:Nat}{s t w:Bs}{op:List UInt8}{ks:List Int}{a i:Int}(hw:isB (Am [44] t) w)(h:liI c n s op ks a i t)(hi:i<ks.length):bB w:=by
 obtain⟨k,hk⟩:=a4m h hi
 exact b4q hw h hk
theorem b4t{s t:Bs}{op:List UInt8}(h:isB (Am op s) t):((t.rules=(Am op s).rules∧t.chunks=(Am op s).chunks)∧t.spans=(Am op s).spans∧t.ties=(Am op s).ties)∧t.text=(Am op s).text:=by rw[h];exact⟨⟨⟨rfl,rfl⟩,rfl,rfl⟩,rfl⟩
theorem a4n{s t:Bs}{op:List UInt8}(h:isB (Am op s) t):t.text.length=s.text.length+op.length:=by rw[h];simp [Am]
theorem b4u{c:BC}{n:Nat}{s t u:Bs}{op:List UInt8}{ks:List Int}{en:List UInt8}{a i:Int}(hu:isB (AU (AM c.rd (Am op s)) 1 false a t) u)(h:liI c n s op ks (min a 40) i t)(hx:lsP c n s op ks en a)(hi:¬i<ks.length):u.text.length≤2^61:=a3H (a4l hu) h hx.li hi
theorem b4v{c:BC}{n:Nat}{s t u v:Bs}{op:List UInt8}{ks:List Int}{en:List UInt8}{a i:Int}(hv:isB (Am en u) v)(hu:isB (AU (AM c.rd (Am op s)) 1 false a t) u)(h:liI c n s op ks (min a 40) i t)(hx:lsP c n s op ks en a)(hi:¬i<ks.length)(hk:¬(ks.length:Int)=0):isB (Eb c.rd (bV c.ns c.rd n) op ks en (min a 40) s) v:=by
 have:=a3I (a4l hu) h hx.li hi (by omega)
 rw[hv];exact this
theorem b4w{c:BC}{n:Nat}{s u v:Bs}{op:List UInt8}{ks:List Int}{en:List UInt8}{a:Int}(hv:isB (Am en u) v)(hu:isB (Am op s) u)(hk:(ks.length:Int)=0):isB (Eb c.rd (bV c.ns c.rd n) op ks en a s) v:=by
 have:=a3J (c:=c) (n:=n) (s:=s) (op:=op) (ks:=ks) (en:=en) (a:=a) (by omega)
 rw[hv,hu];exact this
attribute [local irreducible] liI
def lsJ(n:Nat)(x:BC×List Ru×List Ch×List Sn×List Ti×List UInt8×List UInt8×List Int×List UInt8×Int):LS:= {ι:=Unit,inv:=fun _=>¬(x.2.2.2.2.2.2.2.1.length:Int)=0,regs:=fun _=>[(0,suA x.1 (Am x.2.2.2.2.2.2.1 (xC x))),(2,Ad x.2.2.2.2.2.2.2.1),(3,.str x.2.2.2.2.2.2.2.2.1),(4,.int .i64 x.2.2.2.2.2.2.2.2.2),(10,.int .i64 (min (x.2.2.2.2.2.2.2.1.length:Int) 2))],als:=[],meas:=fun _=>0}
def lsL(n:Nat)(x:BC×List Ru×List Ch×List Sn×List Ti×List UInt8×List UInt8×List Int×List UInt8×Int):LS:= {ι:=List Ru×List Ch×List Sn×List Ti×List UInt8×Int,inv:=fun i=>liI x.1 n (xC x) x.2.2.2.2.2.2.1 x.2.2.2.2.2.2.2.1 (min x.2.2.2.2.2.2.2.2.2 40) (zI i) (zBW i),regs:=fun i=>[(0,suA x.1 (zBW i)),(2,Ad x.2.2.2.2.2.2.2.1),(3,.str x.2.2.2.2.2.2.2.2.1),(4,.int .i64 x.2.2.2.2.2.2.2.2.2),(10,.int .i64 (min (x.2.2.2.2.2.2.2.1.length:Int) 2)),(11,.int .i64 (AM x.1.rd (Am x.2.2.2.2.2.2.1 (xC x)))),(12,.int .i64 (zI i))],als:=[],meas:=fun i=>x.2.2.2.2.2.2.2.1.length-(zI i).toNat}
def Jt(n:Nat):Sig:= {X:=BC×List Ru×List Ch×List Sn×List Ti×List UInt8×List UInt8×List Int×List UInt8×Int,args:=fun x=>[suA x.1 (xC x),.str x.2.2.2.2.2.2.1,Ad x.2.2.2.2.2.2.2.1,.str x.2.2.2.2.2.2.2.2.1,.int .i64 x.2.2.2.2.2.2.2.2.2],pre:=fun x=>lsP x.1 n (xC x) x.2.2.2.2.2.2.1 x.2.2.2.2.2.2.2.1 x.2.2.2.2.2.2.2.2.1 x.2.2.2.2.2.2.2.2.2,Y:=BT,post:=fun x y=>isB (Eb x.1.rd (bV x.1.ns x.1.rd n) x.2.2.2.2.2.2.1 x.2.2.2.2.2.2.2.1 x.2.2.2.2.2.2.2.2.1 (min x.2.2.2.2.2.2.2.2.2 40) (xC x)) (yBW y),res:=fun x y=> .tup [],outs:=fun x y=>[suA x.1 (yBW y),.top,.top,.top,.top],keep:=true}
theorem b4x(n:Nat)(hc:Ah G Go.Proofs.Tryz.prog 49 (BQ n)):Ah G Tryz.prog 86 (Jt n):=
 vcFun_okP [(50,0,Cd),(48,0,DT),(47,0,Dq),(49,0,(BQ n))] [] false (fun x=>[(9,lsL n x),(200006,lsJ n x)]) Tryz.func86 rfl (by decide) ⟨ML,OD,OF,hc,trivial⟩ (fun(x:BC×List Ru×List Ch×List Sn×List Ti×List UInt8×List UInt8×List Int×List UInt8×Int)=>True∧cA Cd [.box 0 [nds x.1.ns,.int .i64 x.1.ind,AV.sl true 0 2 Ru ruA (xC x).rules,AV.sl true 0 5 Ch chA (xC x).chunks,AV.sl true 0 3 Sn snA (xC x).spans,AV.sl true 0 2 Ti tiA (xC x).ties,.str (xC x).text,.bool !x.1.rd],.str x.2.2.2.2.2.2.1] fun x_1 y=>Ab ((↑(List.length x.2.2.2.2.2.2.2.1):Int)==(0:Int)) (cA Cd [.box 0 [nds x_1.1.ns,.int .i64 x_1.1.ind,AV.sl true 0 2 Ru ruA (yBW y).rules,AV.sl true 0 5 Ch chA (yBW y).chunks,AV.sl true 0 3 Sn snA (yBW y).spans,AV.sl true 0 2 Ti tiA (yBW y).ties,.str (yBW y).text,.bool !x_1.1.rd],.str x.2.2.2.2.2.2.2.2.1] fun x_2 y=>rA (Jt n) x [.tup [],.box 0 [nds x_2.1.ns,.int .i64 x_2.1.ind,AV.sl true 0 2 Ru ruA (yBW y).rules,AV.sl true 0 5 Ch chA (yBW y).chunks,AV.sl true 0 3 Sn snA (yBW y).spans,AV.sl true 0 2 Ti tiA (yBW y).ties,.str (yBW y).text,.bool !x_2.1.rd],.top,.top,.top,.top]) (Ab ((↑(List.length x.2.2.2.2.2.2.2.1):Int)==(1:Int)) (eA (lsJ n x) [.box 0 [nds x_1.1.ns,.int .i64 x_1.1.ind,AV.sl true 0 2 Ru ruA (yBW y).rules,AV.sl true 0 5 Ch chA (yBW y).chunks,AV.sl true 0 3 Sn snA (yBW y).spans,AV.sl true 0 2 Ti tiA (yBW y).ties,.str (yBW y).text,.bool !x_1.1.rd],Ad x.2.2.2.2.2.2.2.1,.str x.2.2.2.2.2.2.2.2.1,.int .i64 x.2.2.2.2.2.2.2.2.2,.int .i64 (1:Int)]) (eA (lsJ n x) [.box 0 [nds x_1.1.ns,.int .i64 x_1.1.ind,AV.sl true 0 2 Ru ruA (yBW y).rules,AV.sl true 0 5 Ch chA (yBW y).chunks,AV.sl true 0 3 Sn snA (yBW y).spans,AV.sl true 0 2 Ti tiA (yBW y).ties,.str (yBW y).text,.bool !x_1.1.rd],Ad x.2.2.2.2.2.2.2.1,.str x.2.2.2.2.2.2.2.2.1,.int .i64 x.2.2.2.2.2.2.2.2.2,.int .i64 (2:Int)])∧∀(i:Unit),¬(↑(List.length x.2.2.2.2.2.2.2.1):Int)=(0:Int)→inR IntKind.i64 (min (↑(List.length x.2.2.2.2.2.2.2.1):Int) (2:Int)+(1:Int))∧cA DT [.box 0 [nds x.1.ns,.int .i64 x.1.ind,AV.sl true 0 2 Ru ruA (Am x.2.2.2.2.2.2.1 (xC x)).rules,AV.sl true 0 5 Ch chA (Am x.2.2.2.2.2.2.1 (xC x)).chunks,AV.sl true 0 3 Sn snA (Am x.2.2.2.2.2.2.1 (xC x)).spans,AV.sl true 0 2 Ti tiA (Am x.2.2.2.2.2.2.1 (xC x)).ties,.str (Am x.2.2.2.2.2.2.1 (xC x)).text,.bool !x.1.rd],.int .i64 (min (↑(List.length x.2.2.2.2.2.2.2.1):Int) (2:Int)+(1:Int)),.int .i64 (1:Int)] fun x_2 y=>inR IntKind.i64 (x.2.2.2.2.2.2.2.2.2+(4:Int))∧cA Dq [.box 0 [nds x_2.1.ns,.int .i64 x_2.1.ind,AV.sl true 0 2 Ru ruA (yBW y).rules,AV.sl true 0 5 Ch chA (yBW y).chunks,AV.sl true 0 3 Sn snA (yBW y).spans,AV.sl true 0 2 Ti tiA (yBW y).ties,.str (yBW y).text,.bool !x_2.1.rd],.int .i64 (AM x_2.1.rd (xC x_2)),.int .i64 (1:Int),.bool false,.int .i64 (x.2.2.2.2.2.2.2.2.2+(4:Int))] fun x_3 y=>eA (lsL n x) [.box 0 [nds x_3.1.ns,.int .i64 x_3.1.ind,AV.sl true 0 2 Ru ruA (yBW y).rules,AV.sl true 0 5 Ch chA (yBW y).chunks,AV.sl true 0 3 Sn snA (yBW y).spans,AV.sl true 0 2 Ti tiA (yBW y).ties,.str (yBW y).text,.bool !x_3.1.rd],Ad x.2.2.2.2.2.2.2.1,.str x.2.2.2.2.2.2.2.2.1,.int .i64 x.2.2.2.2.2.2.2.2.2,.int .i64 (min (↑(List.length x.2.2.2.2.2.2.2.1):Int) (2:Int)),.int .i64 (AM x_2.1.rd (xC x_2)),.int .i64 (0:Int)]∧∀(i:List Ru×List Ch×List Sn×List Ti×List UInt8×Int),liI x.1 n (xC x) x.2.2.2.2.2.2.1 x.2.2.2.2.2.2.2.1 (min x.2.2.2.2.2.2.2.2.2 (40:Int)) (zI i) (zBW i)→Ab (decide (zI i<(↑(List.length x.2.2.2.2.2.2.2.1):Int))) (Ab (decide (zI i>(0:Int))) (cA Cd [.box 0 [nds x.1.ns,.int .i64 x.1.ind,AV.sl true 0 2 Ru ruA (zBW i).rules,AV.sl true 0 5 Ch chA (zBW i).chunks,AV.sl true 0 3 Sn snA (zBW i).spans,AV.sl true 0 2 Ti tiA (zBW i).ties,.str (zBW i).text,.bool !x.1.rd],.str #[(44:UInt8)].toList] fun x_4 y=>inR IntKind.i64 (x.2.2.2.2.2.2.2.2.2+(4:Int))∧cA Dq [.box 0 [nds x_4.1.ns,.int .i64 x_4.1.ind,AV.sl true 0 2 Ru ruA (yBW y).rules,AV.sl true 0 5 Ch chA (yBW y).chunks,AV.sl true 0 3 Sn snA (yBW y).spans,AV.sl true 0 2 Ti tiA (yBW y).ties,.str (yBW y).text,.bool !x_4.1.rd],.int .i64 (AM x.1.rd (Am x.2.2.2.2.2.2.1 (xC x))),.int .i64 (min (↑(List.length x.2.2.2.2.2.2.2.1):Int) (2:Int)),.bool true,.int .i64 (x.2.2.2.2.2.2.2.2.2+(4:Int))] fun x_5 y=>((0:Int)≤zI i∧zI i<(↑(List.length x.2.2.2.2.2.2.2.1):Int))∧∀(e:Int),x.2.2.2.2.2.2.2.1[Int.toNat (zI i)]? =some e→inR IntKind.i64 (x.2.2.2.2.2.2.2.2.2+(4:Int))∧cA (BQ n) [.box 0 [nds x_5.1.ns,.int .i64 x_5.1.ind,AV.sl true 0 2 Ru ruA (yBW y).rules,AV.sl true 0 5 Ch chA (yBW y).chunks,AV.sl true 0 3 Sn snA (yBW y).spans,AV.sl true 0 2 Ti tiA (yBW y).ties,.str (yBW y).text,.bool !x_5.1.rd],.int .i64 e,.int .i64 (x.2.2.2.2.2.2.2.2.2+(4:Int))] fun x_6 y=>inR IntKind.i64 (zI i+(1:Int))∧eN (lsL n x) i [.box 0 [nds x_6.1.ns,.int .i64 x_6.1.ind,AV.sl true 0 2 Ru ruA (yBW y).rules,AV.sl true 0 5 Ch chA (yBW y).chunks,AV.sl true 0 3 Sn snA (yBW y).spans,AV.sl true 0 2 Ti tiA (yBW y).ties,.str (yBW y).text,.bool !x_6.1.rd],Ad x.2.2.2.2.2.2.2.1,.str x.2.2.2.2.2.2.2.2.1,.int .i64 x.2.2.2.2.2.2.2.2.2,.int .i64 (min (↑(List.length x.2.2.2.2.2.2.2.1):Int) (2:Int)),.int .i64 (AM x.1.rd (Am x.2.2.2.2.2.2.1 (xC x))),.int .i64 (zI i+(1:Int))]) (((0:Int)≤zI i∧zI i<(↑(List.length x.2.2.2.2.2.2.2.1):Int))∧∀(e:Int),x.2.2.2.2.2.2.2.1[Int.toNat (zI i)]? =some e→inR IntKind.i64 (x.2.2.2.2.2.2.2.2.2+(4:Int))∧cA (BQ n) [.box 0 [nds x.1.ns,.int .i64 x.1.ind,AV.sl true 0 2 Ru ruA (zBW i).rules,AV.sl true 0 5 Ch chA (zBW i).chunks,AV.sl true 0 3 Sn snA (zBW i).spans,AV.sl true 0 2 Ti tiA (zBW i).ties,.str (zBW i).text,.bool !x.1.rd],.int .i64 e,.int .i64 (x.2.2.2.2.2.2.2.2.2+(4:Int))] fun x_4 y=>inR IntKind.i64 (zI i+(1:Int))∧eN (lsL n x) i [.box 0 [nds x_4.1.ns,.int .i64 x_4.1.ind,AV.sl true 0 2 Ru ruA (yBW y).rules,AV.sl true 0 5 Ch chA (yBW y).chunks,AV.sl true 0 3 Sn snA (yBW y).spans,AV.sl true 0 2 Ti tiA (yBW y).ties,.str (yBW y).text,.bool !x_4.1.rd],Ad x.2.2.2.2.2.2.2.1,.str x.2.2.2.2.2.2.2.2.1,.int .i64 x.2.2.2.2.2.2.2.2.2,.int .i64 (min (↑(List.length x.2.2.2.2.2.2.2.1):Int) (2:Int)),.int .i64 (AM x.1.rd (Am x.2.2.2.2.2.2.1 (xC x))),.int .i64 (zI i+(1:Int))])) (cA Dq [.box 0 [nds x.1.ns,.int .i64 x.1.ind,AV.sl true 0 2 Ru ruA (zBW i).rules,AV.sl true 0 5 Ch chA (zBW i).chunks,AV.sl true 0 3 Sn snA (zBW i).spans,AV.sl true 0 2 Ti tiA (zBW i).ties,.str (zBW i).text,.bool !x.1.rd],.int .i64 (AM x.1.rd (Am x.2.2.2.2.2.2.1 (xC x))),.int .i64 (1:Int),.bool false,.int .i64 x.2.2.2.2.2.2.2.2.2] fun x_4 y=>cA Cd [.box 0 [nds x_4.1.ns,.int .i64 x_4.1.ind,AV.sl true 0 2 Ru ruA (yBW y).rules,AV.sl true 0 5 Ch chA (yBW y).chunks,AV.sl true 0 3 Sn snA (yBW y).spans,AV.sl true 0 2 Ti tiA (yBW y).ties,.str (yBW y).text,.bool !x_4.1.rd],.str x.2.2.2.2.2.2.2.2.1] fun x_5 y=>rA (Jt n) x [.tup [],.box 0 [nds x_5.1.ns,.int .i64 x_5.1.ind,AV.sl true 0 2 Ru ruA (yBW y).rules,AV.sl true 0 5 Ch chA (yBW y).chunks,AV.sl true 0 3 Sn snA (yBW y).spans,AV.sl true 0 2 Ti tiA (yBW y).ties,.str (yBW y).text,.bool !x_5.1.rd],.top,.top,.top,.top]))) (fun x=>by kernel_rfl) fun(x:BC×List Ru×List Ch×List Sn×List Ti×List UInt8×List UInt8×List Int×List UInt8×Int) (hx:lsP x.1 n (xC x) x.2.2.2.2.2.2.1 x.2.2.2.2.2.2.2.1 x.2.2.2.2.2.2.2.2.1 x.2.2.2.2.2.2.2.2.2)=>(by
 dsimp only[cA,Bl,eA,eN,Ad,lsJ,lsL,Bi,nds,rA,Bj,Jt,Cd,DT,Dq,BQ,Bm,suA,Bn,Aq,Aw,mvL,lnL,mvE,lnE,mvG,mvH,lnG,lnH,Ba]
 obtain⟨b,r,c,s,t,u,op,ks,en,a⟩:=x;dsimp only[xC] at hx ⊢
 have hx:lsP b n ⟨r,c,s,t,u⟩ op ks en a:=hx
 have h1:=hx.ar.1;have h2:=hx.li.kl;have h3:=hx.li.ol;have h4:=hx.li.el;have hb0:=Ha (CV hx.li.rm);dsimp only at hb0
 (repeat' first|(with_reducible first|rfl|exact True.intro|apply AG|apply And.intro|((first|apply Au|apply AE|apply Av|apply AF)<;>intro _))|(apply As<;>intro _)|apply AD|refine Af () ?_ ?_|((first|apply AK|apply AJ|apply AI|apply AH|apply AC|apply AB|apply AA|apply Az|apply Ax)<;>try dsimp only)|apply Af|(refine Prod.forall.2 ?_;intro _;try dsimp only)|(intro _;try dsimp only))
 all_goals(try dsimp only[yBW,xC,zBW,zI] at*)
 all_goals first
  |with_reducible rfl
  |with_reducible assumption
  |omega
  |exact RG hx.li
  |exact a3z hx.li ‹_›
  |exact b4l (w:=⟨r,c,s,t,u⟩) ‹_› ‹_› hx
  |exact b4n ‹_› ‹_› ‹_› hx ‹_›
  |exact b4m ‹_› hx ‹_›
  |exact b4p ‹_› ‹_› ‹_› ‹_› ‹_› hx ‹_›
  |exact b4o ‹_› ‹_› ‹_› hx ‹_›
  |exact b4s ‹_› ‹_› ‹_›
  |(have hq:=b4t (show isB (Am op _) _ by assumption);first|exact hq.1.1.1|exact hq.1.1.2|exact hq.1.2.1|exact hq.1.2.2|exact hq.2)
  |(have hq:=a4n (show isB (Am op _) _ by assumption);dsimp only at hq;omega)
  |(have hq:=b4r (show liI _ _ _ _ _ _ _ _ by assumption) ‹_›;dsimp only at hq;(try simp only[Aj,List.length_cons,List.length_nil]);omega)
  |exact a3G ‹_› hx.li ‹_›
  |exact b4v ‹_› ‹_› ‹_› hx ‹_› ‹_›
  |exact b4w ‹_› ‹_› ‹_›
  |(have hq:=WM (show liI _ _ _ _ _ _ _ _ by assumption);(try have hk:=Xl hx ‹_›);(try simp only[Aj]);omega)
  |(have hq:=WN (show liI _ _ _ _ _ _ _ _ by assumption) ‹_›;dsimp only at hq;(try simp only[Aj,List.length_cons,List.length_nil]);omega)
  |(have hq:=Ha (RG hx.li);(try simp only[Aj,List.length_append,Am] at*);omega)
  |(have hq:=b4u ‹_› ‹_› hx ‹_›;dsimp only at hq;(try simp only[Aj] at*);omega)
  |rfl
  |skip)
theorem Xm{ns:List Nd}{n:Nat}{s:Bs}{k a:Int}(h:vlP ns n s k (min (a+4) 40))(ha:0≤a)(hk:a+4+4*k≤2^40):vsP ns n s k (a+4):=⟨h.up,h.lt,h.vl,h.rm,by omega,hk⟩
theorem Lc{c:BC}{n:Nat}{s t:Bs}{k a:Int}(h:vsQ c n s k (a+4) t):BJ c n s k (min (a+4) 40) (Gy c.rd (Aa c.ns k) s) t:=⟨h,rfl⟩
end Go.My
end
section
set_option maxHeartbeats 4000000
namespace Go.My
open Go.Eng Go.Proofs
variable {G:GInv}
structure cqP (c:BC) (n:Nat) (s:Bs) (x:Nd) (a:Int):Prop where
 cn:cnP c n s x (min (a+4) 40)
 ar:inA a x.kids
theorem a4o{c:BC}{n:Nat}{s:Bs}{x:Nd}{a i k:Int}(h:cqP c n s x a)(hc:x.kids[i.toNat]? =some k):a+4+4*k≤2^40:=h.ar.2 k (AZ hc)
theorem RW{c:BC}{n:Nat}{s t:Bs}{x:Nd}{a i:Int}(h:Cg c n s x a i t)(hi:i<x.kids.length):∃k,x.kids[i.toNat]? =some k:=by
 have:=OA h
 exact⟨_,List.getElem?_eq_getElem (by omega)⟩
theorem b4y{c:BC}{n:Nat}{s t:Bs}{x:Nd}{a i:Int}(h:Cg c n s x a i t)(hi:i<x.kids.length):t.text.length+6≤2^61:=by
 obtain⟨k,hk⟩:=RW h hi;exact a3L h hk
theorem b4z{c:BC}{n:Nat}{s t w:Bs}{x:Nd}{a i:Int}(hw:isB (Am (32::x.text) t) w)(h:Cg c n s x a i t)(hx:cnP c n s x a)(hi:i<x.kids.length):bB w:=by
 obtain⟨k,hk⟩:=RW h hi;rw[hw];exact CV (WQ hx h hk)
def cqJ(c:BC)(n:Nat)(s:Bs)(x:Nd)(a:Int)(z:Bs)(i:Int)(t:Bs):Prop:=∃k,cnJ c n s x a z i k t
theorem b4A{c:BC}{n:Nat}{s t:Bs}{x:Nd}{a i:Int}(h:Cg c n s x a i t)(hl:i<x.kids.length)(hi:¬i>0):cqJ c n s x a t i t:=by
 obtain⟨k,hk⟩:=RW h hl;exact⟨k,a3M h hk hi⟩
theorem b4B{c:BC}{n:Nat}{s t w u:Bs}{x:Nd}{a i:Int}(h:Cg c n s x (min (a+4) 40) i t)(hu:isB (AU (AM c.rd s) 1 true (a+4) w) u)(hw:isB (Am (32::x.text) t) w)(hl:i<x.kids.length)(hi:i>0):cqJ c n s x (min (a+4) 40) t i u:=by
 obtain⟨k,hk⟩:=RW h hl
 rw[hw] at hu
 exact⟨k,WR h (by rw[hu];exact MK (by omega)) hk hi⟩
theorem OG{c:BC}{n:Nat}{s z t:Bs}{x:Nd}{a i k:Int}(h:cqJ c n s x a z i t)(hk:x.kids[i.toNat]? =some k):cnJ c n s x a z i k t:=by
 obtain⟨k',h'⟩:=h
 have:=h'.1.2
 rw[hk] at this;cases this;exact h'
theorem b4C{c:BC}{n:Nat}{s z t:Bs}{x:Nd}{a i:Int}(h:cqJ c n s x a z i t)(hx:cnP c n s x a):t.chunks.length≤79∧t.rules.length≤8:=by
 obtain⟨k,h⟩:=h
 have:=(RI hx h).1
 exact⟨this.ch,this.ru⟩
theorem b4D{c:BC}{n:Nat}{s z t:Bs}{x:Nd}{a i k:Int}(h:cqJ c n s x (min (a+4) 40) z i t)(hx:cqP c n s x a)(hk:x.kids[i.toNat]? =some k):vsP c.ns n t k (a+4):=Xm (WS (OG h hk) hx.cn) hx.ar.1.1 (a4o hx hk)
theorem b4E{c:BC}{n:Nat}{s z t u:Bs}{x:Nd}{a i k:Int}(h:cqJ c n s x (min (a+4) 40) z i t)(hu:vsQ c n t k (a+4) u)(hx:cqP c n s x a)(hk:x.kids[i.toNat]? =some k):bB u:=WU (OG h hk) (Lc hu) hx.cn
theorem b4F{c:BC}{n:Nat}{s z t:Bs}{x:Nd}{a i k:Int}(h:cqJ c n s x a z i t)(hx:cnP c n s x a)(hk:x.kids[i.toNat]? =some k):0≤k∧k<c.ns.length:=(a3N (OG h hk) hx).1
theorem b4G{c:BC}{n:Nat}{s z t u:Bs}{x:Nd}{a i k:Int}{e:Nd}(h:cqJ c n s x (min (a+4) 40) z i t)(hu:vsQ c n t k (a+4) u)(he:c.ns[k.toNat]? =some e)(hk:x.kids[i.toNat]? =some k)(h7:¬e.kind=7):cnK c n s x (min (a+4) 40) z i u t.chunks.length e.kind:=a3O (OG h hk) (Lc hu) he h7
theorem b4H{c:BC}{n:Nat}{s z t u v:Bs}{x:Nd}{a i k:Int}{e:Nd}(h:cqJ c n s x (min (a+4) 40) z i t)(hv:isB (CH (Dy t.rules.length u) (AM c.rd s) u) v)(hu:vsQ c n t k (a+4) u)(he:c.ns[k.toNat]? =some e)(hx:cqP c n s x a)(hk:x.kids[i.toNat]? =some k)(h7:e.kind=7):cnK c n s x (min (a+4) 40) z i v t.chunks.length e.kind:=by
 have h2:=OG h hk
 have hkp:=hx.cn.kd k (AZ hk)
 refine a3P h2 (Lc hu) ?_ hx.cn he h7
 rw[←RE (a:=min (a+4) 40) hkp.1 hkp.2.1 (.inl (by rw[Eg he];exact h7)),←hu];exact hv
theorem b4I{c:BC}{n:Nat}{s z t:Bs}{x:Nd}{a i e kind:Int}(h:cnK c n s x a z i t e kind)(hx:cnP c n s x a):(1≤kind∧kind≤11)∧0≤e:=by
 obtain⟨k,u,⟨h1,h2⟩,h3,_⟩:=h
 have:=BA.1 (hx.kd k (AZ h1.1.2)).2.2
 exact⟨by rw[h2];exact this,by omega⟩
theorem Xn{c:BC}{n:Nat}{s z t:Bs}{x:Nd}{a i e kind:Int}(h:cnK c n s x a z i t e kind)(hx:cnP c n s x a)(hk:(¬kind>3∨¬(t.chunks.length:Int)>e)∨¬(t.spans.length:Int)<40):Cg c n s x a (i+1) t:=by
 have:=RK h hx
 have hv:=b4I h hx
 by_cases h3:kind>3
 ·rw[if_neg (by omega),WI (by omega)] at this;exact this
 ·rw[if_pos (by omega)] at this;exact this
theorem a4p{c:BC}{n:Nat}{s z:Bs}{x:Nd}{a i e kind:Int}{r1:List Ru}{r2:List Ch}{r3:List Sn}{r4:List Ti}{r5:List UInt8}(h:cnK c n s x a z i ⟨r1,r2,r3,r4,r5⟩ e kind)(hx:cnP c n s x a)(hk:kind>3)(h2:(r2.length:Int)>e)(h3:(r3.length:Int)<40):Cg c n s x a (i+1) ⟨r1,r2,r3++[⟨e,(r2.length:Int)-1,1⟩],r4,r5⟩:=by
 have:=RK h hx
 rw[if_neg (by omega),a3x (f:=e) (s:=⟨r1,r2,r3,r4,r5⟩) (by show(r2.length:Int)-1≥e;omega) h3] at this;exact this
theorem b4J{c:BC}{n:Nat}{s t:Bs}{x:Nd}{a i:Int}(h:Cg c n s x a i t)(hx:cnP c n s x a)(hi:¬i<x.kids.length):isB (Kz c.ns c.rd (bV c.ns c.rd n) x a s) t:=(a3Q h hx hi).1
theorem b4K{c:BC}{n:Nat}{s z t:Bs}{x:Nd}{a i e kind:Int}(h:cnK c n s x a z i t e kind)(hx:cnP c n s x a):t.spans.length≤40∧t.chunks.length≤79:=⟨(RJ h hx).ok.sp,(RJ h hx).ok.ch⟩
theorem b4L:Bg snA:=fun _=>rfl
theorem b4M{b:BC}{n:Nat}{s z:Bs}{x:Nd}{a i e kind:Int}{r1:List Ru}{r2:List Ch}{r3:List Sn}{r4:List Ti}{r5:List UInt8}{xa rk:Int}{kd:Int}{tx:List UInt8}{ks:List Int}{bl:Bool}(h:cnK b n s x a z i ⟨r1,r2,r3,r4,r5⟩ e kind)(hx:cnP b n s x a)(hk:kind>3)(h2:(r2.length:Int)>e)(h3:(r3.length:Int)<40):
 ∃(x_3:Sn),e=x_3.fr∧(r2.length:Int)-1=x_3.tuu∧1=x_3.cost∧∃(zs:List Sn),AV.sl true 0 3 Sn snA [x_3]=AV.sl true 0 3 Sn snA zs∧Bg snA∧AY (r3.length+zs.length) 24∧true=true∧∃(i_3:List Ru×List Ch×List Sn×List Ti×List UInt8×Int),Cg b n s x a (i+1) (zBW i_3)∧
  (AV.sl false 0 4 Nd (ndA false) b.ns=AV.sl false 0 4 Nd (ndA false) b.ns∧b.ind=b.ind∧AV.sl true 0 2 Ru ruA r1=AV.sl true 0 2 Ru ruA (zBW i_3).rules∧AV.sl true 0 5 Ch chA r2=AV.sl true 0 5 Ch chA (zBW i_3).chunks∧AV.sl true 0 3 Sn snA (r3++zs)=AV.sl true 0 3 Sn snA (zBW i_3).spans∧AV.sl true 0 2 Ti tiA r4=AV.sl true 0 2 Ti tiA (zBW i_3).ties∧r5=(zBW i_3).text∧(!b.rd)=(!b.rd)∧xa=xa∧kd=kd∧tx=tx∧AV.sl false 0 1 Int Cw ks=AV.sl false 0 1 Int Cw ks∧bl=bl∧rk=rk∧i=i∧True)∧True:=by
 have hr:=(RJ h hx).ok.sp
 refine⟨⟨e,(r2.length:Int)-1,1⟩,rfl,rfl,rfl,[⟨e,(r2.length:Int)-1,1⟩],rfl,b4L,?_,rfl,(r1,r2,r3++[⟨e,(r2.length:Int)-1,1⟩],r4,r5,0),a4p h hx hk h2 h3,⟨rfl,rfl,rfl,rfl,rfl,rfl,rfl,rfl,rfl,rfl,rfl,rfl,rfl,rfl,rfl,trivial⟩,trivial⟩
 unfold AY;simp only[List.length_cons,List.length_nil];omega
attribute [local irreducible] Cg cnJ cnK cqJ
def b4N(n:Nat)(x:BC×List Ru×List Ch×List Sn×List Ti×List UInt8×Nd×Int)(i:List Ru×List Ch×List Sn×List Ti×List UInt8×Int):LS:= {ι:=List Ru×List Ch×List Sn×List Ti×List UInt8×Int,inv:=fun j=>Cg x.1 n (xC x) x.2.2.2.2.2.2.1 (min (x.2.2.2.2.2.2.2+4) 40) (zI i+1) (zBW j),regs:=fun j=>[(0,suA x.1 (zBW j)),(2,.int .i64 x.2.2.2.2.2.2.2),(4,.box 0 (ndA false x.2.2.2.2.2.2.1)),(6,.int .i64 (AM x.1.rd (xC x))),(7,.int .i64 (zI i))],als:=[],meas:=fun _=>0}
def RX(n:Nat)(x:BC×List Ru×List Ch×List Sn×List Ti×List UInt8×Nd×Int)(i:List Ru×List Ch×List Sn×List Ti×List UInt8×Int):LS:= {ι:=List Ru×List Ch×List Sn×List Ti×List UInt8×Int×Int,inv:=fun j=>cnK x.1 n (xC x) x.2.2.2.2.2.2.1 (min (x.2.2.2.2.2.2.2+4) 40) (zBW i) (zI i) (wB j) j.2.2.2.2.2.1 j.2.2.2.2.2.2,regs:=fun j=>[(0,suA x.1 (wB j)),(8,.int .i64 j.2.2.2.2.2.1),(10,.int .i64 j.2.2.2.2.2.2),(2,.int .i64 x.2.2.2.2.2.2.2),(4,.box 0 (ndA false x.2.2.2.2.2.2.1)),(6,.int .i64 (AM x.1.rd (xC x))),(7,.int .i64 (zI i))],als:=[],meas:=fun _=>0}
def RY(n:Nat)(x:BC×List Ru×List Ch×List Sn×List Ti×List UInt8×Nd×Int)(i:List Ru×List Ch×List Sn×List Ti×List UInt8×Int):LS:= {ι:=List Ru×List Ch×List Sn×List Ti×List UInt8×Unit,inv:=fun j=>cqJ x.1 n (xC x) x.2.2.2.2.2.2.1 (min (x.2.2.2.2.2.2.2+4) 40) (zBW i) (zI i) ⟨j.1,j.2.1,j.2.2.1,j.2.2.2.1,j.2.2.2.2.1⟩,regs:=fun j=>[(0,suA x.1 ⟨j.1,j.2.1,j.2.2.1,j.2.2.2.1,j.2.2.2.2.1⟩),(2,.int .i64 x.2.2.2.2.2.2.2),(4,.box 0 (ndA false x.2.2.2.2.2.2.1)),(6,.int .i64 (AM x.1.rd (xC x))),(7,.int .i64 (zI i))],als:=[],meas:=fun _=>0}
def OH(n:Nat)(x:BC×List Ru×List Ch×List Sn×List Ti×List UInt8×Nd×Int):LS:= {ι:=List Ru×List Ch×List Sn×List Ti×List UInt8×Int,inv:=fun i=>Cg x.1 n (xC x) x.2.2.2.2.2.2.1 (min (x.2.2.2.2.2.2.2+4) 40) (zI i) (zBW i),regs:=fun i=>[(0,suA x.1 (zBW i)),(2,.int .i64 x.2.2.2.2.2.2.2),(4,.box 0 (ndA false x.2.2.2.2.2.2.1)),(6,.int .i64 (AM x.1.rd (xC x))),(7,.int .i64 (zI i))],als:=[],meas:=fun i=>x.2.2.2.2.2.2.1.kids.length-(zI i).toNat,sub:=fun i=>[(200008,RY n x i),(200014,RX n x i),(100015,b4N n x i)]}
def Xo(n:Nat):Sig:= {X:=BC×List Ru×List Ch×List Sn×List Ti×List UInt8×Nd×Int,args:=fun x=>[suA x.1 (xC x),.agg (ndA false x.2.2.2.2.2.2.1),.int .i64 x.2.2.2.2.2.2.2],pre:=fun x=>cqP x.1 n (xC x) x.2.2.2.2.2.2.1 x.2.2.2.2.2.2.2,Y:=BT,post:=fun x y=>isB (Kz x.1.ns x.1.rd (bV x.1.ns x.1.rd n) x.2.2.2.2.2.2.1 (min (x.2.2.2.2.2.2.2+4) 40) (xC x)) (yBW y),res:=fun x y=> .tup [],outs:=fun x y=>[suA x.1 (yBW y),.top,.top],keep:=true}
def OI(n:Nat)(x:BC×List Ru×List Ch×List Sn×List Ti×List UInt8×Nd×Int)(i:List Ru×List Ch×List Sn×List Ti×List UInt8×Int)(i_2:List Ru×List Ch×List Sn×List Ti×List UInt8×Int×Int):Prop:=∃(x_3:Sn),i_2.2.2.2.2.2.1=x_3.fr∧((↑(List.length (wB i_2).chunks):Int)-(1:Int)=x_3.tuu∧((1:Int)=x_3.cost∧(∃(zs:List Sn),AV.sl true 0 3 Sn snA [x_3]=AV.sl true 0 3 Sn snA zs∧(Bg snA∧(AY (List.length (wB i_2).spans+List.length zs) (24:Nat)∧(true=true∧(∃(i_3:List Ru×List Ch×List Sn×List Ti×List UInt8×Int),Cg x.1 n (xC x) x.2.2.2.2.2.2.1 (min (x.2.2.2.2.2.2.2+(4:Int)) (40:Int)) (zI i+(1:Int)) (zBW i_3)∧((nds x.1.ns=nds x.1.ns∧x.1.ind=x.1.ind∧AV.sl true 0 2 Ru ruA (wB i_2).rules=AV.sl true 0 2 Ru ruA (zBW i_3).rules∧AV.sl true 0 5 Ch chA (wB i_2).chunks=AV.sl true 0 5 Ch chA (zBW i_3).chunks∧AV.sl true 0 3 Sn snA ((wB i_2).spans++zs)=AV.sl true 0 3 Sn snA (zBW i_3).spans∧AV.sl true 0 2 Ti tiA (wB i_2).ties=AV.sl true 0 2 Ti tiA (zBW i_3).ties∧((wB i_2).text=(zBW i_3).text∧((!x.1.rd)= !x.1.rd∧x.2.2.2.2.2.2.2=x.2.2.2.2.2.2.2∧x.2.2.2.2.2.2.1.kind=x.2.2.2.2.2.2.1.kind∧x.2.2.2.2.2.2.1.text=x.2.2.2.2.2.2.1.text∧Ad x.2.2.2.2.2.2.1.kids=Ad x.2.2.2.2.2.2.1.kids∧x.2.2.2.2.2.2.1.blank=x.2.2.2.2.2.2.1.blank∧AM x.1.rd (xC x)=AM x.1.rd (xC x)∧zI i=zI i∧True)))∧True))))))))
def RZ(n:Nat)(x:BC×List Ru×List Ch×List Sn×List Ti×List UInt8×Nd×Int)(i:List Ru×List Ch×List Sn×List Ti×List UInt8×Int)(i_2:List Ru×List Ch×List Sn×List Ti×List UInt8×Int×Int):Prop:=eN (OH n x) i [.box 0 [nds x.1.ns,.int .i64 x.1.ind,AV.sl true 0 2 Ru ruA (wB i_2).rules,AV.sl true 0 5 Ch chA (wB i_2).chunks,AV.sl true 0 3 Sn snA (wB i_2).spans,AV.sl true 0 2 Ti tiA (wB i_2).ties,.str (wB i_2).text,.bool !x.1.rd],.int .i64 x.2.2.2.2.2.2.2,.box 0 [.int .i64 x.2.2.2.2.2.2.1.kind,.str x.2.2.2.2.2.2.1.text,Ad x.2.2.2.2.2.2.1.kids,.bool x.2.2.2.2.2.2.1.blank],.int .i64 (AM x.1.rd (xC x)),.int .i64 (zI i+(1:Int))]
theorem a4q(n:Nat)(hc:Ah G Go.Proofs.Tryz.prog 49 (BQ n)):Ah G Tryz.prog 87 (Xo n):=
 vcFun_okP [(50,0,Cd),(48,0,DT),(47,0,Dq),(49,0,(BQ n)),(120,0,Ip)] [(29,⟨Sn,snA⟩)] false (fun x=>[(3,OH n x)]) Tryz.func87 rfl (by decide) ⟨ML,OD,OF,hc,a4k,trivial⟩ (fun(x:BC×List Ru×List Ch×List Sn×List Ti×List UInt8×Nd×Int)=>True∧cA DT [.box 0 [nds x.1.ns,.int .i64 x.1.ind,AV.sl true 0 2 Ru ruA (xC x).rules,AV.sl true 0 5 Ch chA (xC x).chunks,AV.sl true 0 3 Sn snA (xC x).spans,AV.sl true 0 2 Ti tiA (xC x).ties,.str (xC x).text,.bool !x.1.rd],.int .i64 (2:Int),.int .i64 (1:Int)] fun x_1 y=>eA (OH n x) [.box 0 [nds x_1.1.ns,.int .i64 x_1.1.ind,AV.sl true 0 2 Ru ruA (yBW y).rules,AV.sl true 0 5 Ch chA (yBW y).chunks,AV.sl true 0 3 Sn snA (yBW y).spans,AV.sl true 0 2 Ti tiA (yBW y).ties,.str (yBW y).text,.bool !x_1.1.rd],.int .i64 x.2.2.2.2.2.2.2,.box 0 [.int .i64 x.2.2.2.2.2.2.1.kind,.str x.2.2.2.2.2.2.1.text,Ad x.2.2.2.2.2.2.1.kids,.bool x.2.2.2.2.2.2.1.blank],.int .i64 (AM x_1.1.rd (xC x_1)),.int .i64 (0:Int)]∧∀(i:List Ru×List Ch×List Sn×List Ti×List UInt8×Int),Cg x.1 n (xC x) x.2.2.2.2.2.2.1 (min (x.2.2.2.2.2.2.2+(4:Int)) (40:Int)) (zI i) (zBW i)→Ab (decide (zI i<(↑(List.length x.2.2.2.2.2.2.1.kids):Int))) (Ab (decide (zI i>(0:Int))) ((↑((1:Nat)+List.length x.2.2.2.2.2.2.1.text):Int)≤IntKind.max IntKind.i64∧cA Cd [.box 0 [nds x.1.ns,.int .i64 x.1.ind,AV.sl true 0 2 Ru ruA (zBW i).rules,AV.sl true 0 5 Ch chA (zBW i).chunks,AV.sl true 0 3 Sn snA (zBW i).spans,AV.sl true 0 2 Ti tiA (zBW i).ties,.str (zBW i).text,.bool !x.1.rd],.str (#[(32:UInt8)].toList++x.2.2.2.2.2.2.1.text)] fun x_2 y=>inR IntKind.i64 (x.2.2.2.2.2.2.2+(4:Int))∧cA Dq [.box 0 [nds x_2.1.ns,.int .i64 x_2.1.ind,AV.sl true 0 2 Ru ruA (yBW y).rules,AV.sl true 0 5 Ch chA (yBW y).chunks,AV.sl true 0 3 Sn snA (yBW y).spans,AV.sl true 0 2 Ti tiA (yBW y).ties,.str (yBW y).text,.bool !x_2.1.rd],.int .i64 (AM x.1.rd (xC x)),.int .i64 (1:Int),.bool true,.int .i64 (x.2.2.2.2.2.2.2+(4:Int))] fun x_3 y=>eA (RY n x i) [.box 0 [nds x_3.1.ns,.int .i64 x_3.1.ind,AV.sl true 0 2 Ru ruA (yBW y).rules,AV.sl true 0 5 Ch chA (yBW y).chunks,AV.sl true 0 3 Sn snA (yBW y).spans,AV.sl true 0 2 Ti tiA (yBW y).ties,.str (yBW y).text,.bool !x_3.1.rd],.int .i64 x.2.2.2.2.2.2.2,.box 0 [.int .i64 x.2.2.2.2.2.2.1.kind,.str x.2.2.2.2.2.2.1.text,Ad x.2.2.2.2.2.2.1.kids,.bool x.2.2.2.2.2.2.1.blank],.int .i64 (AM x.1.rd (xC x)),.int .i64 (zI i)]) (eA (RY n x i) [.box 0 [nds x.1.ns,.int .i64 x.1.ind,AV.sl true 0 2 Ru ruA (zBW i).rules,AV.sl true 0 5 Ch chA (zBW i).chunks,AV.sl true 0 3 Sn snA (zBW i).spans,AV.sl true 0 2 Ti tiA (zBW i).ties,.str (zBW i).text,.bool !x.1.rd],.int .i64 x.2.2.2.2.2.2.2,.box 0 [.int .i64 x.2.2.2.2.2.2.1.kind,.str x.2.2.2.2.2.2.1.text,Ad x.2.2.2.2.2.2.1.kids,.bool x.2.2.2.2.2.2.1.blank],.int .i64 (AM x.1.rd (xC x)),.int .i64 (zI i)])∧∀(i_1:List Ru×List Ch×List Sn×List Ti×List UInt8×Unit),cqJ x.1 n (xC x) x.2.2.2.2.2.2.1 (min (x.2.2.2.2.2.2.2+(4:Int)) (40:Int)) (zBW i) (zI i) {rules:=i_1.1,chunks:=i_1.2.1,spans:=i_1.2.2.1,ties:=i_1.2.2.2.1,text:=i_1.2.2.2.2.1}→((0:Int)≤zI i∧zI i<(↑(List.length x.2.2.2.2.2.2.1.kids):Int))∧∀(e:Int),x.2.2.2.2.2.2.1.kids[Int.toNat (zI i)]? =some e→inR IntKind.i64 (x.2.2.2.2.2.2.2+(4:Int))∧cA (BQ n) [.box 0 [nds x.1.ns,.int .i64 x.1.ind,AV.sl true 0 2 Ru ruA i_1.1,AV.sl true 0 5 Ch chA i_1.2.1,AV.sl true 0 3 Sn snA i_1.2.2.1,AV.sl true 0 2 Ti tiA i_1.2.2.2.1,.str i_1.2.2.2.2.1,.bool !x.1.rd],.int .i64 e,.int .i64 (x.2.2.2.2.2.2.2+(4:Int))] fun x_2 y=>true=true∧true=true∧((0:Int)≤zI i∧zI i<(↑(List.length x.2.2.2.2.2.2.1.kids):Int))∧∀(e:Int),x.2.2.2.2.2.2.1.kids[Int.toNat (zI i)]? =some e→((0:Int)≤e∧e<(↑(List.length x_2.1.ns):Int))∧∀(e_1:Nd),x_2.1.ns[Int.toNat e]? =some e_1→Ab (e_1.kind==(7:Int)) (cA Ip [.box 0 [nds x_2.1.ns,.int .i64 x_2.1.ind,AV.sl true 0 2 Ru ruA (yBW y).rules,AV.sl true 0 5 Ch chA (yBW y).chunks,AV.sl true 0 3 Sn snA (yBW y).spans,AV.sl true 0 2 Ti tiA (yBW y).ties,.str (yBW y).text,.bool !x_2.1.rd],.int .i64 (↑(List.length i_1.1):Int),.int .i64 (AM x.1.rd (xC x))] fun x_3 y=>eA (RX n x i) [.box 0 [nds x_3.1.ns,.int .i64 x_3.1.ind,AV.sl true 0 2 Ru ruA (yBW y).rules,AV.sl true 0 5 Ch chA (yBW y).chunks,AV.sl true 0 3 Sn snA (yBW y).spans,AV.sl true 0 2 Ti tiA (yBW y).ties,.str (yBW y).text,.bool !x_3.1.rd],.int .i64 (↑(List.length i_1.2.1):Int),.int .i64 e_1.kind,.int .i64 x.2.2.2.2.2.2.2,.box 0 [.int .i64 x.2.2.2.2.2.2.1.kind,.str x.2.2.2.2.2.2.1.text,Ad x.2.2.2.2.2.2.1.kids,.bool x.2.2.2.2.2.2.1.blank],.int .i64 (AM x.1.rd (xC x)),.int .i64 (zI i)]) (eA (RX n x i) [.box 0 [nds x_2.1.ns,.int .i64 x_2.1.ind,AV.sl true 0 2 Ru ruA (yBW y).rules,AV.sl true 0 5 Ch chA (yBW y).chunks,AV.sl true 0 3 Sn snA (yBW y).spans,AV.sl true 0 2 Ti tiA (yBW y).ties,.str (yBW y).text,.bool !x_2.1.rd],.int .i64 (↑(List.length i_1.2.1):Int),.int .i64 e_1.kind,.int .i64 x.2.2.2.2.2.2.2,.box 0 [.int .i64 x.2.2.2.2.2.2.1.kind,.str x.2.2.2.2.2.2.1.text,Ad x.2.2.2.2.2.2.1.kids,.bool x.2.2.2.2.2.2.1.blank],.int .i64 (AM x.1.rd (xC x)),.int .i64 (zI i)])∧∀(i_2:List Ru×List Ch×List Sn×List Ti×List UInt8×Int×Int),cnK x.1 n (xC x) x.2.2.2.2.2.2.1 (min (x.2.2.2.2.2.2.2+(4:Int)) (40:Int)) (zBW i) (zI i) (wB i_2) i_2.2.2.2.2.2.1 i_2.2.2.2.2.2.2→Ab (decide (i_2.2.2.2.2.2.2>(3:Int))) (Ab (decide ((↑(List.length (wB i_2).chunks):Int)>i_2.2.2.2.2.2.1)) (Ab (decide ((↑(List.length (wB i_2).spans):Int)<(40:Int))) (true=true∧((inR IntKind.i64 ((↑(List.length (wB i_2).chunks):Int)-(1:Int))∧(OI n x i i_2))∧inR IntKind.i64 ((↑(List.length (wB i_2).chunks):Int)-(1:Int))∧(OI n x i i_2)∧(OI n x i i_2)∧(OI n x i i_2))∧∀(i_3:List Ru×List Ch×List Sn×List Ti×List UInt8×Int),Cg x.1 n (xC x) x.2.2.2.2.2.2.1 (min (x.2.2.2.2.2.2.2+(4:Int)) (40:Int)) (zI i+(1:Int)) (zBW i_3)→inR IntKind.i64 (zI i+(1:Int))∧eN (OH n x) i [.box 0 [nds x.1.ns,.int .i64 x.1.ind,AV.sl true 0 2 Ru ruA (zBW i_3).rules,AV.sl true 0 5 Ch chA (zBW i_3).chunks,AV.sl true 0 3 Sn snA (zBW i_3).spans,AV.sl true 0 2 Ti tiA (zBW i_3).ties,.str (zBW i_3).text,.bool !x.1.rd],.int .i64 x.2.2.2.2.2.2.2,.box 0 [.int .i64 x.2.2.2.2.2.2.1.kind,.str x.2.2.2.2.2.2.1.text,Ad x.2.2.2.2.2.2.1.kids,.bool x.2.2.2.2.2.2.1.blank],.int .i64 (AM x.1.rd (xC x)),.int .i64 (zI i+(1:Int))]) (inR IntKind.i64 (zI i+(1:Int))∧(RZ n x i i_2))) (inR IntKind.i64 (zI i+(1:Int))∧(RZ n x i i_2))) (inR IntKind.i64 (zI i+(1:Int))∧(RZ n x i i_2))) (rA (Xo n) x [.tup [],.box 0 [nds x.1.ns,.int .i64 x.1.ind,AV.sl true 0 2 Ru ruA (zBW i).rules,AV.sl true 0 5 Ch chA (zBW i).chunks,AV.sl true 0 3 Sn snA (zBW i).spans,AV.sl true 0 2 Ti tiA (zBW i).ties,.str (zBW i).text,.bool !x.1.rd],.top,.top])) (fun x=>by kernel_rfl) fun(x:BC×List Ru×List Ch×List Sn×List Ti×List UInt8×Nd×Int) (hx:cqP x.1 n (xC x) x.2.2.2.2.2.2.1 x.2.2.2.2.2.2.2)=>(by
 dsimp only[RZ,OI,cA,Bl,RX,OH,RY,eA,eN,Ad,Bi,nds,rA,Bj,Xo,Cd,DT,Dq,Ip,BQ,Bm,suA,Bn,Aq,Aw,mvL,lnL,mvE,lnE,mvG,mvH,lnG,lnH,Ba]
 obtain⟨b,r,c,s,t,u,x,a⟩:=x;dsimp only[xC] at hx ⊢
 have hx:cqP b n ⟨r,c,s,t,u⟩ x a:=hx
 have h1:=hx.ar.1;have h2:=hx.cn.kl;have h3:=hx.cn.tl
 (repeat' first|exact b4M ‹_› hx.cn ‹_› ‹_› ‹_› |refine a3t ?_|(with_reducible first|rfl|exact True.intro|apply AG|apply And.intro|((first|apply Au|apply AE|apply Av|apply AF)<;>intro _))|(apply As<;>intro _)|apply AD|refine Af () ?_ ?_|((first|apply AK|apply AJ|apply AI|apply AH|apply AC|apply AB|apply AA|apply Az|apply Ax)<;>try dsimp only)|apply Af|(refine Prod.forall.2 ?_;intro _;try dsimp only)|(intro _;try dsimp only))
 all_goals(try(repeat(rename x.kids[_]? =some _=>hq;revert hq;rename x.kids[_]? =some _=>hr;intro hq;rw[hr] at hq;cases hq)))
 all_goals(try dsimp only[yBW,xC,zBW,zI,wB] at*)
 all_goals first
  |with_reducible rfl
  |with_reducible assumption
  |omega
  |exact CV hx.cn.rm
  |exact a3K hx.cn ‹_›
  |exact b4z ‹_› ‹_› hx.cn ‹_›
  |exact b4A ‹_› ‹_› ‹_›
  |exact b4B ‹_› ‹_› ‹_› ‹_› ‹_›
  |exact b4D ‹_› hx ‹_›
  |exact b4E ‹_› ‹_› hx ‹_›
  |exact b4G ‹_› ‹_› ‹_› ‹_› ‹_›
  |exact b4H ‹_› ‹_› ‹_› ‹_› hx ‹_› ‹_›
  |exact Xn ‹_› hx.cn (.inl (.inl ‹_›))
  |exact Xn ‹_› hx.cn (.inl (.inr ‹_›))
  |exact Xn ‹_› hx.cn (.inr ‹_›)
  |exact a4p ‹_› hx.cn ‹_› ‹_› ‹_›
  |exact b4J ‹_› hx.cn ‹_›
  |(rename Cg _ _ _ _ _ _ _=>hz;clear hz;have hq:=OA (show Cg _ _ _ _ _ _ _ by assumption);omega)
  |(have hq:=OA (show Cg _ _ _ _ _ _ _ by assumption);(try have hk:=a4o hx ‹_›);(try simp only[Aj]);omega)
  |(have hq:=b4y (show Cg _ _ _ _ _ _ _ by assumption) ‹_›;dsimp only at hq;(try simp only[Aj,List.length_append,List.length_cons,List.length_nil]);omega)
  |(have hq:=b4F (show cqJ _ _ _ _ _ _ _ _ by assumption) hx.cn ‹_›;(try simp only[Aj]);omega)
  |(have hq:=b4K (show cnK _ _ _ _ _ _ _ _ _ _ by assumption) hx.cn;dsimp only at hq;(try simp only[Aj,AY,List.length_cons,List.length_nil]);omega)
  |(have hq:=b4C (show cqJ _ _ _ _ _ _ _ _ by assumption) hx.cn;dsimp only at hq;(try simp only[Aj]);omega)
  |exact()
  |rfl
  |skip)
end Go.My
end
section
namespace Go.My
open Go.Eng Go.Proofs
variable {G:GInv}
structure pxP (c:BC) (n:Nat) (s:Bs) (x:Nd) (a:Int):Prop where
 pn:pnP c n s x (min (a+4) 40)
 ar:inA a x.kids
theorem a4r{c:BC}{n:Nat}{s:Bs}{x:Nd}{a i k:Int}(h:pxP c n s x a)(hc:x.kids[i.toNat]? =some k):a+4+4*k≤2^40:=h.ar.2 k (AZ hc)
theorem Sa{c:BC}{n:Nat}{s t:Bs}{x:Nd}{a i:Int}(h:pnI c n s x a i t)(hi:i<x.kids.length):∃k,x.kids[i.toNat]? =some k:=by
 have:=RO h
 exact⟨_,List.getElem?_eq_getElem (by omega)⟩
theorem b4O{c:BC}{n:Nat}{s t:Bs}{x:Nd}{a i:Int}(h:pnI c n s x a i t)(hi:i<x.kids.length):bB t:=by
 obtain⟨k,hk⟩:=Sa h hi;exact a3S h hk
theorem a4s{r a:Int}{s t:Bs}(h:isB (AU r 1 true (a+4) s) t):t=AU r 1 true (min (a+4) 40) s:=by rw[h];exact MK (by omega)
theorem b4P{c:BC}{n:Nat}{s t u:Bs}{x:Nd}{a i:Int}(hu:isB (AU (AM c.rd s) 1 true (a+4) t) u)(h:pnI c n s x (min (a+4) 40) i t)(hi:i<x.kids.length):u.text.length+4≤2^61:=by
 obtain⟨k,hk⟩:=Sa h hi;exact a3U h (a4s hu) hk
def pxJ(c:BC)(n:Nat)(s:Bs)(x:Nd)(a:Int)(z:Bs)(i:Int)(t:Bs):Prop:=∃k,pnJ c n s x a z i k t
theorem b4Q{c:BC}{n:Nat}{s t:Bs}{x:Nd}{a i:Int}(h:pnI c n s x a i t)(hl:i<x.kids.length)(hi:¬i>0):pxJ c n s x a t i t:=by
 obtain⟨k,hk⟩:=Sa h hl;exact⟨k,a3V h hk hi⟩
theorem b4R{c:BC}{n:Nat}{s t u w:Bs}{x:Nd}{a i:Int}{l:List UInt8}(h:pnI c n s x (min (a+4) 40) i t)(hw:isB (Am l u) w)(hu:isB (AU (AM c.rd s) 1 true (a+4) t) u)(hp:([[],[63,32],[58,32]]:List (List UInt8))[i.toNat]? =some l)(hl:i<x.kids.length)(hi:i>0):pxJ c n s x (min (a+4) 40) t i w:=by
 obtain⟨k,hk⟩:=Sa h hl
 rw[hw];exact⟨k,a4c h hk hi (a4s hu) hp⟩
theorem OJ{c:BC}{n:Nat}{s z t:Bs}{x:Nd}{a i k:Int}(h:pxJ c n s x a z i t)(hk:x.kids[i.toNat]? =some k):pnJ c n s x a z i k t:=by
 obtain⟨k',h'⟩:=h
 have:=h'.1.2
 rw[hk] at this;cases this;exact h'
theorem b4S{c:BC}{n:Nat}{s z t:Bs}{x:Nd}{a i:Int}(h:pxJ c n s x a z i t):t.rules.length≤8:=by
 obtain⟨k,h⟩:=h;exact(WY h).1.ru
theorem b4T{c:BC}{n:Nat}{s z t:Bs}{x:Nd}{a i k:Int}(h:pxJ c n s x (min (a+4) 40) z i t)(hx:pxP c n s x a)(hk:x.kids[i.toNat]? =some k):vsP c.ns n t k (a+4):=Xm (WZ (OJ h hk) hx.pn) hx.ar.1.1 (a4r hx hk)
theorem b4U{c:BC}{n:Nat}{s z t u:Bs}{x:Nd}{a i k:Int}(h:pxJ c n s x (min (a+4) 40) z i t)(hu:vsQ c n t k (a+4) u)(hx:pxP c n s x a)(hk:x.kids[i.toNat]? =some k):bB u:=a3W (OJ h hk) (Lc hu) hx.pn
theorem b4V{c:BC}{n:Nat}{s z t:Bs}{x:Nd}{a i k:Int}(h:pxJ c n s x a z i t)(hx:pnP c n s x a)(hk:x.kids[i.toNat]? =some k):0≤k∧k<c.ns.length:=a3X (OJ h hk) hx
theorem b4W{c:BC}{n:Nat}{s z t u:Bs}{x:Nd}{a i k:Int}{e:Nd}(h:pxJ c n s x (min (a+4) 40) z i t)(hu:vsQ c n t k (a+4) u)(hx:pxP c n s x a)(he:c.ns[k.toNat]? =some e)(hk:x.kids[i.toNat]? =some k)(h8:¬e.kind=8):pnI c n s x (min (a+4) 40) (i+1) u:=a3Z (OJ h hk) (Lc hu) hx.pn he h8
theorem b4X{c:BC}{n:Nat}{s z t u v:Bs}{x:Nd}{a i k:Int}{e:Nd}(h:pxJ c n s x (min (a+4) 40) z i t)(hv:isB (CH (Dy t.rules.length u) (AM c.rd s) u) v)(hu:vsQ c n t k (a+4) u)(hx:pxP c n s x a)(he:c.ns[k.toNat]? =some e)(hk:x.kids[i.toNat]? =some k)(h8:e.kind=8):pnI c n s x (min (a+4) 40) (i+1) v:=by
 have hkp:=hx.pn.kd k (AZ hk)
 refine a4a (OJ h hk) (Lc hu) ?_ hx.pn he h8
 rw[←RE (a:=min (a+4) 40) hkp.1 hkp.2.1 (.inr (by rw[Eg he];exact h8)),←hu];exact hv
theorem b4Y{c:BC}{n:Nat}{s t:Bs}{x:Nd}{a i:Int}(h:pnI c n s x a i t)(hx:pnP c n s x a)(hi:¬i<x.kids.length):isB (Mh c.ns c.rd (bV c.ns c.rd n) x a s) t:=(a4b h hx hi).1
attribute [local irreducible] pnI pnJ pxJ
def Sb(n:Nat)(x:BC×List Ru×List Ch×List Sn×List Ti×List UInt8×Nd×Int)(i:List Ru×List Ch×List Sn×List Ti×List UInt8×Int):LS:= {ι:=List Ru×List Ch×List Sn×List Ti×List UInt8×Unit,inv:=fun j=>pxJ x.1 n (xC x) x.2.2.2.2.2.2.1 (min (x.2.2.2.2.2.2.2+4) 40) (zBW i) (zI i) ⟨j.1,j.2.1,j.2.2.1,j.2.2.2.1,j.2.2.2.2.1⟩,regs:=fun j=>[(0,suA x.1 ⟨j.1,j.2.1,j.2.2.1,j.2.2.2.1,j.2.2.2.2.1⟩),(2,.int .i64 x.2.2.2.2.2.2.2),(4,.box 0 (ndA false x.2.2.2.2.2.2.1)),(6,.int .i64 (AM x.1.rd (xC x))),(7,.int .i64 (zI i))],als:=[],meas:=fun _=>0}
def OK(n:Nat)(x:BC×List Ru×List Ch×List Sn×List Ti×List UInt8×Nd×Int):LS:= {ι:=List Ru×List Ch×List Sn×List Ti×List UInt8×Int,inv:=fun i=>pnI x.1 n (xC x) x.2.2.2.2.2.2.1 (min (x.2.2.2.2.2.2.2+4) 40) (zI i) (zBW i),regs:=fun i=>[(0,suA x.1 (zBW i)),(2,.int .i64 x.2.2.2.2.2.2.2),(4,.box 0 (ndA false x.2.2.2.2.2.2.1)),(6,.int .i64 (AM x.1.rd (xC x))),(7,.int .i64 (zI i))],als:=[],meas:=fun i=>x.2.2.2.2.2.2.1.kids.length-(zI i).toNat,sub:=fun i=>[(200008,Sb n x i)]}
def MM(n:Nat):Sig:= {X:=BC×List Ru×List Ch×List Sn×List Ti×List UInt8×Nd×Int,args:=fun x=>[suA x.1 (xC x),.agg (ndA false x.2.2.2.2.2.2.1),.int .i64 x.2.2.2.2.2.2.2],pre:=fun x=>pxP x.1 n (xC x) x.2.2.2.2.2.2.1 x.2.2.2.2.2.2.2,Y:=BT,post:=fun x y=>isB (Mh x.1.ns x.1.rd (bV x.1.ns x.1.rd n) x.2.2.2.2.2.2.1 (min (x.2.2.2.2.2.2.2+4) 40) (xC x)) (yBW y),res:=fun x y=> .tup [],outs:=fun x y=>[suA x.1 (yBW y),.top,.top],keep:=true}
theorem b4Z(n:Nat)(hc:Ah G Go.Proofs.Tryz.prog 49 (BQ n)):Ah G Tryz.prog 88 (MM n):=
 vcFun_okP [(50,0,Cd),(48,0,DT),(47,0,Dq),(49,0,(BQ n)),(120,0,Ip)] [(42,⟨List UInt8,Ag⟩)] false (fun x=>[(3,OK n x)]) Tryz.func88 rfl (by decide) ⟨ML,OD,OF,hc,a4k,trivial⟩ (fun(x:BC×List Ru×List Ch×List Sn×List Ti×List UInt8×Nd×Int)=>True∧cA DT [.box 0 [nds x.1.ns,.int .i64 x.1.ind,AV.sl true 0 2 Ru ruA (xC x).rules,AV.sl true 0 5 Ch chA (xC x).chunks,AV.sl true 0 3 Sn snA (xC x).spans,AV.sl true 0 2 Ti tiA (xC x).ties,.str (xC x).text,.bool !x.1.rd],.int .i64 (2:Int),.int .i64 (1:Int)] fun x_1 y=>eA (OK n x) [.box 0 [nds x_1.1.ns,.int .i64 x_1.1.ind,AV.sl true 0 2 Ru ruA (yBW y).rules,AV.sl true 0 5 Ch chA (yBW y).chunks,AV.sl true 0 3 Sn snA (yBW y).spans,AV.sl true 0 2 Ti tiA (yBW y).ties,.str (yBW y).text,.bool !x_1.1.rd],.int .i64 x.2.2.2.2.2.2.2,.box 0 [.int .i64 x.2.2.2.2.2.2.1.kind,.str x.2.2.2.2.2.2.1.text,Ad x.2.2.2.2.2.2.1.kids,.bool x.2.2.2.2.2.2.1.blank],.int .i64 (AM x_1.1.rd (xC x_1)),.int .i64 (0:Int)]∧∀(i:List Ru×List Ch×List Sn×List Ti×List UInt8×Int),pnI x.1 n (xC x) x.2.2.2.2.2.2.1 (min (x.2.2.2.2.2.2.2+(4:Int)) (40:Int)) (zI i) (zBW i)→Ab (decide (zI i<(↑(List.length x.2.2.2.2.2.2.1.kids):Int))) (Ab (decide (zI i>(0:Int))) (inR IntKind.i64 (x.2.2.2.2.2.2.2+(4:Int))∧cA Dq [.box 0 [nds x.1.ns,.int .i64 x.1.ind,AV.sl true 0 2 Ru ruA (zBW i).rules,AV.sl true 0 5 Ch chA (zBW i).chunks,AV.sl true 0 3 Sn snA (zBW i).spans,AV.sl true 0 2 Ti tiA (zBW i).ties,.str (zBW i).text,.bool !x.1.rd],.int .i64 (AM x.1.rd (xC x)),.int .i64 (1:Int),.bool true,.int .i64 (x.2.2.2.2.2.2.2+(4:Int))] fun x_2 y=>∃(x_3:List UInt8),#[].toList=x_3∧∃(x_4:List UInt8),#[(63:UInt8),(32:UInt8)].toList=x_4∧∃(x_5:List UInt8),#[(58:UInt8),(32:UInt8)].toList=x_5∧((0:Int)≤zI i∧zI i<(↑(List.length [x_3,x_4,x_5]):Int))∧Int.toNat (zI i)<List.length [x_3,x_4,x_5]∧∀(x_6:List UInt8),[x_3,x_4,x_5][Int.toNat (zI i)]? =some x_6→cA Cd [.box 0 [nds x_2.1.ns,.int .i64 x_2.1.ind,AV.sl true 0 2 Ru ruA (yBW y).rules,AV.sl true 0 5 Ch chA (yBW y).chunks,AV.sl true 0 3 Sn snA (yBW y).spans,AV.sl true 0 2 Ti tiA (yBW y).ties,.str (yBW y).text,.bool !x_2.1.rd],.str x_6] fun x_7 y=>eA (Sb n x i) [.box 0 [nds x_7.1.ns,.int .i64 x_7.1.ind,AV.sl true 0 2 Ru ruA (yBW y).rules,AV.sl true 0 5 Ch chA (yBW y).chunks,AV.sl true 0 3 Sn snA (yBW y).spans,AV.sl true 0 2 Ti tiA (yBW y).ties,.str (yBW y).text,.bool !x_7.1.rd],.int .i64 x.2.2.2.2.2.2.2,.box 0 [.int .i64 x.2.2.2.2.2.2.1.kind,.str x.2.2.2.2.2.2.1.text,Ad x.2.2.2.2.2.2.1.kids,.bool x.2.2.2.2.2.2.1.blank],.int .i64 (AM x.1.rd (xC x)),.int .i64 (zI i)]) (eA (Sb n x i) [.box 0 [nds x.1.ns,.int .i64 x.1.ind,AV.sl true 0 2 Ru ruA (zBW i).rules,AV.sl true 0 5 Ch chA (zBW i).chunks,AV.sl true 0 3 Sn snA (zBW i).spans,AV.sl true 0 2 Ti tiA (zBW i).ties,.str (zBW i).text,.bool !x.1.rd],.int .i64 x.2.2.2.2.2.2.2,.box 0 [.int .i64 x.2.2.2.2.2.2.1.kind,.str x.2.2.2.2.2.2.1.text,Ad x.2.2.2.2.2.2.1.kids,.bool x.2.2.2.2.2.2.1.blank],.int .i64 (AM x.1.rd (xC x)),.int .i64 (zI i)])∧∀(i_1:List Ru×List Ch×List Sn×List Ti×List UInt8×Unit),pxJ x.1 n (xC x) x.2.2.2.2.2.2.1 (min (x.2.2.2.2.2.2.2+(4:Int)) (40:Int)) (zBW i) (zI i) {rules:=i_1.1,chunks:=i_1.2.1,spans:=i_1.2.2.1,ties:=i_1.2.2.2.1,text:=i_1.2.2.2.2.1}→((0:Int)≤zI i∧zI i<(↑(List.length x.2.2.2.2.2.2.1.kids):Int))∧∀(e:Int),x.2.2.2.2.2.2.1.kids[Int.toNat (zI i)]? =some e→inR IntKind.i64 (x.2.2.2.2.2.2.2+(4:Int))∧cA (BQ n) [.box 0 [nds x.1.ns,.int .i64 x.1.ind,AV.sl true 0 2 Ru ruA i_1.1,AV.sl true 0 5 Ch chA i_1.2.1,AV.sl true 0 3 Sn snA i_1.2.2.1,AV.sl true 0 2 Ti tiA i_1.2.2.2.1,.str i_1.2.2.2.2.1,.bool !x.1.rd],.int .i64 e,.int .i64 (x.2.2.2.2.2.2.2+(4:Int))] fun x_2 y=>true=true∧true=true∧((0:Int)≤zI i∧zI i<(↑(List.length x.2.2.2.2.2.2.1.kids):Int))∧∀(e:Int),x.2.2.2.2.2.2.1.kids[Int.toNat (zI i)]? =some e→((0:Int)≤e∧e<(↑(List.length x_2.1.ns):Int))∧∀(e_1:Nd),x_2.1.ns[Int.toNat e]? =some e_1→Ab (e_1.kind==(8:Int)) (cA Ip [.box 0 [nds x_2.1.ns,.int .i64 x_2.1.ind,AV.sl true 0 2 Ru ruA (yBW y).rules,AV.sl true 0 5 Ch chA (yBW y).chunks,AV.sl true 0 3 Sn snA (yBW y).spans,AV.sl true 0 2 Ti tiA (yBW y).ties,.str (yBW y).text,.bool !x_2.1.rd],.int .i64 (↑(List.length i_1.1):Int),.int .i64 (AM x.1.rd (xC x))] fun x_3 y=>inR IntKind.i64 (zI i+(1:Int))∧eN (OK n x) i [.box 0 [nds x_3.1.ns,.int .i64 x_3.1.ind,AV.sl true 0 2 Ru ruA (yBW y).rules,AV.sl true 0 5 Ch chA (yBW y).chunks,AV.sl true 0 3 Sn snA (yBW y).spans,AV.sl true 0 2 Ti tiA (yBW y).ties,.str (yBW y).text,.bool !x_3.1.rd],.int .i64 x.2.2.2.2.2.2.2,.box 0 [.int .i64 x.2.2.2.2.2.2.1.kind,.str x.2.2.2.2.2.2.1.text,Ad x.2.2.2.2.2.2.1.kids,.bool x.2.2.2.2.2.2.1.blank],.int .i64 (AM x.1.rd (xC x)),.int .i64 (zI i+(1:Int))]) (inR IntKind.i64 (zI i+(1:Int))∧eN (OK n x) i [.box 0 [nds x_2.1.ns,.int .i64 x_2.1.ind,AV.sl true 0 2 Ru ruA (yBW y).rules,AV.sl true 0 5 Ch chA (yBW y).chunks,AV.sl true 0 3 Sn snA (yBW y).spans,AV.sl true 0 2 Ti tiA (yBW y).ties,.str (yBW y).text,.bool !x_2.1.rd],.int .i64 x.2.2.2.2.2.2.2,.box 0 [.int .i64 x.2.2.2.2.2.2.1.kind,.str x.2.2.2.2.2.2.1.text,Ad x.2.2.2.2.2.2.1.kids,.bool x.2.2.2.2.2.2.1.blank],.int .i64 (AM x.1.rd (xC x)),.int .i64 (zI i+(1:Int))])) (rA (MM n) x [.tup [],.box 0 [nds x.1.ns,.int .i64 x.1.ind,AV.sl true 0 2 Ru ruA (zBW i).rules,AV.sl true 0 5 Ch chA (zBW i).chunks,AV.sl true 0 3 Sn snA (zBW i).spans,AV.sl true 0 2 Ti tiA (zBW i).ties,.str (zBW i).text,.bool !x.1.rd],.top,.top])) (fun x=>by kernel_rfl) fun(x:BC×List Ru×List Ch×List Sn×List Ti×List UInt8×Nd×Int) (hx:pxP x.1 n (xC x) x.2.2.2.2.2.2.1 x.2.2.2.2.2.2.2)=>(by
 dsimp only[cA,Bl,eA,eN,Ad,Bi,nds,OK,Sb,rA,Bj,MM,Cd,DT,Dq,Ip,BQ,Bm,suA,Bn,Aq,Aw,mvL,lnL,mvE,lnE,mvG,mvH,lnG,lnH,Ba]
 obtain⟨b,r,c,s,t,u,x,a⟩:=x;dsimp only[xC] at hx ⊢
 have hx:pxP b n ⟨r,c,s,t,u⟩ x a:=hx
 have h1:=hx.ar.1;have h2:=hx.pn.kl
 (repeat' first|(with_reducible first|rfl|exact True.intro|apply AG|apply And.intro|((first|apply Au|apply AE|apply Av|apply AF)<;>intro _))|(apply As<;>intro _)|apply AD|refine Af () ?_ ?_|((first|apply AK|apply AJ|apply AI|apply AH|apply AC|apply AB|apply AA|apply Az|apply Ax)<;>try dsimp only)|apply Af|(refine Prod.forall.2 ?_;intro _;try dsimp only)|(intro _;try dsimp only))
 all_goals(try(repeat(rename x.kids[_]? =some _=>hq;revert hq;rename x.kids[_]? =some _=>hr;intro hq;rw[hr] at hq;cases hq)))
 all_goals(try dsimp only[yBW,xC,zBW,zI,wB] at*)
 all_goals first
  |with_reducible rfl
  |with_reducible assumption
  |omega
  |exact CV hx.pn.rm
  |exact a3R hx.pn ‹_›
  |exact b4O ‹_› ‹_›
  |exact b4Q ‹_› ‹_› ‹_›
  |exact b4R ‹_› ‹_› ‹_› ‹_› ‹_› ‹_›
  |exact b4T ‹_› hx ‹_›
  |exact b4U ‹_› ‹_› hx ‹_›
  |exact b4W ‹_› ‹_› hx ‹_› ‹_› ‹_›
  |exact b4X ‹_› ‹_› ‹_› hx ‹_› ‹_› ‹_›
  |exact b4Y ‹_› hx.pn ‹_›
  |(have hq:=RO (show pnI _ _ _ _ _ _ _ by assumption);(try have hk:=a4r hx ‹_›);(try simp only[Aj,List.length_cons,List.length_nil]);omega)
  |(have hq:=b4P ‹_› ‹_› ‹_›;have hq2:=(Xa ‹_› ‹_›).2;dsimp only at hq;(try simp only[Aj,List.length_append,List.length_cons,List.length_nil]);omega)
  |(have hq:=b4V (show pxJ _ _ _ _ _ _ _ _ by assumption) hx.pn ‹_›;(try simp only[Aj]);omega)
  |(have hq:=b4S (show pxJ _ _ _ _ _ _ _ _ by assumption);dsimp only at hq;(try simp only[Aj]);omega)
  |exact()
  |rfl
  |skip)
end Go.My
end
section
namespace Go.My
open Go.Eng Go.Proofs
variable {G:GInv}
theorem a4t{ns:List Nd}{n:Nat}{s:Bs}{k a:Int}(h:vlP ns n s k a):ns[k.toNat]? =some (Aa ns k):=by
 have hr:=Bc.1 h.up.1
 have e:ns[k.toNat]? =some ns[k.toNat]:=List.getElem?_eq_getElem (by omega)
 rw[Br e];exact e
theorem Ju{ns:List Nd}{n:Nat}{s:Bs}{k a:Int}(h:vlP ns (n+1) s k a):kdP ns n (Aa ns k).kids:=fun c hc=>by
 have hm:=CG h.up hc
 have:=h.lt
 exact⟨hm.1,by omega,Mk h.up h.vl hc⟩
theorem Jv{ns:List Nd}{n:Nat}{s:Bs}{k a:Int}(h:vlP ns n s k a):(Aa ns k).kids.length≤12:=(Dj (Eo h.up)).2.1
theorem Iq{ns:List Nd}{n:Nat}{s:Bs}{k a:Int}(h:vlP ns (n+1) s k a):bR ((Aa ns k).text.length+80+wL (tW ns n) (Aa ns k).kids) s:=h.rm
theorem Xp{ns:List Nd}{n:Nat}{s:Bs}{k a:Int}(h:vlP ns n s k a)(h1:¬(Aa ns k).kind=1)(h2:¬(Aa ns k).kind=2)(h3:¬(Aa ns k).kind=3)(h4:¬(Aa ns k).kind=4):0<(Aa ns k).kids.length:=by
 have hv:=BA.1 h.vl
 have hlo:=(HY h.up).2.1
 unfold Al at hv
 unfold CN at hlo
 split at hlo
 ·omega
 ·split at hlo
  ·simp only at hlo;omega
  ·split at hlo
   ·simp only at hlo;omega
   ·split at hlo
    ·simp only at hlo;omega
    ·split at hlo
     ·simp only at hlo;omega
     ·omega
theorem Ld{c:BC}{n:Nat}{s t:Bs}{k a d:Int}(h:vlP c.ns (n+1) s k a)(hd:(Aa c.ns k).kids[(0:Nat)]? =some d)(ht:bR ((Aa c.ns k).text.length+79+wL (tW c.ns n) (Aa c.ns k).kids) t):vlP c.ns n t d a∧∀ {o:Int} {u:Bs},BJ c n t d a o u→bR ((Aa c.ns k).text.length+79+wL (tW c.ns n) ((Aa c.ns k).kids.drop 1)) u:=by
 have hk:=Ju h d (AZ hd)
 have e:wL (tW c.ns n) (Aa c.ns k).kids=tW c.ns n d+wL (tW c.ns n) ((Aa c.ns k).kids.drop 1):=by
  have:=Dm hd
  rw[List.drop_zero] at this
  conv=>lhs;rw[this]
  rw[Db]
 have hp:vlP c.ns n t d a:=⟨hk.1,hk.2.1,hk.2.2,Dg ht (by omega),h.ar⟩
 exact⟨hp,fun {o u} hq=>WT hp hq (Dg ht (by omega))⟩
theorem Le{c:BC}{n:Nat}{s t:Bs}{k a:Int}(ht:t=bV1 c.ns c.rd (bV c.ns c.rd n) (Aa c.ns k) a s)(hk:¬(Aa c.ns k).kind=7)(hk2:¬(Aa c.ns k).kind=8):BJ c (n+1) s k a (-1) t:=by
 refine⟨by rw[bV];exact ht,?_⟩
 rw[Gy,if_neg (by intro hh;rcases hh with hh|hh;exact hk hh;exact hk2 hh)]
theorem Xq{c:BC}{n:Nat}{s:Bs}{k a:Int}(hk:(Aa c.ns k).kind=1∨(Aa c.ns k).kind=2∨(Aa c.ns k).kind=3):BJ c (n+1) s k a (-1) (Am (Aa c.ns k).text s):=
 Le (by rw[bV1,if_pos hk]) (by omega) (by omega)
theorem a4u{c:BC}{n:Nat}{s:Bs}{k a:Int}(h:vlP c.ns (n+1) s k a):s.text.length+(Aa c.ns k).text.length+80≤2^61:=by
 have:=(Iq h).2;unfold tot at this;omega
theorem a4v{c:BC}{n:Nat}{s:Bs}{k a:Int}(h:vlP c.ns (n+1) s k a):bR ((Aa c.ns k).text.length+79+wL (tW c.ns n) (Aa c.ns k).kids) (Am [40] s):=Jq (Iq h) (by show _+1≤_;omega)
theorem a4w{c:BC}{n:Nat}{s:Bs}{k a d:Int}(h:vlP c.ns (n+1) s k a)(hd:(Aa c.ns k).kids[(0:Nat)]? =some d):vlP c.ns n (Am [40] s) d a:=(Ld h hd (a4v h)).1
theorem a4x{c:BC}{n:Nat}{s u:Bs}{k a d o:Int}(h:vlP c.ns (n+1) s k a)(hu:BJ c n (Am [40] s) d a o u)(hd:(Aa c.ns k).kids[(0:Nat)]? =some d):u.text.length+79≤2^61:=by
 have:=((Ld h hd (a4v h)).2 hu).2;unfold tot at this;omega
theorem a4y{c:BC}{n:Nat}{s:Bs}{k a d o:Int}{r1:List Ru}{r2:List Ch}{r3:List Sn}{r4:List Ti}{r5:List UInt8}(hu:BJ c n (Am [40] s) d a o ⟨r1,r2,r3,r4,r5⟩)(hd:(Aa c.ns k).kids[(0:Nat)]? =some d)(hk:(Aa c.ns k).kind=11):BJ c (n+1) s k a (-1) ⟨r1,r2,r3,r4,r5++[41]⟩:=
 Le (by rw[bV1,if_neg (by omega),if_pos hk,Cr hd,←hu.1];rfl) (by omega) (by omega)
theorem OL{c:BC}{n:Nat}{s:Bs}{k a:Int}(h:vlP c.ns (n+1) s k a):bR ((Aa c.ns k).text.length+79+wL (tW c.ns n) (Aa c.ns k).kids) s:=Dg (Iq h) (by omega)
theorem a4z{c:BC}{n:Nat}{s:Bs}{k a d:Int}(h:vlP c.ns (n+1) s k a)(hd:(Aa c.ns k).kids[(0:Nat)]? =some d):vlP c.ns n s d a:=(Ld h hd (OL h)).1
theorem a4A{c:BC}{n:Nat}{s u:Bs}{k a d o:Int}(h:vlP c.ns (n+1) s k a)(hu:BJ c n s d a o u)(hd:(Aa c.ns k).kids[(0:Nat)]? =some d):u.text.length+(Aa c.ns k).text.length+79≤2^61:=by
 have:=((Ld h hd (OL h)).2 hu).2;unfold tot at this;omega
theorem a4B{c:BC}{n:Nat}{s u:Bs}{k a d o:Int}(hu:BJ c n s d a o u)(hd:(Aa c.ns k).kids[(0:Nat)]? =some d)(hk:(Aa c.ns k).kind=6):BJ c (n+1) s k a (-1) (Am (46::(Aa c.ns k).text) u):=
 Le (by rw[bV1,if_neg (by omega),if_neg (by omega),if_pos hk,Cr hd,hu.1]) (by omega) (by omega)
theorem a4C{c:BC}{n:Nat}{s:Bs}{k a:Int}(h:vlP c.ns (n+1) s k a):liP c n s [91] (Aa c.ns k).kids [93] a:=⟨Ju h,Jv h,by simp,by simp,Dg (Iq h) (by omega),h.ar⟩
theorem a4D{c:BC}{n:Nat}{s u:Bs}{k a:Int}(hu:isB (Eb c.rd (bV c.ns c.rd n) [91] (Aa c.ns k).kids [93] a s) u)(hk:(Aa c.ns k).kind=4):BJ c (n+1) s k a (-1) u:=
 Le (by rw[bV1,if_neg (by omega),if_neg (by omega),if_neg (by omega),if_pos hk];exact hu) (by omega) (by omega)
theorem a4E{c:BC}{n:Nat}{s u:Bs}{k a d o:Int}(h:vlP c.ns (n+1) s k a)(hu:BJ c n s d a o u)(hd:(Aa c.ns k).kids[(0:Nat)]? =some d):liP c n u [40] ((Aa c.ns k).kids.drop 1) [41] a:=
 ⟨fun e he=>Ju h e (List.mem_of_mem_drop he),by have:=Jv h;rw[List.length_drop];omega,by simp,by simp,Dg ((Ld h hd (OL h)).2 hu) (by omega),h.ar⟩
theorem a4F{c:BC}{n:Nat}{s u v:Bs}{k a d o:Int}(hv:isB (Eb c.rd (bV c.ns c.rd n) [40] ((Aa c.ns k).kids.drop 1) [41] a u) v)(hu:BJ c n s d a o u)(hd:(Aa c.ns k).kids[(0:Nat)]? =some d)(hk:(Aa c.ns k).kind=5):BJ c (n+1) s k a (-1) v:=
 Le (by rw[bV1,if_neg (by omega),if_neg (by omega),if_neg (by omega),if_neg (by omega),if_pos hk,Cr hd,←hu.1];exact hv) (by omega) (by omega)
theorem a4G{c:BC}{n:Nat}{s:Bs}{k a:Int}(h:vlP c.ns (n+1) s k a)(hk:(Aa c.ns k).kind=7):cnP c n s (Aa c.ns k) (min (a+4) 40):=⟨Ju h,Jv h,Vz h.up hk,Dg (Iq h) (by omega),MF h.ar⟩
theorem a4H{c:BC}{n:Nat}{s u:Bs}{k a o:Int}(hu:cnQ c n s (Aa c.ns k) (min (a+4) 40) o u)(hk:(Aa c.ns k).kind=7):BJ c (n+1) s k a o u:=by
 refine⟨?_,?_⟩
 ·rw[bV,bV1,if_neg (by omega),if_neg (by omega),if_neg (by omega),if_neg (by omega),if_neg (by omega),if_pos hk];exact hu.1
 ·rw[Gy,if_pos (.inl hk)];exact hu.2
theorem a4I{c:BC}{n:Nat}{s:Bs}{k a:Int}(h:vlP c.ns (n+1) s k a)(hk:(Aa c.ns k).kind=8):pnP c n s (Aa c.ns k) (min (a+4) 40):=⟨Ju h,by
 have hs:=(HY h.up).2.2
 skip
 rw[hk] at hs
 have:(CN 8).2=3:=rfl
 omega,Dg (Iq h) (by omega),MF h.ar⟩
theorem a4J{c:BC}{n:Nat}{s u:Bs}{k a o:Int}(hu:pnQ c n s (Aa c.ns k) (min (a+4) 40) o u)(hk:(Aa c.ns k).kind=8):BJ c (n+1) s k a o u:=by
 refine⟨?_,?_⟩
 ·rw[bV,bV1,if_neg (by omega),if_neg (by omega),if_neg (by omega),if_neg (by omega),if_neg (by omega),if_neg (by omega),if_pos hk];exact hu.1
 ·rw[Gy,if_pos (.inr hk)];exact hu.2
theorem b5a{ns:List Nd}{k:Int}(h:BB ns k)(hk:(Aa ns k).kind=9):∀c∈(Aa ns k).kids,c∈(Aa ns k).kids.take ((Aa ns k).kids.length-1)→(Aa ns c).text.length≤30:=by
 intro c hc hm
 have hko:=(Dj (Eo h)).2.2.2.2.2.1
 rw[hk] at hko
 have hko:EA AX ((Aa ns k).kids.map (Al ns))=true:=hko
 unfold EA at hko
 split at hko
 ·rename_i l hl
  rw[Bool.and_eq_true,List.all_eq_true] at hko
  have h2:Al ns c∈((Aa ns k).kids.map (Al ns)).dropLast:=by
   rw[List.dropLast_eq_take,List.length_map,←List.map_take]
   exact List.mem_map.2 ⟨c,hm,rfl⟩
  have h3:=hko.2 _ h2
  simp [Dw] at h3
  have ht:=(Dj (Eo (CG h hc).1)).2.2.1
  have h4:(Aa ns c).kind=1:=h3
  rw[h4] at ht
  exact Qy (by simpa [Dv] using ht)
 ·cases hko
theorem a4K{c:BC}{n:Nat}{s:Bs}{k a:Int}(h:vlP c.ns (n+1) s k a)(hk:(Aa c.ns k).kind=9):fnP c n s (Aa c.ns k) (min (a+4) 40):=⟨Ju h,⟨Xp h (by omega) (by omega) (by omega) (by omega),Jv h⟩,b5a h.up hk,Dg (Iq h) (by omega),MF h.ar⟩
theorem a4L{c:BC}{n:Nat}{s u:Bs}{k a:Int}(hu:fnQ c n s (Aa c.ns k) (min (a+4) 40) u)(hk:(Aa c.ns k).kind=9):BJ c (n+1) s k a (-1) u:=
 Le (by rw[bV1,if_neg (by omega),if_neg (by omega),if_neg (by omega),if_neg (by omega),if_neg (by omega),if_neg (by omega),if_neg (by omega),if_pos hk];exact hu) (by omega) (by omega)
def vaF(c:BC)(n:Nat)(s:Bs)(a:Int):List Int→Int→Bs→Bs:=caF (bV c.ns c.rd n) (AM c.rd s) (up4 a)
def vaI(c:BC)(n:Nat)(s:Bs)(k a:Int)(i:Int)(t:Bs):Prop:=HE (vaF c n s a) (fun e=>3+tW c.ns n e) ((Aa c.ns k).kids.drop 1) 2 (bV c.ns c.rd n (kd (Aa c.ns k) 0) a (Bd c.rd 2 1 s)) i t
theorem vaS{c:BC}{n:Nat}{s:Bs}{k a:Int}(h:vlP c.ns (n+1) s k a):lpS c.rd (vaF c n s a) (caS (bV c.ns c.rd n) (AM c.rd s) (up4 a)) (fun e=>3+tW c.ns n e) ((Aa c.ns k).kids.drop 1):=
 b3U (RF fun e he=>Ju h e (List.mem_of_mem_drop he))
theorem a4M{c:BC}{n:Nat}{s t:Bs}{k a d:Int}(ht:t=Bd c.rd 2 1 s)(h:vlP c.ns (n+1) s k a)(hd:(Aa c.ns k).kids[(0:Nat)]? =some d):vlP c.ns n t d a:=by
 subst ht;exact(Ld h hd (HD (OL h))).1
theorem a4N{c:BC}{n:Nat}{s t u:Bs}{k a d o:Int}(hu:BJ c n t d a o u)(ht:t=Bd c.rd 2 1 s)(h:vlP c.ns (n+1) s k a)(hd:(Aa c.ns k).kids[(0:Nat)]? =some d):vaI c n s k a 0 u:=by
 subst ht
 have h1:=(Ld h hd (HD (OL h))).2 hu
 have h2:bR (wL (fun e=>3+tW c.ns n e) ((Aa c.ns k).kids.drop 1)+2) u:=by
  rw[Oy];exact Dg h1 (by have:=Jv h;rw[List.length_drop];omega)
 have e:bV c.ns c.rd n (kd (Aa c.ns k) 0) a (Bd c.rd 2 1 s)=u:=by rw[Cr hd,hu.1]
 unfold vaI
 rw[e];exact RA (F:=vaF c n s a) h2
theorem a4O{c:BC}{n:Nat}{s t:Bs}{k a i:Int}(h:vaI c n s k a i t):0≤i∧i≤((Aa c.ns k).kids.drop 1).length:=Ox h
theorem a4P{c:BC}{n:Nat}{s:Bs}{k a:Int}(h:vlP c.ns (n+1) s k a):((Aa c.ns k).kids.drop 1).length≤12:=by have:=Jv h;rw[List.length_drop];omega
theorem a4Q{c:BC}{n:Nat}{s t:Bs}{k a i d:Int}(h:vaI c n s k a i t)(hd:((Aa c.ns k).kids.drop 1)[i.toNat]? =some d):bR (tW c.ns n d+5) t:=Dg (RB h hd) (by omega)
theorem a4R{c:BC}{n:Nat}{s t:Bs}{k a i d:Int}(h:vaI c n s k a i t)(hd:((Aa c.ns k).kids.drop 1)[i.toNat]? =some d):bB t:=CV (a4Q h hd)
theorem a4S{c:BC}{n:Nat}{s t u:Bs}{k a i d:Int}(h:vaI c n s k a i t)(hu:u=AU (AM c.rd s) 1 false (min (a+4) 40) t)(hd:((Aa c.ns k).kids.drop 1)[i.toNat]? =some d):bR (tW c.ns n d+4) u:=by
 subst hu;exact Jr (a4Q h hd) (by omega)
theorem a4T{c:BC}{n:Nat}{s t u:Bs}{k a i d:Int}(h:vaI c n s k a i t)(hu:u=AU (AM c.rd s) 1 false (min (a+4) 40) t)(hd:((Aa c.ns k).kids.drop 1)[i.toNat]? =some d):u.text.length+4≤2^61:=by
 have:=(a4S h hu hd).2;unfold tot at this;omega
theorem a4U{c:BC}{n:Nat}{s t u:Bs}{k a i d:Int}(h:vaI c n s k a i t)(hu:u=AU (AM c.rd s) 1 false (min (a+4) 40) t)(hx:vlP c.ns (n+1) s k a)(hd:((Aa c.ns k).kids.drop 1)[i.toNat]? =some d):vlP c.ns n (Am [46,46] u) d (min (a+4) 40):=by
 have hk:=Ju hx d (List.mem_of_mem_drop (AZ hd))
 exact⟨hk.1,hk.2.1,hk.2.2,Jq (a4S h hu hd) (by show _+2≤_;omega),MF hx.ar⟩
theorem a4V{c:BC}{n:Nat}{s t u v:Bs}{k a i d o:Int}(h:vaI c n s k a i t)(hd:((Aa c.ns k).kids.drop 1)[i.toNat]? =some d)(hu:u=AU (AM c.rd s) 1 false (min (a+4) 40) t)(hv:BJ c n (Am [46,46] u) d (min (a+4) 40) o v)(hx:vlP c.ns (n+1) s k a):vaI c n s k a (i+1) v:=by
 have:=Ow (vaS hx) h hd
 subst hu
 rw[hv.1];exact this
theorem a4W{c:BC}{n:Nat}{s t:Bs}{k a i:Int}(h:vaI c n s k a i t)(hx:vlP c.ns (n+1) s k a)(hi:¬i<((Aa c.ns k).kids.drop 1).length)(hk:(Aa c.ns k).kind=10):BJ c (n+1) s k a (-1) t:=
 Le (by rw[bV1,if_neg (by omega),if_neg (by omega),if_neg (by omega),if_neg (by omega),if_neg (by omega),if_neg (by omega),if_neg (by omega),if_neg (by omega)];exact(ME (vaS hx) h hi).1) (by omega) (by omega)
theorem b5b{c:BC}{n:Nat}{s:Bs}{k a:Int}(h:vlP c.ns n s k a)(hk:((((((((((¬(Aa c.ns k).kind=1∧¬(Aa c.ns k).kind=2)∧¬(Aa c.ns k).kind=3)∧¬(Aa c.ns k).kind=11)∧¬(Aa c.ns k).kind=6)∧¬(Aa c.ns k).kind=4)∧¬(Aa c.ns k).kind=5)∧¬(Aa c.ns k).kind=7)∧¬(Aa c.ns k).kind=8)∧¬(Aa c.ns k).kind=9)∧¬(Aa c.ns k).kind=10)):False:=by
 have hv:=BA.1 h.vl
 unfold Al at hv
 omega
attribute [local irreducible] vaI
def GF(n:Nat):Sig:= {X:=BC×List Ru×List Ch×List Sn×List Ti×List UInt8×Int×Int,args:=fun x=>[buA x.1 (xC x),.int .i64 x.2.2.2.2.2.2.1,.int .i64 x.2.2.2.2.2.2.2],pre:=fun x=>vlP x.1.ns (n+1) (xC x) x.2.2.2.2.2.2.1 x.2.2.2.2.2.2.2,Y:=Int×BT,post:=fun x y=>BJ x.1 (n+1) (xC x) x.2.2.2.2.2.2.1 x.2.2.2.2.2.2.2 y.1 (yBW y.2),res:=fun x y=> .int .i64 y.1,outs:=fun x y=>[buA x.1 (yBW y.2),.top,.top],keep:=true}
def Sc(n:Nat)(x:BC×List Ru×List Ch×List Sn×List Ti×List UInt8×Int×Int):LS:= {ι:=List Ru×List Ch×List Sn×List Ti×List UInt8×Int,inv:=fun i=>vaI x.1 n (xC x) x.2.2.2.2.2.2.1 x.2.2.2.2.2.2.2 (zI i) (zBW i),regs:=fun i=>[(0,buA x.1 (zBW i)),(7,.box 0 (ndA false (Aa x.1.ns x.2.2.2.2.2.2.1))),(8,.int .i64 (min (x.2.2.2.2.2.2.2+4) 40)),(9,.int .i64 (AM x.1.rd (xC x))),(132,Ad ((Aa x.1.ns x.2.2.2.2.2.2.1).kids.drop 1)),(133,.int .i64 ((Aa x.1.ns x.2.2.2.2.2.2.1).kids.drop 1).length),(134,.int .i64 (zI i))],als:=[],meas:=fun i=>((Aa x.1.ns x.2.2.2.2.2.2.1).kids.drop 1).length-(zI i).toNat}
def Xr(n:Nat)(x:BC×List Ru×List Ch×List Sn×List Ti×List UInt8×Int×Int):LS:= {ι:=Unit,inv:=fun _=>(Aa x.1.ns x.2.2.2.2.2.2.1).kind=1∨(Aa x.1.ns x.2.2.2.2.2.2.1).kind=2∨(Aa x.1.ns x.2.2.2.2.2.2.1).kind=3,regs:=fun _=>[(0,buA x.1 (Am (Aa x.1.ns x.2.2.2.2.2.2.1).text (xC x)))],als:=[],meas:=fun _=>0}
def Xs(n:Nat)(x:BC×List Ru×List Ch×List Sn×List Ti×List UInt8×Int×Int):LS:= {ι:=BT,inv:=fun i=>BJ x.1 (n+1) (xC x) x.2.2.2.2.2.2.1 x.2.2.2.2.2.2.2 (-1) (yBW i),regs:=fun i=>[(0,buA x.1 (yBW i))],als:=[],meas:=fun _=>0}
def Xt(n:Nat)(x:BC×List Ru×List Ch×List Sn×List Ti×List UInt8×Int×Int)(e:Nd)(x_1:(Cf n).X)(y:(Cf n).Y):Prop:=(↑((1:Nat)+List.length e.text):Int)≤IntKind.max IntKind.i64∧((↑(List.length (yBW y.2).text+List.length (#[(46:UInt8)].toList++e.text)):Int)≤IntKind.max IntKind.i64∧(true=true∧(eA (Xs n x) [.box 0 [.int .i64 x_1.1.ind,AV.sl true 0 2 Ru ruA (yBW y.2).rules,AV.sl true 0 5 Ch chA (yBW y.2).chunks,AV.sl true 0 3 Sn snA (yBW y.2).spans,AV.sl true 0 2 Ti tiA (yBW y.2).ties,nds x_1.1.ns,.str ((yBW y.2).text++(#[(46:UInt8)].toList++e.text)),.bool x_1.1.rd]])))
def Xu(n:Nat)(x:BC×List Ru×List Ch×List Sn×List Ti×List UInt8×Int×Int)(e:Nd):Prop:=(↑(List.length (xC x).text+List.length e.text):Int)≤IntKind.max IntKind.i64∧(true=true∧(eA (Xr n x) [.box 0 [.int .i64 x.1.ind,AV.sl true 0 2 Ru ruA (xC x).rules,AV.sl true 0 5 Ch chA (xC x).chunks,AV.sl true 0 3 Sn snA (xC x).spans,AV.sl true 0 2 Ti tiA (xC x).ties,nds x.1.ns,.str ((xC x).text++e.text),.bool x.1.rd]]))
def Sd(n:Nat)(x:BC×List Ru×List Ch×List Sn×List Ti×List UInt8×Int×Int)(e:Nd):Prop:=true=true∧(((Xu n x e)∧(Xu n x e))∧(∀(i:Unit),(Aa x.1.ns x.2.2.2.2.2.2.1).kind=(1:Int)∨(Aa x.1.ns x.2.2.2.2.2.2.1).kind=(2:Int)∨(Aa x.1.ns x.2.2.2.2.2.2.1).kind=(3:Int)→rA (GF n) x [.int .i64 (-1:Int),.box 0 [.int .i64 x.1.ind,AV.sl true 0 2 Ru ruA (Am (Aa x.1.ns x.2.2.2.2.2.2.1).text (xC x)).rules,AV.sl true 0 5 Ch chA (Am (Aa x.1.ns x.2.2.2.2.2.2.1).text (xC x)).chunks,AV.sl true 0 3 Sn snA (Am (Aa x.1.ns x.2.2.2.2.2.2.1).text (xC x)).spans,AV.sl true 0 2 Ti tiA (Am (Aa x.1.ns x.2.2.2.2.2.2.1).text (xC x)).ties,nds x.1.ns,.str (Am (Aa x.1.ns x.2.2.2.2.2.2.1).text (xC x)).text,.bool x.1.rd],.top,.top]))
theorem b5c(n:Nat)(hc:Ah G Go.Proofs.Tryz.prog 81 (Cf n)):Ah G Tryz.prog 81 (GF n):=
 vcFun_okP [(81,0,(Cf n)),(79,0,DD),(80,0,CU),(112,0,(Js n)),(113,0,(MG n)),(114,0,(MI n)),(115,0,(MJ n))] [] false (fun x=>[(30,Sc n x),(100007,Xr n x),(100014,Xs n x)]) Tryz.func81 rfl (by decide) ⟨hc,MB,MC,(b3W n hc),(b3Z n hc),(b4c n hc),(b4g n hc),trivial⟩ (fun(x:BC×List Ru×List Ch×List Sn×List Ti×List UInt8×Int×Int)=>True∧((0:Int)≤x.2.2.2.2.2.2.1∧x.2.2.2.2.2.2.1<(↑(List.length x.1.ns):Int))∧∀(e:Nd),x.1.ns[Int.toNat x.2.2.2.2.2.2.1]? =some e→inR IntKind.i64 (x.2.2.2.2.2.2.2+(4:Int))∧Ab (e.kind==(1:Int)) (Sd n x e) (Ab (e.kind==(2:Int)) (Sd n x e) (Ab (e.kind==(3:Int)) (Sd n x e) (Ab (e.kind==(11:Int)) ((↑(List.length (xC x).text+(1:Nat)):Int)≤IntKind.max IntKind.i64∧((0:Int)≤(0:Int)∧(0:Int)<(↑(List.length e.kids):Int))∧∀(e_1:Int),e.kids[(0:Nat)]? =some e_1→cA (Cf n) [.box 0 [.int .i64 x.1.ind,AV.sl true 0 2 Ru ruA (xC x).rules,AV.sl true 0 5 Ch chA (xC x).chunks,AV.sl true 0 3 Sn snA (xC x).spans,AV.sl true 0 2 Ti tiA (xC x).ties,nds x.1.ns,.str ((xC x).text++ #[(40:UInt8)].toList),.bool x.1.rd],.int .i64 e_1,.int .i64 x.2.2.2.2.2.2.2] fun x_1 y=>(↑(List.length (yBW y.2).text+(1:Nat)):Int)≤IntKind.max IntKind.i64∧rA (GF n) x [.int .i64 (-1:Int),.box 0 [.int .i64 x_1.1.ind,AV.sl true 0 2 Ru ruA (yBW y.2).rules,AV.sl true 0 5 Ch chA (yBW y.2).chunks,AV.sl true 0 3 Sn snA (yBW y.2).spans,AV.sl true 0 2 Ti tiA (yBW y.2).ties,nds x_1.1.ns,.str ((yBW y.2).text++ #[(41:UInt8)].toList),.bool x_1.1.rd],.top,.top]) (Ab (e.kind==(6:Int)) (((0:Int)≤(0:Int)∧(0:Int)<(↑(List.length e.kids):Int))∧∀(e_1:Int),e.kids[(0:Nat)]? =some e_1→cA (Cf n) [.box 0 [.int .i64 x.1.ind,AV.sl true 0 2 Ru ruA (xC x).rules,AV.sl true 0 5 Ch chA (xC x).chunks,AV.sl true 0 3 Sn snA (xC x).spans,AV.sl true 0 2 Ti tiA (xC x).ties,nds x.1.ns,.str (xC x).text,.bool x.1.rd],.int .i64 e_1,.int .i64 x.2.2.2.2.2.2.2] fun x_1 y=>true=true∧((Xt n x e x_1 y)∧(Xt n x e x_1 y))∧∀(i:BT),BJ x.1 (n+(1:Nat)) (xC x) x.2.2.2.2.2.2.1 x.2.2.2.2.2.2.2 (-1:Int) (yBW i)→rA (GF n) x [.int .i64 (-1:Int),.box 0 [.int .i64 x.1.ind,AV.sl true 0 2 Ru ruA (yBW i).rules,AV.sl true 0 5 Ch chA (yBW i).chunks,AV.sl true 0 3 Sn snA (yBW i).spans,AV.sl true 0 2 Ti tiA (yBW i).ties,nds x.1.ns,.str (yBW i).text,.bool x.1.rd],.top,.top]) (Ab (e.kind==(4:Int)) (cA (Js n) [.box 0 [.int .i64 x.1.ind,AV.sl true 0 2 Ru ruA (xC x).rules,AV.sl true 0 5 Ch chA (xC x).chunks,AV.sl true 0 3 Sn snA (xC x).spans,AV.sl true 0 2 Ti tiA (xC x).ties,nds x.1.ns,.str (xC x).text,.bool x.1.rd],.str #[(91:UInt8)].toList,Ad e.kids,.str #[(93:UInt8)].toList,.int .i64 x.2.2.2.2.2.2.2] fun x_1 y=>rA (GF n) x [.int .i64 (-1:Int),.box 0 [.int .i64 x_1.1.ind,AV.sl true 0 2 Ru ruA (yBW y).rules,AV.sl true 0 5 Ch chA (yBW y).chunks,AV.sl true 0 3 Sn snA (yBW y).spans,AV.sl true 0 2 Ti tiA (yBW y).ties,nds x_1.1.ns,.str (yBW y).text,.bool x_1.1.rd],.top,.top]) (Ab (e.kind==(5:Int)) (((0:Int)≤(0:Int)∧(0:Int)<(↑(List.length e.kids):Int))∧∀(e_1:Int),e.kids[(0:Nat)]? =some e_1→cA (Cf n) [.box 0 [.int .i64 x.1.ind,AV.sl true 0 2 Ru ruA (xC x).rules,AV.sl true 0 5 Ch chA (xC x).chunks,AV.sl true 0 3 Sn snA (xC x).spans,AV.sl true 0 2 Ti tiA (xC x).ties,nds x.1.ns,.str (xC x).text,.bool x.1.rd],.int .i64 e_1,.int .i64 x.2.2.2.2.2.2.2] fun x_1 y=>((0:Int)≤(1:Int)∧((1:Int)≤(↑(List.length e.kids):Int)∧(↑(List.length e.kids):Int)≤(↑(List.length e.kids):Int)))∧cA (Js n) [.box 0 [.int .i64 x_1.1.ind,AV.sl true 0 2 Ru ruA (yBW y.2).rules,AV.sl true 0 5 Ch chA (yBW y.2).chunks,AV.sl true 0 3 Sn snA (yBW y.2).spans,AV.sl true 0 2 Ti tiA (yBW y.2).ties,nds x_1.1.ns,.str (yBW y.2).text,.bool x_1.1.rd],.str #[(40:UInt8)].toList,Ad (List.drop (1:Nat) e.kids),.str #[(41:UInt8)].toList,.int .i64 x.2.2.2.2.2.2.2] fun x_2 y=>rA (GF n) x [.int .i64 (-1:Int),.box 0 [.int .i64 x_2.1.ind,AV.sl true 0 2 Ru ruA (yBW y).rules,AV.sl true 0 5 Ch chA (yBW y).chunks,AV.sl true 0 3 Sn snA (yBW y).spans,AV.sl true 0 2 Ti tiA (yBW y).ties,nds x_2.1.ns,.str (yBW y).text,.bool x_2.1.rd],.top,.top]) (Ab (e.kind==(7:Int)) (cA (MG n) [.box 0 [.int .i64 x.1.ind,AV.sl true 0 2 Ru ruA (xC x).rules,AV.sl true 0 5 Ch chA (xC x).chunks,AV.sl true 0 3 Sn snA (xC x).spans,AV.sl true 0 2 Ti tiA (xC x).ties,nds x.1.ns,.str (xC x).text,.bool x.1.rd],.agg [.int .i64 e.kind,.str e.text,Ad e.kids,.bool e.blank],.int .i64 (min (x.2.2.2.2.2.2.2+(4:Int)) (40:Int))] fun x_1 y=>rA (GF n) x [.int .i64 y.1,.box 0 [.int .i64 x_1.1.ind,AV.sl true 0 2 Ru ruA (yBW y.2).rules,AV.sl true 0 5 Ch chA (yBW y.2).chunks,AV.sl true 0 3 Sn snA (yBW y.2).spans,AV.sl true 0 2 Ti tiA (yBW y.2).ties,nds x_1.1.ns,.str (yBW y.2).text,.bool x_1.1.rd],.top,.top]) (Ab (e.kind==(8:Int)) (cA (MI n) [.box 0 [.int .i64 x.1.ind,AV.sl true 0 2 Ru ruA (xC x).rules,AV.sl true 0 5 Ch chA (xC x).chunks,AV.sl true 0 3 Sn snA (xC x).spans,AV.sl true 0 2 Ti tiA (xC x).ties,nds x.1.ns,.str (xC x).text,.bool x.1.rd],.agg [.int .i64 e.kind,.str e.text,Ad e.kids,.bool e.blank],.int .i64 (min (x.2.2.2.2.2.2.2+(4:Int)) (40:Int))] fun x_1 y=>rA (GF n) x [.int .i64 y.1,.box 0 [.int .i64 x_1.1.ind,AV.sl true 0 2 Ru ruA (yBW y.2).rules,AV.sl true 0 5 Ch chA (yBW y.2).chunks,AV.sl true 0 3 Sn snA (yBW y.2).spans,AV.sl true 0 2 Ti tiA (yBW y.2).ties,nds x_1.1.ns,.str (yBW y.2).text,.bool x_1.1.rd],.top,.top]) (Ab (e.kind==(9:Int)) (cA (MJ n) [.box 0 [.int .i64 x.1.ind,AV.sl true 0 2 Ru ruA (xC x).rules,AV.sl true 0 5 Ch chA (xC x).chunks,AV.sl true 0 3 Sn snA (xC x).spans,AV.sl true 0 2 Ti tiA (xC x).ties,nds x.1.ns,.str (xC x).text,.bool x.1.rd],.agg [.int .i64 e.kind,.str e.text,Ad e.kids,.bool e.blank],.int .i64 (min (x.2.2.2.2.2.2.2+(4:Int)) (40:Int))] fun x_1 y=>rA (GF n) x [.int .i64 (-1:Int),.box 0 [.int .i64 x_1.1.ind,AV.sl true 0 2 Ru ruA (yBW y).rules,AV.sl true 0 5 Ch chA (yBW y).chunks,AV.sl true 0 3 Sn snA (yBW y).spans,AV.sl true 0 2 Ti tiA (yBW y).ties,nds x_1.1.ns,.str (yBW y).text,.bool x_1.1.rd],.top,.top]) (Ab (e.kind==(10:Int)) (cA DD [.box 0 [.int .i64 x.1.ind,AV.sl true 0 2 Ru ruA (xC x).rules,AV.sl true 0 5 Ch chA (xC x).chunks,AV.sl true 0 3 Sn snA (xC x).spans,AV.sl true 0 2 Ti tiA (xC x).ties,nds x.1.ns,.str (xC x).text,.bool x.1.rd],.int .i64 (2:Int),.int .i64 (1:Int)] fun x_1 y=>((0:Int)≤(0:Int)∧(0:Int)<(↑(List.length e.kids):Int))∧∀(e_1:Int),e.kids[(0:Nat)]? =some e_1→cA (Cf n) [.box 0 [.int .i64 x_1.1.ind,AV.sl true 0 2 Ru ruA (yBW y).rules,AV.sl true 0 5 Ch chA (yBW y).chunks,AV.sl true 0 3 Sn snA (yBW y).spans,AV.sl true 0 2 Ti tiA (yBW y).ties,nds x_1.1.ns,.str (yBW y).text,.bool x_1.1.rd],.int .i64 e_1,.int .i64 x.2.2.2.2.2.2.2] fun x_2 y=>((0:Int)≤(1:Int)∧((1:Int)≤(↑(List.length e.kids):Int)∧(↑(List.length e.kids):Int)≤(↑(List.length e.kids):Int)))∧eA (Sc n x) [.box 0 [.int .i64 x_2.1.ind,AV.sl true 0 2 Ru ruA (yBW y.2).rules,AV.sl true 0 5 Ch chA (yBW y.2).chunks,AV.sl true 0 3 Sn snA (yBW y.2).spans,AV.sl true 0 2 Ti tiA (yBW y.2).ties,nds x_2.1.ns,.str (yBW y.2).text,.bool x_2.1.rd],.box 0 [.int .i64 e.kind,.str e.text,Ad e.kids,.bool e.blank],.int .i64 (min (x.2.2.2.2.2.2.2+(4:Int)) (40:Int)),.int .i64 (AM x_1.1.rd (xC x_1)),Ad (List.drop (1:Nat) e.kids),.int .i64 (↑(List.length (List.drop (1:Nat) e.kids)):Int),.int .i64 (0:Int)]∧∀(i:List Ru×List Ch×List Sn×List Ti×List UInt8×Int),vaI x.1 n (xC x) x.2.2.2.2.2.2.1 x.2.2.2.2.2.2.2 (zI i) (zBW i)→Ab (decide (zI i<(↑(List.length (List.drop (1:Nat) (Aa x.1.ns x.2.2.2.2.2.2.1).kids)):Int))) (((0:Int)≤zI i∧zI i<(↑(List.length (List.drop (1:Nat) (Aa x.1.ns x.2.2.2.2.2.2.1).kids)):Int))∧∀(e:Int),(List.drop (1:Nat) (Aa x.1.ns x.2.2.2.2.2.2.1).kids)[Int.toNat (zI i)]? =some e→cA CU [.box 0 [.int .i64 x.1.ind,AV.sl true 0 2 Ru ruA (zBW i).rules,AV.sl true 0 5 Ch chA (zBW i).chunks,AV.sl true 0 3 Sn snA (zBW i).spans,AV.sl true 0 2 Ti tiA (zBW i).ties,nds x.1.ns,.str (zBW i).text,.bool x.1.rd],.int .i64 (AM x.1.rd (xC x)),.int .i64 (1:Int),.bool false,.int .i64 (min (x.2.2.2.2.2.2.2+(4:Int)) (40:Int))] fun x_3 y=>(↑(List.length (yBW y).text+(2:Nat)):Int)≤IntKind.max IntKind.i64∧cA (Cf n) [.box 0 [.int .i64 x_3.1.ind,AV.sl true 0 2 Ru ruA (yBW y).rules,AV.sl true 0 5 Ch chA (yBW y).chunks,AV.sl true 0 3 Sn snA (yBW y).spans,AV.sl true 0 2 Ti tiA (yBW y).ties,nds x_3.1.ns,.str ((yBW y).text++ #[(46:UInt8),(46:UInt8)].toList),.bool x_3.1.rd],.int .i64 e,.int .i64 (min (x.2.2.2.2.2.2.2+(4:Int)) (40:Int))] fun x_4 y=>inR IntKind.i64 (zI i+(1:Int))∧eN (Sc n x) i [.box 0 [.int .i64 x_4.1.ind,AV.sl true 0 2 Ru ruA (yBW y.2).rules,AV.sl true 0 5 Ch chA (yBW y.2).chunks,AV.sl true 0 3 Sn snA (yBW y.2).spans,AV.sl true 0 2 Ti tiA (yBW y.2).ties,nds x_4.1.ns,.str (yBW y.2).text,.bool x_4.1.rd],.box 0 [.int .i64 (Aa x.1.ns x.2.2.2.2.2.2.1).kind,.str (Aa x.1.ns x.2.2.2.2.2.2.1).text,Ad (Aa x.1.ns x.2.2.2.2.2.2.1).kids,.bool (Aa x.1.ns x.2.2.2.2.2.2.1).blank],.int .i64 (min (x.2.2.2.2.2.2.2+(4:Int)) (40:Int)),.int .i64 (AM x.1.rd (xC x)),Ad (List.drop (1:Nat) (Aa x.1.ns x.2.2.2.2.2.2.1).kids),.int .i64 (↑(List.length (List.drop (1:Nat) (Aa x.1.ns x.2.2.2.2.2.2.1).kids)):Int),.int .i64 (zI i+(1:Int))]) (rA (GF n) x [.int .i64 (-1:Int),.box 0 [.int .i64 x.1.ind,AV.sl true 0 2 Ru ruA (zBW i).rules,AV.sl true 0 5 Ch chA (zBW i).chunks,AV.sl true 0 3 Sn snA (zBW i).spans,AV.sl true 0 2 Ti tiA (zBW i).ties,nds x.1.ns,.str (zBW i).text,.bool x.1.rd],.top,.top])) (rA (GF n) x [.int .i64 (-1:Int),.box 0 [.int .i64 x.1.ind,AV.sl true 0 2 Ru ruA (xC x).rules,AV.sl true 0 5 Ch chA (xC x).chunks,AV.sl true 0 3 Sn snA (xC x).spans,AV.sl true 0 2 Ti tiA (xC x).ties,nds x.1.ns,.str (xC x).text,.bool x.1.rd],.top,.top])))))))))))) (fun x=>by kernel_rfl) fun(x:BC×List Ru×List Ch×List Sn×List Ti×List UInt8×Int×Int) (hx:vlP x.1.ns (n+1) (xC x) x.2.2.2.2.2.2.1 x.2.2.2.2.2.2.2)=>(by
 dsimp only[Sd,Xu,Xt,buA,cA,Bl,eA,eN,Xr,Xs,Sc,Ad,Bi,nds,Cu,rA,Bj,MG,MJ,Js,MI,DD,CU,Cf,GF,Bm,Bn,Aq,Aw,mvL,lnL,mvE,lnE,mvG,mvH,lnG,lnH,Ba]
 obtain⟨b,r,c,s,t,u,k,a⟩:=x;dsimp only[xC] at hx ⊢
 have hx:vlP b.ns (n+1) ⟨r,c,s,t,u⟩ k a:=hx
 have h1:=hx.ar;have hr:=Bc.1 hx.up.1
 have hz:=a4t hx
 simp only[hz,Option.some.injEq,forall_eq']
 (repeat' first|(with_reducible first|rfl|exact True.intro|apply AG|apply And.intro|((first|apply Au|apply AE|apply Av|apply AF)<;>intro _))|(apply As<;>intro _)|apply AD|refine Af () ?_ ?_|((first|apply AK|apply AJ|apply AI|apply AH|apply AC|apply AB|apply AA|apply Az|apply Ax)<;>try dsimp only)|apply Af|(refine Prod.forall.2 ?_;intro _;try dsimp only)|(intro _;try dsimp only))
 all_goals(try dsimp only[yBW,xC,zBW,zI,wB] at*)
 all_goals first
  |with_reducible rfl
  |exact Xq (by omega)
  |exact Xq ‹_›
  |omega
  |exact a4w hx ‹_›
  |exact a4y ‹_› ‹_› ‹_›
  |exact a4B ‹_› ‹_› ‹_›
  |exact a4z hx ‹_›
  |exact a4C hx
  |exact a4D ‹_› ‹_›
  |exact a4E hx ‹_› ‹_›
  |exact a4F ‹_› ‹_› ‹_› ‹_›
  |exact a4G hx ‹_›
  |exact a4H ‹_› ‹_›
  |exact a4I hx ‹_›
  |exact a4J ‹_› ‹_›
  |exact a4K hx ‹_›
  |exact a4L ‹_› ‹_›
  |exact CV (Iq hx)
  |exact a4M ‹_› hx ‹_›
  |exact a4N ‹_› ‹_› hx ‹_›
  |exact a4R ‹_› ‹_›
  |exact a4U ‹_› ‹_› hx ‹_›
  |exact a4V ‹_› ‹_› ‹_› ‹_› hx
  |exact a4W ‹_› hx ‹_› ‹_›
  |(have hq:=a4u hx;dsimp only at hq;(try simp only[Aj,List.length_append,List.length_cons,List.length_nil]);omega)
  |(have hq:=a4x hx ‹_› ‹_›;dsimp only at hq;(try simp only[Aj,List.length_append,List.length_cons,List.length_nil]);omega)
  |(have hq:=a4A hx ‹_› ‹_›;dsimp only at hq;(try simp only[Aj,List.length_append,List.length_cons,List.length_nil]);omega)
  |(have hq:=a4O (show vaI _ _ _ _ _ _ _ by assumption);have hl:=a4P hx;(try simp only[Aj]);omega)
  |(have hq:=a4T (show vaI _ _ _ _ _ _ _ by assumption) ‹_› ‹_›;dsimp only at hq;(try simp only[Aj,List.length_append,List.length_cons,List.length_nil]);omega)
  |(have hq:=Xp hx ‹_› ‹_› ‹_› (by first|assumption|omega);have hl:=Jv hx;(try simp only[Aj]);omega)
  |(exfalso;exact b5b hx (by omega))
  |exact()
  |rfl
  |skip)
theorem b5d:Ah G Go.Proofs.Tryz.prog 81 (Cf 0):=
 ⟨⟨⟨_,Go.Proofs.Tryz.func81,by kernel_rfl,by kernel_rfl⟩,fun x y _ _=>trivial⟩,fun x hx=>by
   exfalso
   have hx:vlP x.1.ns 0 (xC x) x.2.2.2.2.2.2.1 x.2.2.2.2.2.2.2:=hx
   have h1:=Bc.1 hx.up.1
   have h2:=hx.lt
   omega⟩
theorem Xv:∀n,Ah G Go.Proofs.Tryz.prog 81 (Cf n)
 |0=>b5d
 |n+1=>b5c n (Xv n)
end Go.My
end
section
namespace Go.My
open Go.Eng Go.Proofs
variable {G:GInv}
structure cxP (c:BC) (n:Nat) (s:Bs) (x:Nd) (a:Int):Prop where
 cn:cnP c n s x (min (a+4) 40)
 ar:inA a x.kids
def OM(n:Nat):Sig:= {X:=BC×List Ru×List Ch×List Sn×List Ti×List UInt8×Nd×Int,args:=fun x=>[suA x.1 (xC x),.agg (ndA false x.2.2.2.2.2.2.1),.int .i64 x.2.2.2.2.2.2.2],pre:=fun x=>cxP x.1 n (xC x) x.2.2.2.2.2.2.1 x.2.2.2.2.2.2.2,Y:=BT,post:=fun x y=>isB (Kz x.1.ns x.1.rd (bV x.1.ns x.1.rd n) x.2.2.2.2.2.2.1 (min (x.2.2.2.2.2.2.2+4) 40) (xC x)) (yBW y),res:=fun x y=> .tup [],outs:=fun x y=>[suA x.1 (yBW y),.top,.top],keep:=true}
theorem ET{ns:List Nd}{n:Nat}{s:Bs}{k a:Int}(h:vsP ns n s k a):vlP ns n s k (min a 40):=⟨h.up,h.lt,h.vl,h.rm,by have:=h.ar;have:=Bc.1 h.up.1;omega⟩
theorem ON{ns:List Nd}{n:Nat}{s:Bs}{k a:Int}(h:vsP ns n s k a){ks:List Int}(hk:∀d∈ks,d∈(Aa ns k).kids):inA a ks:=by
 have h1:=h.ar;have h2:=Bc.1 h.up.1
 refine⟨by omega,fun d hd=> ?_⟩
 have:=CG h.up (hk d hd);omega
theorem Xw{ns:List Nd}{n:Nat}{s t:Bs}{k a d:Int}(h:vsP ns (n+1) s k a)(hd:(Aa ns k).kids[(0:Nat)]? =some d)(hv:vlP ns n t d (min a 40)):vsP ns n t d a:=by
 have h1:=h.ar;have h2:=Bc.1 h.up.1
 have:=CG h.up (AZ hd)
 exact⟨hv.up,hv.lt,hv.vl,hv.rm,by omega,by omega⟩
theorem Lf{c:BC}{n:Nat}{s t:Bs}{k a:Int}(h:vsQ c n s k a t):BJ c n s k (min a 40) (Gy c.rd (Aa c.ns k) s) t:=⟨h,rfl⟩
theorem Ir{c:BC}{n:Nat}{s t:Bs}{k a o:Int}(h:BJ c (n+1) s k (min a 40) o t):vsQ c (n+1) s k a t:=h.1
theorem MN{a:Int}(h:0≤a):min (min a 40+4) 40=min (a+4) 40:=by omega
theorem b5e{c:BC}{n:Nat}{s t:Bs}{k a:Int}(h:isB (Am (Aa c.ns k).text s) t)(hk:(Aa c.ns k).kind=1∨(Aa c.ns k).kind=2∨(Aa c.ns k).kind=3):vsQ c (n+1) s k a t:=by
 have:=Ir (Xq (c:=c) (n:=n) (s:=s) (a:=min a 40) hk)
 rw[←h] at this;exact this
theorem b5f{c:BC}{n:Nat}{s t:Bs}{k a d:Int}(h:vsP c.ns (n+1) s k a)(ht:isB (Am [40] s) t)(hd:(Aa c.ns k).kids[(0:Nat)]? =some d):vsP c.ns n t d a:=by
 rw[ht];exact Xw h hd (a4w (ET h) hd)
theorem b5g{c:BC}{n:Nat}{s t u:Bs}{k a d:Int}(hu:vsQ c n t d a u)(ht:isB (Am [40] s) t)(h:vsP c.ns (n+1) s k a)(hd:(Aa c.ns k).kids[(0:Nat)]? =some d):u.text.length+79≤2^61:=by
 rw[ht] at hu;exact a4x (ET h) (Lf hu) hd
theorem b5h{c:BC}{n:Nat}{s t u v:Bs}{k a d:Int}(hv:isB (Am [41] u) v)(hu:vsQ c n t d a u)(ht:isB (Am [40] s) t)(hd:(Aa c.ns k).kids[(0:Nat)]? =some d)(hk:(Aa c.ns k).kind=11):vsQ c (n+1) s k a v:=by
 rw[ht] at hu
 have:=Ir (a4y (r1:=u.rules) (r2:=u.chunks) (r3:=u.spans) (r4:=u.ties) (r5:=u.text) (Lf hu) hd hk)
 rw[hv];exact this
theorem b5i{c:BC}{n:Nat}{s:Bs}{k a d:Int}(h:vsP c.ns (n+1) s k a)(hd:(Aa c.ns k).kids[(0:Nat)]? =some d):vsP c.ns n s d a:=Xw h hd (a4z (ET h) hd)
theorem b5j{c:BC}{n:Nat}{s u:Bs}{k a d:Int}(hu:vsQ c n s d a u)(h:vsP c.ns (n+1) s k a)(hd:(Aa c.ns k).kids[(0:Nat)]? =some d):u.text.length+(Aa c.ns k).text.length+79≤2^61:=a4A (ET h) (Lf hu) hd
theorem b5k{c:BC}{n:Nat}{s u v:Bs}{k a d:Int}(hv:isB (Am (46::(Aa c.ns k).text) u) v)(hu:vsQ c n s d a u)(hd:(Aa c.ns k).kids[(0:Nat)]? =some d)(hk:(Aa c.ns k).kind=6):vsQ c (n+1) s k a v:=by
 rw[hv];exact Ir (a4B (Lf hu) hd hk)
theorem b5l{c:BC}{n:Nat}{s:Bs}{k a:Int}(h:vsP c.ns (n+1) s k a):lsP c n s [91] (Aa c.ns k).kids [93] a:=⟨a4C (ET h),ON h fun _ hd=>hd⟩
theorem b5m{c:BC}{n:Nat}{s u:Bs}{k a:Int}(hu:isB (Eb c.rd (bV c.ns c.rd n) [91] (Aa c.ns k).kids [93] (min a 40) s) u)(hk:(Aa c.ns k).kind=4):vsQ c (n+1) s k a u:=Ir (a4D hu hk)
theorem b5n{c:BC}{n:Nat}{s u:Bs}{k a d:Int}(hu:vsQ c n s d a u)(h:vsP c.ns (n+1) s k a)(hd:(Aa c.ns k).kids[(0:Nat)]? =some d):lsP c n u [40] ((Aa c.ns k).kids.drop 1) [41] a:=⟨a4E (ET h) (Lf hu) hd,ON h fun _ hd=>List.mem_of_mem_drop hd⟩
theorem b5o{c:BC}{n:Nat}{s u v:Bs}{k a d:Int}(hv:isB (Eb c.rd (bV c.ns c.rd n) [40] ((Aa c.ns k).kids.drop 1) [41] (min a 40) u) v)(hu:vsQ c n s d a u)(hd:(Aa c.ns k).kids[(0:Nat)]? =some d)(hk:(Aa c.ns k).kind=5):vsQ c (n+1) s k a v:=Ir (a4F hv (Lf hu) hd hk)
theorem b5p{c:BC}{n:Nat}{s:Bs}{k a:Int}(h:vsP c.ns (n+1) s k a)(hk:(Aa c.ns k).kind=7):cxP c n s (Aa c.ns k) a:=⟨by have:=a4G (ET h) hk;rwa [MN h.ar.1] at this,ON h fun _ hd=>hd⟩
theorem b5q{c:BC}{n:Nat}{s u:Bs}{k a:Int}(hu:isB (Kz c.ns c.rd (bV c.ns c.rd n) (Aa c.ns k) (min (a+4) 40) s) u)(h:vsP c.ns (n+1) s k a)(hk:(Aa c.ns k).kind=7):vsQ c (n+1) s k a u:=
 Ir (a4H (o:=AM c.rd s) ⟨by rw[MN h.ar.1];exact hu,rfl⟩ hk)
theorem b5r{c:BC}{n:Nat}{s:Bs}{k a:Int}(h:vsP c.ns (n+1) s k a)(hk:(Aa c.ns k).kind=8):pxP c n s (Aa c.ns k) a:=⟨by have:=a4I (ET h) hk;rwa [MN h.ar.1] at this,ON h fun _ hd=>hd⟩
theorem b5s{c:BC}{n:Nat}{s u:Bs}{k a:Int}(hu:isB (Mh c.ns c.rd (bV c.ns c.rd n) (Aa c.ns k) (min (a+4) 40) s) u)(h:vsP c.ns (n+1) s k a)(hk:(Aa c.ns k).kind=8):vsQ c (n+1) s k a u:=
 Ir (a4J (o:=AM c.rd s) ⟨by rw[MN h.ar.1];exact hu,rfl⟩ hk)
def fxI(c:BC)(s:Bs)(x:Nd)(i:Int)(t:Bs):Prop:=(0≤i∧i≤(fnT x).length)∧t=Am (40::Dz c.ns ((fnT x).take i.toNat) true) s
theorem Xx{ns:List Nd}:∀ {l:List Int} {b:Bool} {k:Int},Dz ns (l++[k]) b=Dz ns l b++((if l=[]∧b=true then [] else [44,32])++(Aa ns k).text)
 |[],b,k=>by cases b<;>simp [Dz]
 |c::l,b,k=>by
  rw[List.cons_append,Dz,Dz,Xx (l:=l) (b:=false)]
  simp
theorem b5t{c:BC}{s t:Bs}{x:Nd}(h:isB (Am [40] s) t):fxI c s x 0 t:=⟨by omega,by rw[h];rfl⟩
theorem a4X{c:BC}{s t u:Bs}{x:Nd}{i k:Int}{e:Nd}(hI:fxI c s x i t)(hk:(fnT x)[i.toNat]? =some k)(he:c.ns[k.toNat]? =some e)(hu:u=Am e.text (if i>0 then Am [44,32] t else t)):fxI c s x (i+1) u:=by
 have hl:=(Cx hk).1
 refine⟨by have:=hI.1;omega,?_⟩
 rw[hu,hI.2,BG hI.1.1,Df hk,Xx,Br he]
 by_cases e0:i>0
 ·have:(fnT x).take i.toNat≠[]:=by
   intro h;have h3:((fnT x).take i.toNat).length=0:=by rw[h];rfl
   rw[List.length_take] at h3;omega
  rw[if_pos e0,if_neg (by simp [this])];simp [Am]
 ·have:(fnT x).take i.toNat=[]:=by rw[show i.toNat=0 by have:=hI.1;omega];rfl
  rw[if_neg e0,if_pos ⟨this,rfl⟩];simp [Am]
theorem b5u{c:BC}{s t w u:Bs}{x:Nd}{i k:Int}{e:Nd}(hI:fxI c s x i t)(hu:isB (Am e.text w) u)(hw:isB (Am [44,32] t) w)(hk:(fnT x)[i.toNat]? =some k)(he:c.ns[k.toNat]? =some e)(hi:i>0):fxI c s x (i+1) u:=a4X hI hk he (by rw[if_pos hi,←hw];exact hu)
theorem b5v{c:BC}{s t u:Bs}{x:Nd}{i k:Int}{e:Nd}(hI:fxI c s x i t)(hu:isB (Am e.text t) u)(hk:(fnT x)[i.toNat]? =some k)(he:c.ns[k.toNat]? =some e)(hi:¬i>0):fxI c s x (i+1) u:=a4X hI hk he (by rw[if_neg hi];exact hu)
theorem b5w{c:BC}{s t u:Bs}{x:Nd}{i:Int}(hu:isB (Am [41,32,61,62] t) u)(hI:fxI c s x i t)(hi:¬i<(fnT x).length):u=Am (CS c.ns x++[32,61,62]) s:=by
 have h2:=hI.2
 rw[List.take_of_length_le (by omega)] at h2
 rw[hu,h2,CS,fnT];simp [Am]
theorem Se{c:BC}{n:Nat}{s t:Bs}{x:Nd}{a i:Int}(hI:fxI c s x i t)(hx:fnP c n s x a):t.text.length≤s.text.length+420:=by
 have h1:=KA (ns:=c.ns) (w:=fun _=>30) (l:=(fnT x).take i.toNat) (first:=true) fun k hk=>by
  have:=List.mem_of_mem_take hk
  exact hx.nm k (List.mem_of_mem_take this) this
 have h2:=Jf (w:=fun _=>30) (b:=30) (l:=(fnT x).take i.toNat) fun _ _=>by omega
 have h3:= @FR x;have h4:=hx.kl
 have h5:((fnT x).take i.toNat).length≤(fnT x).length:=by rw[List.length_take];omega
 rw[hI.2];simp only[Am,List.length_append,List.length_cons];omega
theorem It{c:BC}{n:Nat}{s:Bs}{k a:Int}(h:vsP c.ns (n+1) s k a)(hk:(Aa c.ns k).kind=9):fnP c n s (Aa c.ns k) (min (a+4) 40):=by
 have:=a4K (ET h) hk;rwa [MN h.ar.1] at this
theorem a4Y{r a:Int}{s t:Bs}(h:isB (AU r 1 true (a+4) s) t):t=AU r 1 true (min (a+4) 40) s:=by rw[h];exact MK (by omega)
theorem OO{c:BC}{n:Nat}{s:Bs}{k a d:Int}{i:Nat}(h:vsP c.ns (n+1) s k a)(hd:(Aa c.ns k).kids[i]? =some d):a+4+4*d≤2^40:=(ON h fun _ hd=>hd).2 d (AZ hd)
theorem b5x{c:BC}{n:Nat}{s q t u:Bs}{k a d:Int}(hu:isB (AU (AM c.rd q) 1 true (a+4) t) u)(ht:t=Bd c.rd 2 2 q)(hq:q=Am (CS c.ns (Aa c.ns k)++[32,61,62]) s)(h:vsP c.ns (n+1) s k a)(hd:(Aa c.ns k).kids[(((Aa c.ns k).kids.length:Int)-1).toNat]? =some d)(hk:(Aa c.ns k).kind=9):vsP c.ns n u d (a+4):=by
 subst hq
 exact Xm (a4g (a4Y hu) ht (It h hk) hd) h.ar.1 (OO h hd)
theorem b5y{c:BC}{n:Nat}{s q t u v:Bs}{k a d:Int}(hv:vsQ c n u d (a+4) v)(hu:isB (AU (AM c.rd q) 1 true (a+4) t) u)(ht:t=Bd c.rd 2 2 q)(hq:q=Am (CS c.ns (Aa c.ns k)++[32,61,62]) s)(h:vsP c.ns (n+1) s k a)(hd:(Aa c.ns k).kids[(((Aa c.ns k).kids.length:Int)-1).toNat]? =some d)(hk:(Aa c.ns k).kind=9):vsQ c (n+1) s k a v:=by
 subst hq
 have h1:=a4h (Lc hv) (a4Y hu) ht (It h hk) hd
 refine Ir (a4L ?_ hk)
 rw[MN h.ar.1];exact h1
theorem b5z{c:BC}{n:Nat}{s t:Bs}{k a d:Int}(ht:t=Bd c.rd 2 1 s)(h:vsP c.ns (n+1) s k a)(hd:(Aa c.ns k).kids[(0:Nat)]? =some d):vsP c.ns n t d a:=Xw h hd (a4M ht (ET h) hd)
theorem b5A{c:BC}{n:Nat}{s t u:Bs}{k a d:Int}(hu:vsQ c n t d a u)(ht:t=Bd c.rd 2 1 s)(h:vsP c.ns (n+1) s k a)(hd:(Aa c.ns k).kids[(0:Nat)]? =some d):vaI c n s k (min a 40) 0 u:=a4N (Lf hu) ht (ET h) hd
def cbI(c:BC)(n:Nat)(s:Bs)(k a:Int)(i:Int)(t:Bs):Prop:=1≤i∧vaI c n s k (min a 40) (i-1) t
theorem b5B{c:BC}{n:Nat}{s t u:Bs}{k a d:Int}(hu:vsQ c n t d a u)(ht:t=Bd c.rd 2 1 s)(h:vsP c.ns (n+1) s k a)(hd:(Aa c.ns k).kids[(0:Nat)]? =some d):cbI c n s k a 1 u:=⟨by omega,b5A hu ht h hd⟩
theorem Sf{c:BC}{k i d:Int}(hi:1≤i)(hd:(Aa c.ns k).kids[i.toNat]? =some d):((Aa c.ns k).kids.drop 1)[(i-1).toNat]? =some d:=by
 rw[List.getElem?_drop,show 1+(i-1).toNat=i.toNat by omega];exact hd
theorem b5C{c:BC}{n:Nat}{s t:Bs}{k a i:Int}(h:cbI c n s k a i t)(hx:vsP c.ns (n+1) s k a):1≤i∧i≤14:=by
 have:=a4O h.2;have:=a4P (ET hx);have:=h.1;omega
theorem Xy{c:BC}{n:Nat}{s t:Bs}{k a i:Int}(h:cbI c n s k a i t)(hi:i<(Aa c.ns k).kids.length):∃d,(Aa c.ns k).kids[i.toNat]? =some d:=by
 have:=h.1
 exact⟨_,List.getElem?_eq_getElem (by omega)⟩
theorem b5D{c:BC}{n:Nat}{s t:Bs}{k a i:Int}(h:cbI c n s k a i t)(hi:i<(Aa c.ns k).kids.length):bB t:=by
 obtain⟨d,hd⟩:=Xy h hi;exact a4R h.2 (Sf h.1 hd)
theorem Xz{r a:Int}{s t:Bs}(ha:0≤a)(h:isB (AU r 1 false (a+4) s) t):t=AU r 1 false (min (min a 40+4) 40) s:=by rw[h];exact MK (by omega)
theorem b5E{c:BC}{n:Nat}{s t u:Bs}{k a i:Int}(hu:isB (AU (AM c.rd s) 1 false (a+4) t) u)(h:cbI c n s k a i t)(hx:vsP c.ns (n+1) s k a)(hi:i<(Aa c.ns k).kids.length):u.text.length+4≤2^61:=by
 obtain⟨d,hd⟩:=Xy h hi;exact a4T h.2 (Xz hx.ar.1 hu) (Sf h.1 hd)
theorem b5F{c:BC}{n:Nat}{s t u w:Bs}{k a i d:Int}(hw:isB (Am [46,46] u) w)(hu:isB (AU (AM c.rd s) 1 false (a+4) t) u)(h:cbI c n s k a i t)(hx:vsP c.ns (n+1) s k a)(hd:(Aa c.ns k).kids[i.toNat]? =some d):vsP c.ns n w d (a+4):=by
 have:=a4U h.2 (Xz hx.ar.1 hu) (ET hx) (Sf h.1 hd)
 rw[hw];exact Xi this hx.ar.1 (OO hx hd)
theorem b5G{c:BC}{n:Nat}{s t u w v:Bs}{k a i d:Int}(hv:vsQ c n w d (a+4) v)(hw:isB (Am [46,46] u) w)(hu:isB (AU (AM c.rd s) 1 false (a+4) t) u)(h:cbI c n s k a i t)(hx:vsP c.ns (n+1) s k a)(hd:(Aa c.ns k).kids[i.toNat]? =some d):cbI c n s k a (i+1) v:=by
 rw[hw] at hv
 have:=a4V h.2 (Sf h.1 hd) (Xz hx.ar.1 hu) (Xj hv hx.ar.1) (ET hx)
 exact⟨by have:=h.1;omega,by rw[show i+1-1=i-1+1 by omega];exact this⟩
theorem b5H{c:BC}{n:Nat}{s t:Bs}{k a i:Int}(h:cbI c n s k a i t)(hx:vsP c.ns (n+1) s k a)(hi:¬i<(Aa c.ns k).kids.length)(hk:(Aa c.ns k).kind=10):vsQ c (n+1) s k a t:=by
 have h1:=h.1
 exact Ir (a4W h.2 (ET hx) (by rw[List.length_drop];omega) hk)
theorem k10{c:BC}{n:Nat}{s:Bs}{k a:Int}(h:vsP c.ns n s k a)(hk:(((((((((¬(Aa c.ns k).kind=1∧¬(Aa c.ns k).kind=2)∧¬(Aa c.ns k).kind=3)∧¬(Aa c.ns k).kind=11)∧¬(Aa c.ns k).kind=6)∧¬(Aa c.ns k).kind=4)∧¬(Aa c.ns k).kind=5)∧¬(Aa c.ns k).kind=7)∧¬(Aa c.ns k).kind=8)∧¬(Aa c.ns k).kind=9)):(Aa c.ns k).kind=10:=by
 have hv:=BA.1 h.vl
 unfold Al at hv
 omega
theorem Lg{x:Nd}{i k:Int}(h0:0≤i)(hi:i<(x.kids.length:Int)-1)(hk:x.kids[i.toNat]? =some k):(fnT x)[i.toNat]? =some k:=by
 rw[fnT,List.getElem?_take,if_pos (by omega)];exact hk
theorem a4Z{c:BC}{n:Nat}{s:Bs}{x:Nd}{a k:Int}{i:Nat}{e:Nd}(hx:fnP c n s x a)(hk:(fnT x)[i]? =some k)(he:c.ns[k.toNat]? =some e):e.text.length≤30:=by
 have:=hx.nm k (Xb hk) (AZ hk)
 rwa [Br he] at this
theorem b5I{c:BC}{s t w u:Bs}{x:Nd}{i k:Int}{e:Nd}(hI:fxI c s x i t)(hu:isB (Am e.text w) u)(hw:isB (Am [44,32] t) w)(hk:x.kids[i.toNat]? =some k)(he:c.ns[k.toNat]? =some e)(hl:i<(x.kids.length:Int)-1)(hi:i>0):fxI c s x (i+1) u:=b5u hI hu hw (Lg hI.1.1 hl hk) he hi
theorem b5J{c:BC}{s t u:Bs}{x:Nd}{i k:Int}{e:Nd}(hI:fxI c s x i t)(hu:isB (Am e.text t) u)(hk:x.kids[i.toNat]? =some k)(he:c.ns[k.toNat]? =some e)(hl:i<(x.kids.length:Int)-1)(hi:¬i>0):fxI c s x (i+1) u:=b5v hI hu (Lg hI.1.1 hl hk) he hi
theorem Sh{c:BC}{s t u:Bs}{x:Nd}{i:Int}(hu:isB (Am [41,32,61,62] t) u)(hI:fxI c s x i t)(hi:¬i<(x.kids.length:Int)-1):u=Am (CS c.ns x++[32,61,62]) s:=b5w hu hI (by have:=hI.1;rw[FR] at this ⊢;omega)
theorem b5K{c:BC}{n:Nat}{s t u:Bs}{k a i:Int}(hu:isB (Am [41,32,61,62] t) u)(hI:fxI c s (Aa c.ns k) i t)(hi:¬i<((Aa c.ns k).kids.length:Int)-1)(h:vsP c.ns (n+1) s k a)(hk:(Aa c.ns k).kind=9):bB u:=by
 rw[Sh hu hI hi];exact CV (RS (It h hk))
theorem b5L{c:BC}{n:Nat}{s q t u:Bs}{k a i:Int}(ht:u=Bd c.rd 2 2 q)(hu:isB (Am [41,32,61,62] t) q)(hI:fxI c s (Aa c.ns k) i t)(hi:¬i<((Aa c.ns k).kids.length:Int)-1)(h:vsP c.ns (n+1) s k a)(hk:(Aa c.ns k).kind=9):bB u:=by
 rw[Sh hu hI hi] at ht;exact a4f ht (It h hk)
theorem b5M{c:BC}{n:Nat}{s q t u w:Bs}{k a d i:Int}(hu:isB (AU (AM c.rd q) 1 true (a+4) t) u)(ht:t=Bd c.rd 2 2 q)(hw:isB (Am [41,32,61,62] w) q)(hI:fxI c s (Aa c.ns k) i w)(hi:¬i<((Aa c.ns k).kids.length:Int)-1)(h:vsP c.ns (n+1) s k a)(hd:(Aa c.ns k).kids[(((Aa c.ns k).kids.length:Int)-1).toNat]? =some d)(hk:(Aa c.ns k).kind=9):vsP c.ns n u d (a+4):=b5x hu ht (Sh hw hI hi) h hd hk
theorem b5N{c:BC}{n:Nat}{s q t u v w:Bs}{k a d i:Int}(hv:vsQ c n u d (a+4) v)(hu:isB (AU (AM c.rd q) 1 true (a+4) t) u)(ht:t=Bd c.rd 2 2 q)(hw:isB (Am [41,32,61,62] w) q)(hI:fxI c s (Aa c.ns k) i w)(hi:¬i<((Aa c.ns k).kids.length:Int)-1)(h:vsP c.ns (n+1) s k a)(hd:(Aa c.ns k).kids[(((Aa c.ns k).kids.length:Int)-1).toNat]? =some d)(hk:(Aa c.ns k).kind=9):vsQ c (n+1) s k a v:=b5y hv hu ht (Sh hw hI hi) h hd hk
theorem XA{c:BC}{s t:Bs}{x:Nd}{i:Int}(h:fxI c s x i t):0≤i∧i≤x.kids.length:=by have:=h.1;have:= @FR x;omega
theorem b5O{c:BC}{s t:Bs}{x:Nd}{i:Int}(h:fxI c s x i t)(hi:i<(x.kids.length:Int)-1):x.kids.length-(i+1).toNat<x.kids.length-i.toNat:=by have:=h.1;omega
theorem b5P{c:BC}{n:Nat}{s t w:Bs}{x:Nd}{a i:Int}(hw:isB (Am [44,32] t) w)(hI:fxI c s x i t)(hx:fnP c n s x a):w.text.length≤s.text.length+422:=by
 have:=Se hI hx
 have h2:=a4n hw
 simp only[List.length_cons,List.length_nil] at h2;omega
theorem a5a{c:BC}{n:Nat}{s t:Bs}{x:Nd}{a i k:Int}{e:Nd}(hx:fnP c n s x a)(hI:fxI c s x i t)(hi:i<(x.kids.length:Int)-1)(hk:x.kids[i.toNat]? =some k)(he:c.ns[k.toNat]? =some e):e.text.length≤30:=a4Z hx (Lg hI.1.1 hi hk) he
attribute [local irreducible] fxI cbI
def vaC(n:Nat)(x:BC×List Ru×List Ch×List Sn×List Ti×List UInt8×Int×Int)(i:List Ru×List Ch×List Sn×List Ti×List UInt8×Int):LS:= {ι:=List Ru×List Ch×List Sn×List Ti×List UInt8×Unit,inv:=fun j=>fxI x.1 (xC x) (Aa x.1.ns x.2.2.2.2.2.2.1) (zI i+1) ⟨j.1,j.2.1,j.2.2.1,j.2.2.2.1,j.2.2.2.2.1⟩,regs:=fun j=>[(0,suA x.1 ⟨j.1,j.2.1,j.2.2.1,j.2.2.2.1,j.2.2.2.2.1⟩),(2,.int .i64 x.2.2.2.2.2.2.2),(6,.box 0 (ndA false (Aa x.1.ns x.2.2.2.2.2.2.1))),(7,.int .i64 (((Aa x.1.ns x.2.2.2.2.2.2.1).kids.length:Int)-1)),(8,.int .i64 (zI i))],als:=[],meas:=fun _=>0}
def vaN(n:Nat)(x:BC×List Ru×List Ch×List Sn×List Ti×List UInt8×Int×Int):LS:= {ι:=List Ru×List Ch×List Sn×List Ti×List UInt8×Int,inv:=fun i=>fxI x.1 (xC x) (Aa x.1.ns x.2.2.2.2.2.2.1) (zI i) (zBW i),regs:=fun i=>[(0,suA x.1 (zBW i)),(2,.int .i64 x.2.2.2.2.2.2.2),(6,.box 0 (ndA false (Aa x.1.ns x.2.2.2.2.2.2.1))),(7,.int .i64 (((Aa x.1.ns x.2.2.2.2.2.2.1).kids.length:Int)-1)),(8,.int .i64 (zI i))],als:=[],meas:=fun i=>(Aa x.1.ns x.2.2.2.2.2.2.1).kids.length-(zI i).toNat,sub:=fun i=>[(100038,vaC n x i)]}
def vaL(n:Nat)(x:BC×List Ru×List Ch×List Sn×List Ti×List UInt8×Int×Int):LS:= {ι:=List Ru×List Ch×List Sn×List Ti×List UInt8×Int,inv:=fun i=>cbI x.1 n (xC x) x.2.2.2.2.2.2.1 x.2.2.2.2.2.2.2 (zI i) (zBW i),regs:=fun i=>[(0,suA x.1 (zBW i)),(2,.int .i64 x.2.2.2.2.2.2.2),(6,.box 0 (ndA false (Aa x.1.ns x.2.2.2.2.2.2.1))),(9,.int .i64 (AM x.1.rd (xC x))),(10,.int .i64 (zI i))],als:=[],meas:=fun i=>(Aa x.1.ns x.2.2.2.2.2.2.1).kids.length-(zI i).toNat}
def Hd(n:Nat):Sig:= {X:=BC×List Ru×List Ch×List Sn×List Ti×List UInt8×Int×Int,args:=fun x=>[suA x.1 (xC x),.int .i64 x.2.2.2.2.2.2.1,.int .i64 x.2.2.2.2.2.2.2],pre:=fun x=>vsP x.1.ns (n+1) (xC x) x.2.2.2.2.2.2.1 x.2.2.2.2.2.2.2,Y:=BT,post:=fun x y=>vsQ x.1 (n+1) (xC x) x.2.2.2.2.2.2.1 x.2.2.2.2.2.2.2 (yBW y),res:=fun x y=> .tup [],outs:=fun x y=>[suA x.1 (yBW y),.top,.top],keep:=true}
def XB(n:Nat)(x:BC×List Ru×List Ch×List Sn×List Ti×List UInt8×Int×Int)(i:List Ru×List Ch×List Sn×List Ti×List UInt8×Int)(x_2:Cd.X)(y:Cd.Y):Prop:=((0:Int)≤zI i∧zI i<(↑(List.length (Aa x.1.ns x.2.2.2.2.2.2.1).kids):Int))∧(∀(e:Int),(Aa x.1.ns x.2.2.2.2.2.2.1).kids[Int.toNat (zI i)]? =some e→((0:Int)≤e∧e<(↑(List.length x_2.1.ns):Int))∧(∀(e_1:Nd),x_2.1.ns[Int.toNat e]? =some e_1→cA Cd [.box 0 [nds x_2.1.ns,.int .i64 x_2.1.ind,AV.sl true 0 2 Ru ruA (yBW y).rules,AV.sl true 0 5 Ch chA (yBW y).chunks,AV.sl true 0 3 Sn snA (yBW y).spans,AV.sl true 0 2 Ti tiA (yBW y).ties,.str (yBW y).text,.bool !x_2.1.rd],.str e_1.text] fun x_3 y=>true=true∧(eA (vaC n x i) [.box 0 [nds x_3.1.ns,.int .i64 x_3.1.ind,AV.sl true 0 2 Ru ruA (yBW y).rules,AV.sl true 0 5 Ch chA (yBW y).chunks,AV.sl true 0 3 Sn snA (yBW y).spans,AV.sl true 0 2 Ti tiA (yBW y).ties,.str (yBW y).text,.bool !x_3.1.rd],.int .i64 x.2.2.2.2.2.2.2,.box 0 [.int .i64 (Aa x.1.ns x.2.2.2.2.2.2.1).kind,.str (Aa x.1.ns x.2.2.2.2.2.2.1).text,Ad (Aa x.1.ns x.2.2.2.2.2.2.1).kids,.bool (Aa x.1.ns x.2.2.2.2.2.2.1).blank],.int .i64 ((↑(List.length (Aa x.1.ns x.2.2.2.2.2.2.1).kids):Int)-(1:Int)),.int .i64 (zI i)])))
def XC(n:Nat)(x:BC×List Ru×List Ch×List Sn×List Ti×List UInt8×Int×Int)(i:List Ru×List Ch×List Sn×List Ti×List UInt8×Int):Prop:=((0:Int)≤zI i∧zI i<(↑(List.length (Aa x.1.ns x.2.2.2.2.2.2.1).kids):Int))∧(∀(e:Int),(Aa x.1.ns x.2.2.2.2.2.2.1).kids[Int.toNat (zI i)]? =some e→((0:Int)≤e∧e<(↑(List.length x.1.ns):Int))∧(∀(e_1:Nd),x.1.ns[Int.toNat e]? =some e_1→cA Cd [.box 0 [nds x.1.ns,.int .i64 x.1.ind,AV.sl true 0 2 Ru ruA (zBW i).rules,AV.sl true 0 5 Ch chA (zBW i).chunks,AV.sl true 0 3 Sn snA (zBW i).spans,AV.sl true 0 2 Ti tiA (zBW i).ties,.str (zBW i).text,.bool !x.1.rd],.str e_1.text] fun x_2 y=>true=true∧(eA (vaC n x i) [.box 0 [nds x_2.1.ns,.int .i64 x_2.1.ind,AV.sl true 0 2 Ru ruA (yBW y).rules,AV.sl true 0 5 Ch chA (yBW y).chunks,AV.sl true 0 3 Sn snA (yBW y).spans,AV.sl true 0 2 Ti tiA (yBW y).ties,.str (yBW y).text,.bool !x_2.1.rd],.int .i64 x.2.2.2.2.2.2.2,.box 0 [.int .i64 (Aa x.1.ns x.2.2.2.2.2.2.1).kind,.str (Aa x.1.ns x.2.2.2.2.2.2.1).text,Ad (Aa x.1.ns x.2.2.2.2.2.2.1).kids,.bool (Aa x.1.ns x.2.2.2.2.2.2.1).blank],.int .i64 ((↑(List.length (Aa x.1.ns x.2.2.2.2.2.2.1).kids):Int)-(1:Int)),.int .i64 (zI i)])))
def Si(n:Nat)(x:BC×List Ru×List Ch×List Sn×List Ti×List UInt8×Int×Int)(e:Nd):Prop:=cA Cd [.box 0 [nds x.1.ns,.int .i64 x.1.ind,AV.sl true 0 2 Ru ruA (xC x).rules,AV.sl true 0 5 Ch chA (xC x).chunks,AV.sl true 0 3 Sn snA (xC x).spans,AV.sl true 0 2 Ti tiA (xC x).ties,.str (xC x).text,.bool !x.1.rd],.str e.text] fun x_1 y=>rA (Hd n) x [.tup [],.box 0 [nds x_1.1.ns,.int .i64 x_1.1.ind,AV.sl true 0 2 Ru ruA (yBW y).rules,AV.sl true 0 5 Ch chA (yBW y).chunks,AV.sl true 0 3 Sn snA (yBW y).spans,AV.sl true 0 2 Ti tiA (yBW y).ties,.str (yBW y).text,.bool !x_1.1.rd],.top,.top]
def XD(n:Nat)(x:BC×List Ru×List Ch×List Sn×List Ti×List UInt8×Int×Int)(i:List Ru×List Ch×List Sn×List Ti×List UInt8×Int):Prop:=∀(i_1:List Ru×List Ch×List Sn×List Ti×List UInt8×Unit),fxI x.1 (xC x) (Aa x.1.ns x.2.2.2.2.2.2.1) (zI i+(1:Int)) {rules:=i_1.1,chunks:=i_1.2.1,spans:=i_1.2.2.1,ties:=i_1.2.2.2.1,text:=i_1.2.2.2.2.1}→inR IntKind.i64 (zI i+(1:Int))∧(eN (vaN n x) i [.box 0 [nds x.1.ns,.int .i64 x.1.ind,AV.sl true 0 2 Ru ruA i_1.1,AV.sl true 0 5 Ch chA i_1.2.1,AV.sl true 0 3 Sn snA i_1.2.2.1,AV.sl true 0 2 Ti tiA i_1.2.2.2.1,.str i_1.2.2.2.2.1,.bool !x.1.rd],.int .i64 x.2.2.2.2.2.2.2,.box 0 [.int .i64 (Aa x.1.ns x.2.2.2.2.2.2.1).kind,.str (Aa x.1.ns x.2.2.2.2.2.2.1).text,Ad (Aa x.1.ns x.2.2.2.2.2.2.1).kids,.bool (Aa x.1.ns x.2.2.2.2.2.2.1).blank],.int .i64 ((↑(List.length (Aa x.1.ns x.2.2.2.2.2.2.1).kids):Int)-(1:Int)),.int .i64 (zI i+(1:Int))])
set_option maxHeartbeats 8000000 in
theorem b5Q(n:Nat)(hc:Ah G Go.Proofs.Tryz.prog 49 (BQ n))(hch:Ah G Go.Proofs.Tryz.prog 87 (OM n)):Ah G Tryz.prog 49 (Hd n):=
 vcFun_okP [(50,0,Cd),(49,0,(BQ n)),(48,0,DT),(47,0,Dq),(86,0,(Jt n)),(87,0,(OM n)),(88,0,(MM n))] [] false (fun x=>[(5,vaL n x),(34,vaN n x)]) Tryz.func49 rfl (by decide) ⟨ML,hc,OD,OF,(b4x n hc),hch,(b4Z n hc),trivial⟩ (fun(x:BC×List Ru×List Ch×List Sn×List Ti×List UInt8×Int×Int)=>True∧((0:Int)≤x.2.2.2.2.2.2.1∧x.2.2.2.2.2.2.1<(↑(List.length x.1.ns):Int))∧∀(e:Nd),x.1.ns[Int.toNat x.2.2.2.2.2.2.1]? =some e→Ab (e.kind==(1:Int)) (Si n x e) (Ab (e.kind==(2:Int)) (Si n x e) (Ab (e.kind==(3:Int)) (Si n x e) (Ab (e.kind==(11:Int)) (cA Cd [.box 0 [nds x.1.ns,.int .i64 x.1.ind,AV.sl true 0 2 Ru ruA (xC x).rules,AV.sl true 0 5 Ch chA (xC x).chunks,AV.sl true 0 3 Sn snA (xC x).spans,AV.sl true 0 2 Ti tiA (xC x).ties,.str (xC x).text,.bool !x.1.rd],.str #[(40:UInt8)].toList] fun x_1 y=>((0:Int)≤(0:Int)∧(0:Int)<(↑(List.length e.kids):Int))∧∀(e_1:Int),e.kids[(0:Nat)]? =some e_1→cA (BQ n) [.box 0 [nds x_1.1.ns,.int .i64 x_1.1.ind,AV.sl true 0 2 Ru ruA (yBW y).rules,AV.sl true 0 5 Ch chA (yBW y).chunks,AV.sl true 0 3 Sn snA (yBW y).spans,AV.sl true 0 2 Ti tiA (yBW y).ties,.str (yBW y).text,.bool !x_1.1.rd],.int .i64 e_1,.int .i64 x.2.2.2.2.2.2.2] fun x_2 y=>cA Cd [.box 0 [nds x_2.1.ns,.int .i64 x_2.1.ind,AV.sl true 0 2 Ru ruA (yBW y).rules,AV.sl true 0 5 Ch chA (yBW y).chunks,AV.sl true 0 3 Sn snA (yBW y).spans,AV.sl true 0 2 Ti tiA (yBW y).ties,.str (yBW y).text,.bool !x_2.1.rd],.str #[(41:UInt8)].toList] fun x_3 y=>rA (Hd n) x [.tup [],.box 0 [nds x_3.1.ns,.int .i64 x_3.1.ind,AV.sl true 0 2 Ru ruA (yBW y).rules,AV.sl true 0 5 Ch chA (yBW y).chunks,AV.sl true 0 3 Sn snA (yBW y).spans,AV.sl true 0 2 Ti tiA (yBW y).ties,.str (yBW y).text,.bool !x_3.1.rd],.top,.top]) (Ab (e.kind==(6:Int)) (((0:Int)≤(0:Int)∧(0:Int)<(↑(List.length e.kids):Int))∧∀(e_1:Int),e.kids[(0:Nat)]? =some e_1→cA (BQ n) [.box 0 [nds x.1.ns,.int .i64 x.1.ind,AV.sl true 0 2 Ru ruA (xC x).rules,AV.sl true 0 5 Ch chA (xC x).chunks,AV.sl true 0 3 Sn snA (xC x).spans,AV.sl true 0 2 Ti tiA (xC x).ties,.str (xC x).text,.bool !x.1.rd],.int .i64 e_1,.int .i64 x.2.2.2.2.2.2.2] fun x_1 y=>(↑((1:Nat)+List.length e.text):Int)≤IntKind.max IntKind.i64∧cA Cd [.box 0 [nds x_1.1.ns,.int .i64 x_1.1.ind,AV.sl true 0 2 Ru ruA (yBW y).rules,AV.sl true 0 5 Ch chA (yBW y).chunks,AV.sl true 0 3 Sn snA (yBW y).spans,AV.sl true 0 2 Ti tiA (yBW y).ties,.str (yBW y).text,.bool !x_1.1.rd],.str (#[(46:UInt8)].toList++e.text)] fun x_2 y=>rA (Hd n) x [.tup [],.box 0 [nds x_2.1.ns,.int .i64 x_2.1.ind,AV.sl true 0 2 Ru ruA (yBW y).rules,AV.sl true 0 5 Ch chA (yBW y).chunks,AV.sl true 0 3 Sn snA (yBW y).spans,AV.sl true 0 2 Ti tiA (yBW y).ties,.str (yBW y).text,.bool !x_2.1.rd],.top,.top]) (Ab (e.kind==(4:Int)) (cA (Jt n) [.box 0 [nds x.1.ns,.int .i64 x.1.ind,AV.sl true 0 2 Ru ruA (xC x).rules,AV.sl true 0 5 Ch chA (xC x).chunks,AV.sl true 0 3 Sn snA (xC x).spans,AV.sl true 0 2 Ti tiA (xC x).ties,.str (xC x).text,.bool !x.1.rd],.str #[(91:UInt8)].toList,Ad e.kids,.str #[(93:UInt8)].toList,.int .i64 x.2.2.2.2.2.2.2] fun x_1 y=>rA (Hd n) x [.tup [],.box 0 [nds x_1.1.ns,.int .i64 x_1.1.ind,AV.sl true 0 2 Ru ruA (yBW y).rules,AV.sl true 0 5 Ch chA (yBW y).chunks,AV.sl true 0 3 Sn snA (yBW y).spans,AV.sl true 0 2 Ti tiA (yBW y).ties,.str (yBW y).text,.bool !x_1.1.rd],.top,.top]) (Ab (e.kind==(5:Int)) (((0:Int)≤(0:Int)∧(0:Int)<(↑(List.length e.kids):Int))∧∀(e_1:Int),e.kids[(0:Nat)]? =some e_1→cA (BQ n) [.box 0 [nds x.1.ns,.int .i64 x.1.ind,AV.sl true 0 2 Ru ruA (xC x).rules,AV.sl true 0 5 Ch chA (xC x).chunks,AV.sl true 0 3 Sn snA (xC x).spans,AV.sl true 0 2 Ti tiA (xC x).ties,.str (xC x).text,.bool !x.1.rd],.int .i64 e_1,.int .i64 x.2.2.2.2.2.2.2] fun x_1 y=>((0:Int)≤(1:Int)∧(1:Int)≤(↑(List.length e.kids):Int)∧(↑(List.length e.kids):Int)≤(↑(List.length e.kids):Int))∧cA (Jt n) [.box 0 [nds x_1.1.ns,.int .i64 x_1.1.ind,AV.sl true 0 2 Ru ruA (yBW y).rules,AV.sl true 0 5 Ch chA (yBW y).chunks,AV.sl true 0 3 Sn snA (yBW y).spans,AV.sl true 0 2 Ti tiA (yBW y).ties,.str (yBW y).text,.bool !x_1.1.rd],.str #[(40:UInt8)].toList,Ad (List.drop (1:Nat) e.kids),.str #[(41:UInt8)].toList,.int .i64 x.2.2.2.2.2.2.2] fun x_2 y=>rA (Hd n) x [.tup [],.box 0 [nds x_2.1.ns,.int .i64 x_2.1.ind,AV.sl true 0 2 Ru ruA (yBW y).rules,AV.sl true 0 5 Ch chA (yBW y).chunks,AV.sl true 0 3 Sn snA (yBW y).spans,AV.sl true 0 2 Ti tiA (yBW y).ties,.str (yBW y).text,.bool !x_2.1.rd],.top,.top]) (Ab (e.kind==(7:Int)) (cA (OM n) [.box 0 [nds x.1.ns,.int .i64 x.1.ind,AV.sl true 0 2 Ru ruA (xC x).rules,AV.sl true 0 5 Ch chA (xC x).chunks,AV.sl true 0 3 Sn snA (xC x).spans,AV.sl true 0 2 Ti tiA (xC x).ties,.str (xC x).text,.bool !x.1.rd],.agg [.int .i64 e.kind,.str e.text,Ad e.kids,.bool e.blank],.int .i64 x.2.2.2.2.2.2.2] fun x_1 y=>rA (Hd n) x [.tup [],.box 0 [nds x_1.1.ns,.int .i64 x_1.1.ind,AV.sl true 0 2 Ru ruA (yBW y).rules,AV.sl true 0 5 Ch chA (yBW y).chunks,AV.sl true 0 3 Sn snA (yBW y).spans,AV.sl true 0 2 Ti tiA (yBW y).ties,.str (yBW y).text,.bool !x_1.1.rd],.top,.top]) (Ab (e.kind==(8:Int)) (cA (MM n) [.box 0 [nds x.1.ns,.int .i64 x.1.ind,AV.sl true 0 2 Ru ruA (xC x).rules,AV.sl true 0 5 Ch chA (xC x).chunks,AV.sl true 0 3 Sn snA (xC x).spans,AV.sl true 0 2 Ti tiA (xC x).ties,.str (xC x).text,.bool !x.1.rd],.agg [.int .i64 e.kind,.str e.text,Ad e.kids,.bool e.blank],.int .i64 x.2.2.2.2.2.2.2] fun x_1 y=>rA (Hd n) x [.tup [],.box 0 [nds x_1.1.ns,.int .i64 x_1.1.ind,AV.sl true 0 2 Ru ruA (yBW y).rules,AV.sl true 0 5 Ch chA (yBW y).chunks,AV.sl true 0 3 Sn snA (yBW y).spans,AV.sl true 0 2 Ti tiA (yBW y).ties,.str (yBW y).text,.bool !x_1.1.rd],.top,.top]) (Ab (e.kind==(9:Int)) (cA Cd [.box 0 [nds x.1.ns,.int .i64 x.1.ind,AV.sl true 0 2 Ru ruA (xC x).rules,AV.sl true 0 5 Ch chA (xC x).chunks,AV.sl true 0 3 Sn snA (xC x).spans,AV.sl true 0 2 Ti tiA (xC x).ties,.str (xC x).text,.bool !x.1.rd],.str #[(40:UInt8)].toList] fun x_1 y=>inR IntKind.i64 ((↑(List.length e.kids):Int)-(1:Int))∧eA (vaN n x) [.box 0 [nds x_1.1.ns,.int .i64 x_1.1.ind,AV.sl true 0 2 Ru ruA (yBW y).rules,AV.sl true 0 5 Ch chA (yBW y).chunks,AV.sl true 0 3 Sn snA (yBW y).spans,AV.sl true 0 2 Ti tiA (yBW y).ties,.str (yBW y).text,.bool !x_1.1.rd],.int .i64 x.2.2.2.2.2.2.2,.box 0 [.int .i64 e.kind,.str e.text,Ad e.kids,.bool e.blank],.int .i64 ((↑(List.length e.kids):Int)-(1:Int)),.int .i64 (0:Int)]∧∀(i:List Ru×List Ch×List Sn×List Ti×List UInt8×Int),fxI x.1 (xC x) (Aa x.1.ns x.2.2.2.2.2.2.1) (zI i) (zBW i)→Ab (decide (zI i<(↑(List.length (Aa x.1.ns x.2.2.2.2.2.2.1).kids):Int)-(1:Int))) (Ab (decide (zI i>(0:Int))) (cA Cd [.box 0 [nds x.1.ns,.int .i64 x.1.ind,AV.sl true 0 2 Ru ruA (zBW i).rules,AV.sl true 0 5 Ch chA (zBW i).chunks,AV.sl true 0 3 Sn snA (zBW i).spans,AV.sl true 0 2 Ti tiA (zBW i).ties,.str (zBW i).text,.bool !x.1.rd],.str #[(44:UInt8),(32:UInt8)].toList] fun x_2 y=>true=true∧((XB n x i x_2 y)∧(XB n x i x_2 y))∧(XD n x i)) (true=true∧((XC n x i)∧(XC n x i))∧(XD n x i))) (cA Cd [.box 0 [nds x.1.ns,.int .i64 x.1.ind,AV.sl true 0 2 Ru ruA (zBW i).rules,AV.sl true 0 5 Ch chA (zBW i).chunks,AV.sl true 0 3 Sn snA (zBW i).spans,AV.sl true 0 2 Ti tiA (zBW i).ties,.str (zBW i).text,.bool !x.1.rd],.str #[(41:UInt8),(32:UInt8),(61:UInt8),(62:UInt8)].toList] fun x_2 y=>cA DT [.box 0 [nds x_2.1.ns,.int .i64 x_2.1.ind,AV.sl true 0 2 Ru ruA (yBW y).rules,AV.sl true 0 5 Ch chA (yBW y).chunks,AV.sl true 0 3 Sn snA (yBW y).spans,AV.sl true 0 2 Ti tiA (yBW y).ties,.str (yBW y).text,.bool !x_2.1.rd],.int .i64 (2:Int),.int .i64 (2:Int)] fun x_3 y=>inR IntKind.i64 (x.2.2.2.2.2.2.2+(4:Int))∧cA Dq [.box 0 [nds x_3.1.ns,.int .i64 x_3.1.ind,AV.sl true 0 2 Ru ruA (yBW y).rules,AV.sl true 0 5 Ch chA (yBW y).chunks,AV.sl true 0 3 Sn snA (yBW y).spans,AV.sl true 0 2 Ti tiA (yBW y).ties,.str (yBW y).text,.bool !x_3.1.rd],.int .i64 (AM x_3.1.rd (xC x_3)),.int .i64 (1:Int),.bool true,.int .i64 (x.2.2.2.2.2.2.2+(4:Int))] fun x_4 y=>((0:Int)≤(↑(List.length (Aa x.1.ns x.2.2.2.2.2.2.1).kids):Int)-(1:Int)∧(↑(List.length (Aa x.1.ns x.2.2.2.2.2.2.1).kids):Int)-(1:Int)<(↑(List.length (Aa x.1.ns x.2.2.2.2.2.2.1).kids):Int))∧∀(e:Int),(Aa x.1.ns x.2.2.2.2.2.2.1).kids[Int.toNat ((↑(List.length (Aa x.1.ns x.2.2.2.2.2.2.1).kids):Int)-(1:Int))]? =some e→inR IntKind.i64 (x.2.2.2.2.2.2.2+(4:Int))∧cA (BQ n) [.box 0 [nds x_4.1.ns,.int .i64 x_4.1.ind,AV.sl true 0 2 Ru ruA (yBW y).rules,AV.sl true 0 5 Ch chA (yBW y).chunks,AV.sl true 0 3 Sn snA (yBW y).spans,AV.sl true 0 2 Ti tiA (yBW y).ties,.str (yBW y).text,.bool !x_4.1.rd],.int .i64 e,.int .i64 (x.2.2.2.2.2.2.2+(4:Int))] fun x_5 y=>rA (Hd n) x [.tup [],.box 0 [nds x_5.1.ns,.int .i64 x_5.1.ind,AV.sl true 0 2 Ru ruA (yBW y).rules,AV.sl true 0 5 Ch chA (yBW y).chunks,AV.sl true 0 3 Sn snA (yBW y).spans,AV.sl true 0 2 Ti tiA (yBW y).ties,.str (yBW y).text,.bool !x_5.1.rd],.top,.top])) (cA DT [.box 0 [nds x.1.ns,.int .i64 x.1.ind,AV.sl true 0 2 Ru ruA (xC x).rules,AV.sl true 0 5 Ch chA (xC x).chunks,AV.sl true 0 3 Sn snA (xC x).spans,AV.sl true 0 2 Ti tiA (xC x).ties,.str (xC x).text,.bool !x.1.rd],.int .i64 (2:Int),.int .i64 (1:Int)] fun x_1 y=>((0:Int)≤(0:Int)∧(0:Int)<(↑(List.length e.kids):Int))∧∀(e_1:Int),e.kids[(0:Nat)]? =some e_1→cA (BQ n) [.box 0 [nds x_1.1.ns,.int .i64 x_1.1.ind,AV.sl true 0 2 Ru ruA (yBW y).rules,AV.sl true 0 5 Ch chA (yBW y).chunks,AV.sl true 0 3 Sn snA (yBW y).spans,AV.sl true 0 2 Ti tiA (yBW y).ties,.str (yBW y).text,.bool !x_1.1.rd],.int .i64 e_1,.int .i64 x.2.2.2.2.2.2.2] fun x_2 y=>eA (vaL n x) [.box 0 [nds x_2.1.ns,.int .i64 x_2.1.ind,AV.sl true 0 2 Ru ruA (yBW y).rules,AV.sl true 0 5 Ch chA (yBW y).chunks,AV.sl true 0 3 Sn snA (yBW y).spans,AV.sl true 0 2 Ti tiA (yBW y).ties,.str (yBW y).text,.bool !x_2.1.rd],.int .i64 x.2.2.2.2.2.2.2,.box 0 [.int .i64 e.kind,.str e.text,Ad e.kids,.bool e.blank],.int .i64 (AM x_1.1.rd (xC x_1)),.int .i64 (1:Int)]∧∀(i:List Ru×List Ch×List Sn×List Ti×List UInt8×Int),cbI x.1 n (xC x) x.2.2.2.2.2.2.1 x.2.2.2.2.2.2.2 (zI i) (zBW i)→Ab (decide (zI i<(↑(List.length (Aa x.1.ns x.2.2.2.2.2.2.1).kids):Int))) (inR IntKind.i64 (x.2.2.2.2.2.2.2+(4:Int))∧cA Dq [.box 0 [nds x.1.ns,.int .i64 x.1.ind,AV.sl true 0 2 Ru ruA (zBW i).rules,AV.sl true 0 5 Ch chA (zBW i).chunks,AV.sl true 0 3 Sn snA (zBW i).spans,AV.sl true 0 2 Ti tiA (zBW i).ties,.str (zBW i).text,.bool !x.1.rd],.int .i64 (AM x.1.rd (xC x)),.int .i64 (1:Int),.bool false,.int .i64 (x.2.2.2.2.2.2.2+(4:Int))] fun x_3 y=>cA Cd [.box 0 [nds x_3.1.ns,.int .i64 x_3.1.ind,AV.sl true 0 2 Ru ruA (yBW y).rules,AV.sl true 0 5 Ch chA (yBW y).chunks,AV.sl true 0 3 Sn snA (yBW y).spans,AV.sl true 0 2 Ti tiA (yBW y).ties,.str (yBW y).text,.bool !x_3.1.rd],.str #[(46:UInt8),(46:UInt8)].toList] fun x_4 y=>((0:Int)≤zI i∧zI i<(↑(List.length (Aa x.1.ns x.2.2.2.2.2.2.1).kids):Int))∧∀(e:Int),(Aa x.1.ns x.2.2.2.2.2.2.1).kids[Int.toNat (zI i)]? =some e→inR IntKind.i64 (x.2.2.2.2.2.2.2+(4:Int))∧cA (BQ n) [.box 0 [nds x_4.1.ns,.int .i64 x_4.1.ind,AV.sl true 0 2 Ru ruA (yBW y).rules,AV.sl true 0 5 Ch chA (yBW y).chunks,AV.sl true 0 3 Sn snA (yBW y).spans,AV.sl true 0 2 Ti tiA (yBW y).ties,.str (yBW y).text,.bool !x_4.1.rd],.int .i64 e,.int .i64 (x.2.2.2.2.2.2.2+(4:Int))] fun x_5 y=>inR IntKind.i64 (zI i+(1:Int))∧eN (vaL n x) i [.box 0 [nds x_5.1.ns,.int .i64 x_5.1.ind,AV.sl true 0 2 Ru ruA (yBW y).rules,AV.sl true 0 5 Ch chA (yBW y).chunks,AV.sl true 0 3 Sn snA (yBW y).spans,AV.sl true 0 2 Ti tiA (yBW y).ties,.str (yBW y).text,.bool !x_5.1.rd],.int .i64 x.2.2.2.2.2.2.2,.box 0 [.int .i64 (Aa x.1.ns x.2.2.2.2.2.2.1).kind,.str (Aa x.1.ns x.2.2.2.2.2.2.1).text,Ad (Aa x.1.ns x.2.2.2.2.2.2.1).kids,.bool (Aa x.1.ns x.2.2.2.2.2.2.1).blank],.int .i64 (AM x.1.rd (xC x)),.int .i64 (zI i+(1:Int))]) (rA (Hd n) x [.tup [],.box 0 [nds x.1.ns,.int .i64 x.1.ind,AV.sl true 0 2 Ru ruA (zBW i).rules,AV.sl true 0 5 Ch chA (zBW i).chunks,AV.sl true 0 3 Sn snA (zBW i).spans,AV.sl true 0 2 Ti tiA (zBW i).ties,.str (zBW i).text,.bool !x.1.rd],.top,.top])))))))))))) (fun x=>by kernel_rfl) fun(x:BC×List Ru×List Ch×List Sn×List Ti×List UInt8×Int×Int) (hx:vsP x.1.ns (n+1) (xC x) x.2.2.2.2.2.2.1 x.2.2.2.2.2.2.2)=>(by
 dsimp only[XD,Si,XC,XB,cA,Bl,eA,eN,Ad,Bi,nds,rA,Bj,OM,Jt,MM,Cd,DT,Dq,BQ,Hd,Bm,suA,Bn,vaC,vaL,vaN,Aq,Aw,mvL,lnL,mvE,lnE,mvG,mvH,lnG,lnH,Ba]
 obtain⟨b,r,c,s,t,u,k,a⟩:=x;dsimp only[xC] at hx ⊢
 have hx:vsP b.ns (n+1) ⟨r,c,s,t,u⟩ k a:=hx
 have h1:=hx.ar;have hr:=Bc.1 hx.up.1;have hv:=ET hx
 have hz:=a4t hv;have h1t:=a4u hv;have hkl:=Jv hv;dsimp only at h1t
 simp only[hz,Option.some.injEq,forall_eq']
 (repeat' first|(with_reducible first|rfl|exact True.intro|apply AG|apply And.intro|((first|apply Au|apply AE|apply Av|apply AF)<;>intro _))|(apply As<;>intro _)|apply AD|refine Af () ?_ ?_|((first|apply AK|apply AJ|apply AI|apply AH|apply AC|apply AB|apply AA|apply Az|apply Ax)<;>try dsimp only)|apply Af|(refine Prod.forall.2 ?_;intro _;try dsimp only)|(intro _;try dsimp only))
 all_goals(try dsimp only[yBW,xC,zBW,zI,wB] at*)
 all_goals first
  |with_reducible rfl
  |with_reducible assumption
  |omega
  |exact b5e ‹_› (by omega)
  |exact b5f hx ‹_› ‹_›
  |exact b5h ‹_› ‹_› ‹_› ‹_› ‹_›
  |exact b5i hx ‹_›
  |exact b5k ‹_› ‹_› ‹_› ‹_›
  |exact b5l hx
  |exact b5m ‹_› ‹_›
  |exact b5n ‹_› hx ‹_›
  |exact b5o ‹_› ‹_› ‹_› ‹_›
  |exact b5p hx ‹_›
  |exact b5q ‹_› hx ‹_›
  |exact b5r hx ‹_›
  |exact b5s ‹_› hx ‹_›
  |exact CV (Iq hv)
  |exact b5t ‹_›
  |exact b5I ‹_› ‹_› ‹_› ‹_› ‹_› ‹_› ‹_›
  |exact b5J ‹_› ‹_› ‹_› ‹_› ‹_› ‹_›
  |exact b5K ‹_› ‹_› ‹_› hx ‹_›
  |exact b5L ‹_› ‹_› ‹_› ‹_› hx ‹_›
  |exact b5M ‹_› ‹_› ‹_› ‹_› ‹_› hx ‹_› ‹_›
  |exact b5N ‹_› ‹_› ‹_› ‹_› ‹_› ‹_› hx ‹_› ‹_›
  |exact b5z ‹_› hx ‹_›
  |exact b5B ‹_› ‹_› hx ‹_›
  |exact b5D ‹_› ‹_›
  |exact b5F ‹_› ‹_› ‹_› hx ‹_›
  |exact b5G ‹_› ‹_› ‹_› ‹_› hx ‹_›
  |exact b5H ‹_› hx ‹_› (k10 hx (by omega))
  |((try simp only[Aj,List.length_append,List.length_cons,List.length_nil]);omega)
  |(have hq:=Xp hv ‹_› ‹_› ‹_› (by first|assumption|omega);(try simp only[Aj]);omega)
  |(have hq:=b5g ‹_› ‹_› hx ‹_›;dsimp only at hq;(try simp only[Aj,List.length_append,List.length_cons,List.length_nil]);omega)
  |(have hq:=b5j ‹_› hx ‹_›;dsimp only at hq;(try simp only[Aj,List.length_append,List.length_cons,List.length_nil]);omega)
  |(have hq:=XA (show fxI _ _ _ _ _ by assumption);(try simp only[Aj]);omega)
  |(have hq:=XA (show fxI _ _ _ _ _ by assumption);have hf:=It hx ‹_›;have hk:=Lg hq.1 ‹_› ‹_›;have hd:=a4d hf hk;(try simp only[Aj]);omega)
  |(have hq:=XA (show fxI _ _ _ _ _ by assumption);have hf:=It hx ‹_›;have hl:=Se (show fxI _ _ _ _ _ by assumption) hf;have hk:=Lg hq.1 ‹_› ‹_›;have he:=a4Z hf hk ‹_›;dsimp only at hl;(try simp only[Aj,List.length_append,List.length_cons,List.length_nil]);omega)
  |(have hf:=It hx ‹_›;have hl:=Se (show fxI _ _ _ _ _ by assumption) hf;dsimp only at hl;(try simp only[Aj,List.length_append,List.length_cons,List.length_nil]);omega)
  |(have hq:=b5C (show cbI _ _ _ _ _ _ _ by assumption) hx;(try have hk:=OO hx ‹_›);(try simp only[Aj]);omega)
  |(have hq:=Xy (show cbI _ _ _ _ _ _ _ by assumption) ‹_›;obtain⟨d,hd⟩:=hq;have hk:=OO hx hd;have hm:=CG hx.up (AZ hd);(try simp only[Aj]);omega)
  |(have hq:=b5E ‹_› ‹_› hx ‹_›;dsimp only at hq;(try simp only[Aj,List.length_append,List.length_cons,List.length_nil]);omega)
  |(have hk:=OO hx ‹_›;have hm:=CG hx.up (AZ (show(Aa b.ns k).kids[_]? =some _ by assumption));(try simp only[Aj]);omega)
  |exact b5O ‹_› ‹_›
  |(have hf:=It hx ‹_›;have hw:=b5P ‹_› ‹_› hf;have he:=a5a hf ‹_› ‹_› ‹_› ‹_›;dsimp only at hw;omega)
  |(have hf:=It hx ‹_›;have hw:=Se ‹_› hf;have he:=a5a hf ‹_› ‹_› ‹_› ‹_›;dsimp only at hw;omega)
  |exact()
  |rfl
  |skip)
end Go.My
end
section
namespace Go.My
open Go.Eng Go.Proofs
variable {G:GInv}
theorem b5R(n:Nat)(hc:Ah G Go.Proofs.Tryz.prog 49 (BQ n)):Ah G Go.Proofs.Tryz.prog 87 (OM n):=
 ⟨⟨(a4q n hc).1.1,fun _ _ _ _=>trivial⟩,fun x hx=>(a4q n hc).2 x ⟨hx.cn,hx.ar⟩⟩
theorem b5S:Ah G Go.Proofs.Tryz.prog 49 (BQ 0):=
 ⟨⟨⟨_,Go.Proofs.Tryz.func49,by kernel_rfl,by kernel_rfl⟩,fun x y _ _=>trivial⟩,fun x hx=>by
   exfalso
   have hx:vsP x.1.ns 0 (xC x) x.2.2.2.2.2.2.1 x.2.2.2.2.2.2.2:=hx
   have h1:=Bc.1 hx.up.1
   have h2:=hx.lt
   omega⟩
theorem XE:∀n,Ah G Go.Proofs.Tryz.prog 49 (BQ n)
 |0=>b5S
 |n+1=>b5Q n (XE n) (b5R n (XE n))
end Go.My
end
