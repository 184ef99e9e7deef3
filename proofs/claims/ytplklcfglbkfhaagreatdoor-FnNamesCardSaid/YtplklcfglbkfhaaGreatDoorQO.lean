/- A part of the proof: the engine and the contracts, joined. -/
import Derived.Test.YtplklcfglbkfhaaGreatDoorQN
import Derived.Test.YtplklcfglbkfhaaGreatDoorProg
section
set_option linter.unusedVariables false
set_option linter.unusedSimpArgs false
namespace Go.My
open Go.Eng Go.Proofs
variable {G:GInv}
noncomputable def toL (L:List Nd):List UInt8:=Ea L [102,114,101,115,104]
def nmP(L:List Nd)(k:Int)(f:List UInt8):Prop:=mbP L k∧f∈Bl L k++BH L k
theorem VQ{s:List UInt8}(h:BK s=true):s.length≤30:=by
 have:=(NS.1 h).1.1
 unfold inn at this;simp at this;omega
theorem Gt{L:List Nd}{k:Int}{f:List UInt8}(h:nmP L k f):BK (toL L)=true∧CF L (toL L)=false:=b6F (Dd h.1.1.1).2.2.1
theorem Jc{L:List Nd}{k:Int}{f:List UInt8}(h:nmP L k f):¬BV L k f=0∧BK f=true∧f≠toL L:=by
 obtain⟨h1,h2,i,hi,ht⟩:=a3h h.2
 refine⟨h1,h2,fun e=> ?_⟩
 exact Pc (Gt h).2 hi (ht.trans e)
theorem VR{L:List Nd}{k:Int}{f:List UInt8}(h:nmP L k f):0≤k∧k<L.length:=QK h.1.2.1
theorem a3u{L:List Nd}{k:Int}{f:List UInt8}(h:nmP L k f):CW (L,k,f,toL L)=true:=by
 have hf:=Jc h;have ht:=Gt h;have hk:=VR h
 have hz:BV L k (toL L)=0:=a3e fun i hi hc=>Pc ht.2 (Hs hi).1 hc.2
 exact VA (x:=(L,k,f,toL L)) (List.elem_iff.2 h.1.2.1) (HY hk.1 hk.2) h.1.2.2 hf.1 ht.1 hz
theorem Ng{L:List Nd}{k:Int}{f:List UInt8}(h:nmP L k f):BZ (L,k,f,toL L)=rnF L (undL L k) f (toL L):=by rw[BZ,if_pos (a3u h)]
theorem RW{L:List Nd}{k:Int}{f:List UInt8}(h:nmP L k f):Sm (BZ (L,k,f,toL L)) L:=by rw[Ng h];exact VF (Jc h).2.1 (Gt h).1
theorem b7v{L:List Nd}{k:Int}{f:List UInt8}(h:nmP L k f):treeOk (BZ (L,k,f,toL L))=true:=by rw[(RW h).treeOk];exact h.1.1.1
theorem b7w(a b:List UInt8):FO a b a=b:=by simp [FO]
theorem b7x{a b:List UInt8}(h:a≠b):FO a b b=a:=by unfold FO;rw[if_neg (Ne.symm h),if_pos rfl]
theorem a3v{L:List Nd}{k:Int}{f:List UInt8}(h:nmP L k f):BV (BZ (L,k,f,toL L)) k (toL L)=BV L k f:=by
 have:=a3i (k:=k) (s:=f) (Jc h).2.1 (Gt h).1 (Gt h).2
 rwa [b7w,←Ng h] at this
theorem a3w{L:List Nd}{k:Int}{f:List UInt8}(h:nmP L k f):BV (BZ (L,k,f,toL L)) k f=0:=by
 have:=a3i (k:=k) (s:=toL L) (Jc h).2.1 (Gt h).1 (Gt h).2
 rw[b7x (Jc h).2.2,←Ng h] at this
 rw[this]
 exact a3e fun i hi hc=>Pc (Gt h).2 (Hs hi).1 hc.2
theorem b7y{L:List Nd}{k:Int}{f:List UInt8}(h:nmP L k f):(DD (BZ (L,k,f,toL L)) k).length=(DD L k).length:=by
 rw[Ng h];exact b6N (Jc h).2.1 (Gt h).1 (Gt h).2
theorem a3x{L:List Nd}{k:Int}{f:List UInt8}(h:nmP L k f):CW (BZ (L,k,f,toL L),k,toL L,f)=true:=by
 have hs:=RW h;have hk:=VR h
 refine VA (x:=(BZ (L,k,f,toL L),k,toL L,f)) (e:=Ab (BZ (L,k,f,toL L)) k) ?_ (HY hk.1 (by rw[hs.len];exact hk.2)) ?_ ?_ (Jc h).2.1 (a3w h)
 ·show(memL (BZ (L,k,f,toL L))).elem k=true
  rw[hs.memL];exact List.elem_iff.2 h.1.2.1
 ·rw[hs.kind];exact h.1.2.2
 ·show¬BV (BZ (L,k,f,toL L)) k (toL L)=0
  rw[a3v h];exact(Jc h).1
theorem b7z{L:List Nd}{k:Int}{f:List UInt8}(h:nmP L k f):BZ (BZ (L,k,f,toL L),k,toL L,f)=L:=by
 rw[BZ,if_pos (a3x h)]
 show rnF (BZ (L,k,f,toL L)) (undL (BZ (L,k,f,toL L)) k) (toL L) f=L
 rw[(RW h).undL,Ng h];exact b6O (Gt h).2
theorem b7A{L:List Nd}{k:Int}{f:List UInt8}(h:nmP L k f):(undL L k).length=(CQ L k).length:=by rw[b6S h.1.1.1 (VR h)]
theorem VS{L:List Nd}{k:Int}(h:mbP L k):((Bc L∧L.length≤2^30)∧L.length≤300)∧∀e∈L,e.kids.length≤2^20:=by
 have t:=Dd h.1.1
 refine⟨⟨⟨h.1.2,by omega⟩,by omega⟩,fun e he=> ?_⟩
 obtain⟨i,hi⟩:=List.mem_iff_getElem?.1 he
 have hl:=(List.getElem?_eq_some_iff.1 hi).1
 have hn:=(CS (t.1.1 i hl)).2.1
 rw[AZ (c:=(i:Int)) (by simpa using hi)] at hn;omega
theorem RX{L:List Nd}{k:Int}{f:List UInt8}(h:nmP L k f):((Bc (BZ (L,k,f,toL L))∧(BZ (L,k,f,toL L)).length≤2^30)∧(BZ (L,k,f,toL L)).length≤300)∧∀e∈BZ (L,k,f,toL L),e.kids.length≤2^20:=by
 have hs:=RW h;have hL:=VS h.1;have ht:=VQ (Gt h).1
 have key:∀e∈BZ (L,k,f,toL L),e.kids.length≤2^20∧e.text.length<2^62:=by
  intro e he
  rw[Ng h] at he
  obtain⟨j,hj⟩:=List.mem_iff_getElem?.1 he
  rw[HZ,Option.map_eq_some_iff] at hj
  obtain⟨y,hy,rfl⟩:=hj
  have hm:=List.mem_of_getElem? hy
  have h1:=hL.2 y hm;have h2:=(hL.1.1.1.2 y hm).1
  split
  ·exact⟨h1,by show(toL L).length<2^62;omega⟩
  ·exact⟨h1,h2⟩
 refine⟨⟨⟨⟨by rw[hs.len];exact hL.1.1.1.1,fun e he=>⟨(key e he).2,by have:=(key e he).1;omega⟩⟩,by rw[hs.len];exact hL.1.1.2⟩,by rw[hs.len];exact hL.1.2⟩,fun e he=>(key e he).1⟩
theorem b7B{L:List Nd}{k:Int}{i:Int}{f:List UInt8}(h:mbP L k)(hf:(Bl L k++BH L k)[i.toNat]? =some f):nmP L k f:=⟨h,List.mem_of_getElem? hf⟩
theorem a3y{L:List Nd}{k:Int}(h:((Bl L k++BH L k).length:Int)=0):(Bl L k=[]∧BH L k=[])∧CE L k=[]∧DD L k=[]:=by
 rw[List.length_append] at h
 have h1:Bl L k=[]:=List.length_eq_zero_iff.1 (by omega)
 have h2:BH L k=[]:=List.length_eq_zero_iff.1 (by omega)
 exact⟨⟨h1,h2⟩,by rw[CE,h2];rfl,by rw[DD,h1];rfl⟩
theorem b7C{L:List Nd}{k:Int}(h:((Bl L k++BH L k).length:Int)=0):((Bl L k).length=0∧(BH L k).length=0)∧(CE L k).length=0∧(DD L k).length=0:=by
 obtain⟨⟨h1,h2⟩,h3,h4⟩:=a3y h
 rw[h1,h2,h3,h4];exact⟨⟨rfl,rfl⟩,rfl,rfl⟩
theorem b7D{o:List Int}{v:Int}{n:Nat}(ho:o.length=12∧∀e∈o,0≤e∧e<10000)(hv:o[0]? =some v)(hn:¬(n:Int)=0):(0≤v.tmod n∧v.tmod n<n)∧(v.tmod n).toNat<n:=by
 have:= @Oz v n (ho.2 _ (List.mem_of_getElem? hv)).1 (by omega);omega
def nlI(x:List UInt8)(L:List Nd)(k:Int)(f:List UInt8)(i:Int):Prop:=(nmP L k f∧0≤i∧i≤(CE L k).length)∧x.length≤1048576
theorem b7E{x:List UInt8}{L:List Nd}{k:Int}{f:List UInt8}(h:nmP L k f)(hx:x.length≤1048576):nlI x L k f 0:=⟨⟨h,by omega,by omega⟩,hx⟩
theorem b7F{x:List UInt8}{L:List Nd}{k i:Int}{f:List UInt8}(h:nlI x L k f i)(hl:i<(CE L k).length):nlI x L k f (i+1):=⟨⟨h.1.1,by have:=h.1.2;omega,by omega⟩,h.2⟩
theorem b7G{x:List UInt8}{L:List Nd}{k i:Int}{f:List UInt8}(h:nlI x L k f i):((0≤i∧i≤(CE L k).length)∧(CE L k).length≤300)∧nmP L k f:=by
 refine⟨⟨h.1.2,?_⟩,h.1.1⟩
 exact Nat.le_trans (Nat.le_trans (List.length_filter_le _ _) Um) (Dd h.1.1.1.1.1).2.2.1
theorem b7H{L:List Nd}{k i:Int}{s:List UInt8}(hs:(CE L k)[i.toNat]? =some s):¬BV L k s=0:=b6K (List.mem_of_getElem? hs)
theorem a3z{L:List Nd}{k:Int}(h:mbP L k):((Bl L k).length≤300∧(BH L k).length≤300)∧(0≤k∧k<L.length)∧L.length≤300:=by
 have t:=(Dd h.1.1).2.2.1
 exact⟨⟨Nat.le_trans Zf t,Nat.le_trans Um t⟩,QK h.2.1,t⟩
theorem a3A{L:List Nd}{k:Int}(h:mbP L k):(treeOk L=true∧0≤k∧k<L.length)∧k<2^30:=by
 have:=a3z h;exact⟨⟨h.1.1,this.2.1⟩,by omega⟩
theorem b7I{L:List Nd}{k:Int}{f:List UInt8}(h:nmP L k f):mbP L k:=h.1
theorem b7J{L:List Nd}{k:Int}{f:List UInt8}(h:nmP L k f):f.length<2^62:=by have:=VQ (Jc h).2.1;omega
theorem b7K{L:List Nd}{k:Int}{f:List UInt8}(h:nmP L k f):(toL L).length<2^62:=by have:=VQ (Gt h).1;omega
theorem a3B{L:List Nd}{k:Int}{f:List UInt8}(h:nmP L k f):L.length≤2^20∧(BZ (L,k,f,toL L)).length≤2^20:=by have h1:=(VS h.1).1.2;have h2:=(RX h).1.2;omega
attribute [local irreducible] treeOk Ha memL mbP undL BH Bl CE DD BV Ea CW BZ CQ nlI nmP
noncomputable def Hc:Sig:= {X:=List UInt8,args:=fun x=>[.sl false 0 1 UInt8 byA x],pre:=fun x=>x.length<2^63,Y:=Unit,post:=fun x y=>True,res:=fun x y=> .bool true,outs:=fun x y=>[.top],keep:=false}
noncomputable def RY (x:List UInt8):LS:= {ι:=List Nd×Int×List UInt8×Int,inv:=fun i=>nlI x i.1 i.2.1 i.2.2.1 i.2.2.2,regs:=fun i=>[(3,nds i.1),(4,.int .i64 i.2.1),(6,.str i.2.2.1),(7,.str (toL i.1)),(8,AY (BZ (i.1,i.2.1,i.2.2.1,toL i.1))),(9,.bool true),(10,AY i.1),(11,.bool true),(12,Cv (CE i.1 i.2.1)),(13,.int .i64 i.2.2.2)],als:=[],meas:=fun i=>(CE i.1 i.2.1).length-i.2.2.2.toNat}
theorem b7L(hT:Pa G):Al G Tryz.prog 4 Hc:=
 vcFun_okP [(6,0,Nc),(20,0,Li),(8,0,MR),(28,0,GY),(30,0,Ii),(31,0,Dt),(22,0,Iz),(24,0,Ml),(21,0,Hb),(23,0,MZ),(25,0,Lj),(26,0,JR),(29,0,Gc),(27,0,JO),(17,0,DN),(32,0,(Jb (2^30)))] [(38,⟨List UInt8,Ai⟩)] false (fun x=>[(13,RY x)]) Tryz.func4 rfl (by decide) ⟨b7s,b7o,b5V,b6h,b7u,Mk,ZA,a8K,VP,b7p,b7q,b7r,ZY,(b6B hT),Qx,(a3l (2^30)),trivial⟩ (fun(x:List UInt8)=>(∀(y:Unit),True→True∧True∧True)∧cA Nc [byL x] fun x_1 y=>Aa (decide ((↑(List.length x_1):Int)>(1048576:Int))) (rA Hc x [.bool true,.top]) (cA Li [byL x] fun x_2 y=>cA Hb [nds y.1,.int .i64 y.2] fun x_3 y_1=>cA Iz [nds y.1,.int .i64 y.2] fun x_4 y_2=>∃(zs:List (List UInt8)),AV.sl true 0 1 (List UInt8) Ai (BH x_4.1 x_4.2)=AV.sl true 0 1 (List UInt8) Ai zs∧BG Ai∧Bb (List.length (Bl x_3.1 x_3.2)+List.length zs) (16:Nat)∧Aa ((↑(List.length (Bl x_3.1 x_3.2++zs)):Int)==(0:Int)) (cA MZ [nds y.1,.int .i64 y.2] fun x_5 y_3=>cA Ml [nds y.1,.int .i64 y.2] fun x_6 y_4=>inR IntKind.i64 ((↑(List.length (Bl x_5.1 x_5.2)):Int)+(↑(List.length (BH x_6.1 x_6.2)):Int))∧Aa ((↑(List.length (Bl x_5.1 x_5.2)):Int)+(↑(List.length (BH x_6.1 x_6.2)):Int)==(0:Int)) (cA Lj [nds y.1,.int .i64 y.2] fun x_7 y_5=>Aa ((↑(List.length (CE x_7.1 x_7.2)):Int)==(0:Int)) (cA JR [nds y.1,.int .i64 y.2] fun x_8 y=>rA Hc x [.bool ((↑(List.length (DD x_8.1 x_8.2)):Int)==(0:Int)),.top]) (rA Hc x [.bool false,.top])) (rA Hc x [.bool false,.top])) (cA MR [byL x] fun x_5 y_3=>((0:Int)≤(0:Int)∧(0:Int)<(↑(List.length y_3.1):Int))∧(0:Nat)<List.length y_3.1∧∀(x_6:Int),y_3.1[(0:Nat)]? =some x_6→(↑(List.length (Bl x_3.1 x_3.2++zs)):Int)≠(0:Int)∧((0:Int)≤Int.tmod x_6 (↑(List.length (Bl x_3.1 x_3.2++zs)):Int)∧Int.tmod x_6 (↑(List.length (Bl x_3.1 x_3.2++zs)):Int)<(↑(List.length (Bl x_3.1 x_3.2++zs)):Int))∧Int.toNat (Int.tmod x_6 (↑(List.length (Bl x_3.1 x_3.2++zs)):Int))<List.length (Bl x_3.1 x_3.2++zs)∧∀(x_7:List UInt8),(Bl x_3.1 x_3.2++zs)[Int.toNat (Int.tmod x_6 (↑(List.length (Bl x_3.1 x_3.2++zs)):Int))]? =some x_7→cA JO [nds y.1,.str #[(102:UInt8),(114:UInt8),(101:UInt8),(115:UInt8),(104:UInt8)].toList] fun x_8 y_4=>cA GY [nds y.1,.int .i64 y.2,.str x_7,.str (Ea x_8.1 x_8.2)] fun x_9 y_5=>cA GY [AY (BZ x_9),.int .i64 y.2,.str (Ea x_8.1 x_8.2),.str x_7] fun x_10 y_6=>cA Lj [nds y.1,.int .i64 y.2] fun x_11 y_7=>eA (RY x) [nds y.1,.int .i64 y.2,.str x_7,.str (Ea x_8.1 x_8.2),AY (BZ x_9),.bool (CW x_9),AY (BZ x_10),.bool (CW x_10),AV.sl true 0 1 (List UInt8) Ai (CE x_11.1 x_11.2),.int .i64 (0:Int)]∧∀(i:List Nd×Int×List UInt8×Int),nlI x i.1 i.2.1 i.2.2.1 i.2.2.2→Aa (decide (i.2.2.2<(↑(List.length (CE i.1 i.2.1)):Int))) (((0:Int)≤i.2.2.2∧i.2.2.2<(↑(List.length (CE i.1 i.2.1)):Int))∧Int.toNat i.2.2.2<List.length (CE i.1 i.2.1)∧∀(x_12:List UInt8),(CE i.1 i.2.1)[Int.toNat i.2.2.2]? =some x_12→cA Gc [nds i.1,.int .i64 i.2.1,.str x_12] fun x_13 y=>Aa (BV x_13.1 x_13.2.1 x_13.2.2==(0:Int)) (rA Hc x [.bool false,.top]) (inR IntKind.i64 (i.2.2.2+(1:Int))∧eN (RY x) i [nds i.1,.int .i64 i.2.1,.str i.2.2.1,.str (toL i.1),AY (BZ (i.1,i.2.1,i.2.2.1,toL i.1)),.bool true,AY i.1,.bool true,AV.sl true 0 1 (List UInt8) Ai (CE i.1 i.2.1),.int .i64 (i.2.2.2+(1:Int))])) (cA Ii [AY i.1,nds i.1] fun x_12 y=>cA DN [AY (BZ (i.1,i.2.1,i.2.2.1,toL i.1))] fun x_13 y=>Aa (treeOk x_13) (cA Gc [AY (BZ (i.1,i.2.1,i.2.2.1,toL i.1)),.int .i64 i.2.1,.str i.2.2.1] fun x_14 y=>Aa (BV x_14.1 x_14.2.1 x_14.2.2==(0:Int)) (cA Gc [AY (BZ (i.1,i.2.1,i.2.2.1,toL i.1)),.int .i64 i.2.1,.str (toL i.1)] fun x_15 y=>cA Gc [nds i.1,.int .i64 i.2.1,.str i.2.2.1] fun x_16 y=>Aa (BV x_15.1 x_15.2.1 x_15.2.2==BV x_16.1 x_16.2.1 x_16.2.2) (cA JR [AY (BZ (i.1,i.2.1,i.2.2.1,toL i.1)),.int .i64 i.2.1] fun x_17 y=>cA JR [nds i.1,.int .i64 i.2.1] fun x_18 y=>Aa ((↑(List.length (DD x_17.1 x_17.2)):Int)==(↑(List.length (DD x_18.1 x_18.2)):Int)) (cA Dt [nds i.1,.int .i64 i.2.1] fun x_19 y=>cA (Jb ((2:Nat)^(30:Nat))) [nds i.1,.int .i64 i.2.1] fun x_20 y=>rA Hc x [.bool ((↑(List.length (undL x_19.1 x_19.2)):Int)==(↑(List.length (CQ x_20.1 x_20.2)):Int)),.top]) (rA Hc x [.bool false,.top])) (rA Hc x [.bool false,.top])) (rA Hc x [.bool false,.top])) (rA Hc x [.bool false,.top]))))) (fun x=>by kernel_rfl) fun(x:List UInt8) (hx:x.length<2^63)=>(by
 dsimp only[BX,Eb,byL,cA,VC,cur,eA,eN,RY,Bt,nds,Cv,Ae,AY,rA,Nc,Li,MR,Gc,Lj,JO,Hb,Iz,GY,Dt,JR,Hc,MZ,Ml,DN,Jb,Ii,Av,AA,mvL,lnL,mvE,lnE,Bi]
 have hx:x.length<2^63:=hx
 (repeat' first|(with_reducible first|rfl|exact True.intro|apply AL|apply And.intro|((first|apply AB|apply AJ|apply AC|apply AK)<;>intro _))|(apply Az<;>intro _)|apply AI|refine Ag () ?_ ?_|((first|apply AP|apply AO|apply AN|apply AM|apply AH|apply AG|apply AF|apply AE|apply AD)<;>try dsimp only)|apply Ag|(refine Prod.forall.2 ?_;intro _;try dsimp only)|(intro _;try dsimp only))
 all_goals(try(have hN:=b7G (show nlI _ _ _ _ _ by assumption);have hP:=hN.2;have hM:mbP _ _:=b7I hP))
 all_goals(try(have hB:=a3z (show mbP _ _ by assumption);have hL:=VS (show mbP _ _ by assumption)))
 all_goals(try(have hI:=b7D ‹_› ‹_› (show¬(((_:List (List UInt8)).length:Nat):Int)=0 by assumption)))
 all_goals(try(have hP:=b7B (show mbP _ _ by assumption) (show(_:List (List UInt8))[_]? =some _ by assumption)))
 all_goals first
  |rfl
  |omega
  |exact()
  |exact hL.1.1.1
  |exact hL.2 _ ‹_›
  |exact(RX hP).1.1.1
  |exact(RX hP).1.1.2
  |exact(RX hP).2 _ ‹_›
  |exact(a3B hP).1
  |exact(a3B hP).2
  |exact b7J hP
  |exact b7K hP
  |exact a3u hP
  |exact a3x hP
  |exact b7z hP
  |exact b7E hP (by omega)
  |exact b7F ‹_› ‹_›
  |exact absurd ‹_› (b7H ‹_›)
  |exact(a3A ‹_›).1.1
  |(have hq:=(a3A ‹_›).2;have he:((2^30:Nat):Int)=1073741824:=by decide
    omega)
  |(rw[b7A hP];exact beq_self_eq_true _)
  |(exfalso;have hq:=b7v hP;rename treeOk _=false=>hz;exact absurd (hq.symm.trans hz) (by decide))
  |(exfalso;have hq:=a3w hP;rename BV _ _ _≠0=>hz;exact hz hq)
  |(exfalso;have hq:=a3v hP;rename BV _ _ _≠BV _ _ _=>hz;exact hz hq)
  |(exfalso;have hq:=b7y hP;omega)
  |(have hE:=a3y ‹_›;rw[hE.2.2];rfl)
  |(exfalso;have hE:=b7C ‹_›;omega)
  |(simp;done)
  |((try simp only[AR,Bb]);omega)
  |skip)
end Go.My
end
section
set_option linter.unusedVariables false
set_option linter.unusedSimpArgs false
namespace Go.Eng
open Go.ChangeShapes Go.WideShapes Go.ChangeAt Go.RowKit
theorem b7M{Z Z' A':FP}{w w':World}(h:After Z w (fun _=>False) Z' w' A'):Below w.heap.size w w':=
 ⟨h.os,h.tape,h.output,h.size,fun b hb=>(h.old b hb (fun x=>x)).1⟩
theorem a3C{H:Type}{enc:TypeId×Value→H}{P:Program}(hl:laidOutB P=true){W W':World}(hb:Below W.heap.size W W'):
 ∀(ts:List TypeId) (vs:List Value) (ds:List (DataW H)) (ps:List MemPlace),ts.all (fun t=>P.readableRec t&&decide (t<P.types.size))=true→
 DataW.TrodAll enc P W 0 (fun _=>true) true ts vs ds ps→(∀x∈ps,x.block<W.heap.size)→DataW.TrodAll enc P W' 0 (fun b=>decide (b<W.heap.size)) true ts vs ds ps
 |[],[],[],ps,ht,h,hp=>h
 |t::ts,v::vs,d::ds,ps,ht,h,hp=>by
  obtain⟨p,q,h1,h2,rfl⟩:=h
  simp only[List.all_cons,Bool.and_eq_true,decide_eq_true_eq] at ht
  exact⟨p,q,Below.trod hl ht.1.1 ht.1.2 h1 hb (fun x hx=>hp x (List.mem_append_left _ hx)),a3C hl hb ts vs ds q ht.2 h2 (fun x hx=>hp x (List.mem_append_right _ hx)),rfl⟩
 |[],_::_,_,_,ht,h,hp=>h.elim
 |[],[],_::_,_,ht,h,hp=>h.elim
 |_::_,[],_,_,ht,h,hp=>h.elim
 |_::_,_::_,[],_,ht,h,hp=>h.elim
theorem b7N{H:Type}{enc:TypeId×Value→H}{P:Program}{f:Func}{s:ChangeSpec}{W W':World}{args:Array Value}{ds gs:List (DataW H)}{before:List MemPlace}{tb:TypeId}
 (hl:laidOutB P=true) (ht:f.params.toList.all (fun t=>P.readableRec t&&decide (t<P.types.size))=true) (hv:s.vars=[])
 (hs:s.fn H ds= {results:=[.lit (.bool true)],args:=ds}) (hr:f.resultTypes= #[tb]) (htb:P.underlying tb=some .bool)
 (hW:DataW.Whole enc P f.params.toList s.vars false W args.toList ds gs before) (hb:Below W.heap.size W W'):s.post enc P f false true false false W args (.bool true) W':=by
 have hW0:=hW
 obtain⟨p,q,hA,hV,rfl,hfz,hnd⟩:=hW
 rw[hv] at hV
 obtain⟨rfl,rfl⟩:=trodVars_none hV
 refine⟨ds,[],p++[],[],p,[],hW0,?_,?_,?_,hb.frame _,fun h=>by cases h⟩
 ·simp only[List.append_nil]
  rw[hs,hr]
  exact trodAll_mk1 (shut_bool htb _)
 ·simp only[List.append_nil]
  rw[hs]
  exact a3C hl hb _ _ _ _ ht hA (fun x hx=>by simpa using hW0.lt x (by simpa using hx))
 ·simp only[List.append_nil]
  rw[hs,hv]
  rfl
def b7O(X:Type)(args:X→List AV)(pre:X→Prop)(n:Nat):Sig:=
 {X:=X,args:=args,pre:=pre,Y:=Unit,post:=fun _ _=>True,res:=fun _ _=> .bool true,outs:=fun _ _=>List.replicate n .top,keep:=false}
theorem b7P{H:Type}{enc:TypeId×Value→H}{P:Program}{fi:FuncId}{f:Func}{s:ChangeSpec}{W:World}{args:Array Value}{ds gs:List (DataW H)}{before:List MemPlace}{tb:TypeId}
 {X:Type} {azs:X→List AV} {pre:X→Prop} {n:Nat} {G:GInv} (hc:Al G P fi (b7O X azs pre n)) (hG:G.p (Old W) W)
 (hl:laidOutB P=true) (ht:f.params.toList.all (fun t=>P.readableRec t&&decide (t<P.types.size))=true) (hv:s.vars=[])
 (hs:s.fn H ds= {results:=[.lit (.bool true)],args:=ds}) (hr:f.resultTypes= #[tb]) (htb:P.underlying tb=some .bool)
 (hW:DataW.Whole enc P f.params.toList s.vars false W args.toList ds gs before)
 (ho:∃x,pre x∧AX (Old W) W (azs x) args.toList (fun _=>False)):
 Calls P fi args W fun e W'=>∃v,e= .returned v∧s.post enc P f false true false false W args v W':=by
 obtain⟨x,hx,hrel⟩:=ho
 refine(hc.2 x hx (Old W) W args.toList _ hG hrel (fun b h=>h.elim) trivial).mono fun e W' h=> ?_
 obtain⟨y,v,Z',A',_,rfl,hr2,hafter⟩:=h
 simp only[AX] at hr2
 obtain⟨v',us,A1,A2,e1,_,h1,_⟩:=hr2
 simp only[List.cons.injEq] at e1
 obtain⟨rfl,_⟩:=e1
 have:v= .bool true:=by
  have h1:Aj Z' W' (.bool true) v A1:=h1
  simp only[Aj] at h1;exact h1.1
 subst this
 exact⟨_,rfl,b7N hl ht hv hs hr htb hW (b7M hafter)⟩
end Go.Eng
end
section
set_option linter.unusedVariables false
set_option linter.unusedSimpArgs false
namespace Go.Eng
open Go.ChangeShapes Go.WideShapes Go.ChangeAt Go.RowKit
theorem b7Q{H:Type}{enc:TypeId×Value→H}{P:Program}{t:TypeId}{α:Type}{f:α→AV}{good:α→Prop}(hO:IC P t (fun x=>[f x]) good){W:World}{v:Value}(hc:Cr v)
 {d:DataW H} {ps:List MemPlace} (h:DataW.Trod enc P W 0 (fun _=>true) true t v d ps):∃x,good x∧Aj (Old W) W (f x) v (fun _=>False):=by
 obtain⟨fuel,hf⟩:=h
 rw[Lt hc] at hf
 obtain⟨x,hg,hr⟩:=hO enc W _ _ fuel _ _ hf
 exact⟨x,hg,QI.1 hr⟩
theorem b7R{H:Type}{enc:TypeId×Value→H}{P:Program}{t e:TypeId}{α:Type}{f:α→AV}{good:α→Prop}(ht:P.underlying t=some (.slice e))(hO:IC P t (fun x=>[f x]) good)
 {W:World} {r:Reach} {base:Nat} {v:Value} (hv:Value.okWide P W r base t v)
 {d:DataW H} {ps:List MemPlace} (h:DataW.Trod enc P W 0 (fun _=>true) true t v d ps):∃x,good x∧Aj (Old W) W (f x) v (fun _=>False):=
 b7Q hO (by obtain⟨a,l,c,rfl⟩:=okWide_slice ht hv;trivial) h
theorem b7S{Z:FP}{w:World}:AX Z w [] [] (fun _=>False):=⟨rfl,AQ⟩
end Go.Eng
end
section
set_option linter.unusedVariables false
set_option maxRecDepth 100000
namespace Go.My
open Go.Eng Go.Proofs
variable {G:GInv}
theorem opens_mapP{P:Program}{t:TypeId}{α β:Type}{f:α→List AV}{g:β→List AV}{p:α→Prop}{q:β→Prop}(m:α→β)(ho:IC P t f p)(hf:∀x,p x→f x=g (m x))(hg:∀x,p x→q (m x)):IC P t g q:=by
 intro H enc w spare held fuel cs y h
 obtain⟨x,hx,hr⟩:=ho enc w _ _ fuel _ _ h
 exact⟨m x,hg x hx,by rw[←hf x hx];exact hr⟩
theorem b7T:IC Tryz.prog 5 byA (fun _=>True):=
 opens_mapP (fun n:Int=>UInt8.ofNat n.toNat) (a9x (k:= .u8) rfl) (fun x h=>by
  have h1:0≤x∧x≤255:=by have h1:IntKind.min .u8≤x:=h.1;have h2:x≤IntKind.max .u8:=h.2;have e1:IntKind.min .u8=0:=rfl;have e2:IntKind.max .u8=255:=rfl;omega
  have:(UInt8.ofNat x.toNat).toNat=x.toNat:=by simp;omega
  rw[Eb,this];congr 2;omega) (fun _ _=>trivial)
theorem b7U:IC Tryz.prog 22 (fun l:List UInt8=>[.sl false 0 1 UInt8 byA l]) (fun l=>l.length<2^63):=
 opens_mapP (fun l=>l) (a9y (e:=5) rfl (by kernel_rfl) (by decide) b7T) (fun _ _=>rfl) (fun _ h=>h.1)
end Go.My
end
