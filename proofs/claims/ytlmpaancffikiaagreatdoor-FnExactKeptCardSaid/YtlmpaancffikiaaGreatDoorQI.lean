/- A part of the proof: the engine and the contracts, joined. -/
import Derived.Test.YtlmpaancffikiaaGreatDoorQH
section
set_option linter.unusedVariables false
set_option linter.unusedSimpArgs false
namespace Go.My
open Go.Eng Go.Proofs
variable {G : GInv}
theorem sAll_st (n : Nat) : Contract G Go.Proofs.Tryz.prog 170 (s_rSt n) := by
  induction n with
  | zero => exact con_0 Tryz.func170 rfl (by decide) (fun x h => by have h1 := h.1.1.2; have h2 := h.2; omega)
  | succ n ih => exact rStS_ok n ih
def s_rB : Sig := { X := ST × Int × Int × Bool × List Nd, args := fun x => [rdG x.1 (xg x)], pre := fun x => okD x.1 (xg x), Y := Int × Int × Int × Bool × List Nd, post := fun x y => nodP x.1.sg (xg x) (blockR x.1.sg) (yS y), res := fun x y => .int .i64 y.1, outs := fun x y => [rdG x.1 (yG y.2)], keep := true }
theorem rB_pre {s : ST} {g : Gs} (h : okD s g) : okD s g ∧ 20 - g.deep ≤ (stN : Int) := by
  have h1 := h.1.2.2.1.1
  exact ⟨h, by unfold stN; omega⟩
theorem rB_ok : Contract G Go.Proofs.Tryz.prog 140 s_rB :=
  have c := rBlk_ok (G := G) stN (sAll_st stN)
  ⟨⟨c.1.1, fun x y hx hy => c.1.2 x y (rB_pre hx) hy⟩, fun x hx => c.2 x (rB_pre hx)⟩
theorem mt_1 {s : ST} {x : Gs} (h : rOk s x) : rOk s (gName s.sg x) ∧ rOk s (gTake s.sg (gName s.sg x) [40]) := ⟨nm_ok h, (tk_ok (nm_ok h)).1⟩
theorem mt_l {s : ST} {x : Gs} {one : Ps → PR} {m : List UInt8} {l : List Int × Gs} (h : okD s x) (hl : resP s.sg (gTake s.sg (gName s.sg x) [40]) (listR s.sg one m (s.sg.length + 1) []) l ∧ l.1.length ≤ 3001) : okD s l.2 ∧ okD s (gTake s.sg l.2 [41]) := by
  have a : okD s (gTake s.sg (gName s.sg x) [40]) := ⟨(mt_1 h.1).2, st_td h⟩
  have b := res_okD a hl.1
  have c := tk_ok (m := [41]) b.1
  exact ⟨b, c.1, by rw [c.2]; exact b.2⟩
theorem mt_all {s : ST} {x : Gs} {b : Bool} {l : List Int × Gs} {q : Int × Gs} (h : okD s x) (hl : resP s.sg (gTake s.sg (gName s.sg x) [40]) (listR s.sg (nameR s.sg) [41] (s.sg.length + 1) []) l ∧ l.1.length ≤ 3001)
    (hq : nodP s.sg (gTake s.sg l.2 [41]) (blockR s.sg) q) : nodP s.sg x (methR s.sg b) (gAddK q.2, gAdd q.2 ⟨20, gNameT s.sg x, l.1 ++ [q.1], b⟩) := meth_all h.1.1 h.1.2 hl.1 hl.2 hq
def clJ (sg : List Sg) (x y : Gs) (ks : List Int) (N : Nat) : Prop := manI sg (mem0R sg) [125] (gTake sg (gName sg (gAdv x)) [123]) y ks N ∧ y.deep = x.deep
theorem cl_0 {s : ST} {x : Gs} (h : okN s x) : clJ s.sg x (gTake s.sg (gName s.sg (gAdv x)) [123]) [] (s.sg.length + 1) := by
  have a := okN_adv h
  refine ⟨man_0 (tk_ok (nm_ok a.1)).1.2, ?_⟩
  rw [(tk_ok (nm_ok a.1)).2, (nm_dp a.1).1]; rfl
theorem cl_ok {s : ST} {x y : Gs} {ks : List Int} {N : Nat} (h : okN s x) (hj : clJ s.sg x y ks N) : okD s y := ⟨⟨h.1.1.1, hj.1.1.1⟩, by have := hj.2; have := h.1.2; omega⟩
theorem cl_ks {s : ST} {x y : Gs} {ks : List Int} {N : Nat} (h : okN s x) (hj : clJ s.sg x y ks N) : ks.length ≤ 3001 := by
  have := hj.1.2.2.1; have := hj.1.1.1.1; have := h.1.1.1.1; omega
theorem cl_go {s : ST} {x y : Gs} {ks : List Int} {N : Nat} {b : Bool} {z : Int × Gs} (hj : clJ s.sg x y ks N) (hb : y.bad = false) (hq : isG s.sg y 4 [125] = false) (hz : nodP s.sg y (mem0R s.sg b) z) (e : b = ((pkG s.sg y 0).blank && decide (0 < (ks.length : Int)))) :
    clJ s.sg x z.2 (ks ++ [z.1]) (N - 1) ∧ N - 1 < N := by
  subst e
  obtain ⟨a, b⟩ := ex_pred (man_go hj.1 hb hq (z := z) (by
    have : decide (0 < ks.length) = decide (0 < (ks.length : Int)) := by simp
    rw [this]; exact hz))
  have := (nod_dp hz).1
  exact ⟨⟨a, by have := hj.2; omega⟩, b⟩
theorem cl_c {s : ST} {x y : Gs} {ks : List Int} {N : Nat} {b : Bool} (h : okN s x) (hj : clJ s.sg x y ks N) : nodB ⟨21, gNameT s.sg (gAdv x), ks, b⟩ := nodB1 (nameT_len h.1.1.1) (by have := cl_ks h hj; omega)
theorem cl_e {s : ST} {x y : Gs} {ks : List Int} {N : Nat} {b : Bool} (h : okN s x) (hj : clJ s.sg x y ks N) (hy : y.bad = true ∨ isG s.sg y 4 [125] = true) :
    nodP s.sg (gAdv x) (clsR s.sg b) (gCloseK s.sg y [125], gClose s.sg y [125] ⟨21, gNameT s.sg (gAdv x), ks, b⟩) := by
  refine cls_all (l := (ks, y)) h.1.1.1 (okN_adv h).1.2 ?_ (cl_ks h hj)
  rcases hy with hy | hy
  · exact man_bad hj.1 hy
  · exact man_end hj.1 hy
def s_rClNo : Sig := { X := ST × Int × Int × Bool × List Nd × Bool, args := fun x => [rdG x.1 (xh x), .bool x.2.2.2.2.2], pre := fun x => False, Y := Int × Int × Int × Bool × List Nd, post := fun x y => True, res := fun x y => .int .i64 y.1, outs := fun x y => [rdG x.1 (yG y.2), .top], keep := true }
theorem rClNo_ok : Contract G Go.Proofs.Tryz.prog 135 s_rClNo := con_0 Tryz.func135 rfl (by decide) (fun x h => h)
attribute [local irreducible] pE listR callR fnR nodP resP gsOk gTake gClose gAdd gPass gLeaf gSkip gNameN gNameK gAddK gCloseK pkG isG nmG gName gNameT varR retR condR valR blkR stR manyR blockR methR mem0R memR clsR nameR
def s_rMem0  : Sig := { X := ST × Int × Int × Bool × List Nd × Bool, args := fun x => [rdG x.1 (xh x), .bool x.2.2.2.2.2, .bool false], pre := fun x => okD x.1 (xh x) ∧ (xh x).bad = false, Y := Int × Int × Int × Bool × List Nd, post := fun x y => nodP x.1.sg (xh x) (mem0R x.1.sg x.2.2.2.2.2) (yS y), res := fun x y => .int .i64 y.1, outs := fun x y => [rdG x.1 (yG y.2), .top, .top], keep := true }
theorem rMem0_ok  : Contract G Tryz.prog 102 s_rMem0 :=
  vcFun_okP [(103, 0, s_rNext), (132, 0, s_rNote), (133, 0, s_rIsW), (134, 0, s_rVar), (135, 0, s_rClNo), (136, 0, s_rName), (137, 0, s_rTake), (138, 139 + 1, s_rListN), (140, 0, s_rB), (104, 0, s_rAdd)] [(45, ⟨Int,intA⟩)] false (fun x => []) Tryz.func102 rfl (by decide) ⟨rNext_ok, rNote_ok, rIsW_ok, rVar_ok, rClNo_ok, rName_ok, rTake_ok, rListN_ok, rB_ok, rAdd_ok, trivial⟩ (fun (x : ST × Int × Int × Bool × List Nd × Bool) => True ∧ cA s_rNext [rdG x.1 (xh x)] fun x_1 y => bcase ((pkG x_1.1.sg (xg x_1) (0 : Int)).kind == (5 : Int)) (cA s_rNote [rdG x_1.1 (xg x_1), .bool x.2.2.2.2.2] fun x_2 y => rA s_rMem0 x [.int .i64 (gAddK (xh x_2)), rdG x_2.1 (gLeaf x_2.1.sg (xh x_2) (19 : Int) x_2.2.2.2.2.2), .top, .top]) (cA s_rIsW [rdG x_1.1 (xg x_1), .str #[(118 : UInt8), (97 : UInt8), (114 : UInt8)].toList] fun x_2 y => bcase (isG x_2.1.sg (xh x_2) (1 : Int) x_2.2.2.2.2.2) (cA s_rVar [rdG x_2.1 (xh x_2), .bool x.2.2.2.2.2] fun x_3 y => rA s_rMem0 x [.int .i64 y.1, rdG x_3.1 (yG y.2), .top, .top]) (cA s_rName [rdG x_2.1 (xh x_2)] fun x_3 y => cA s_rTake [rdG x_3.1 (gName x_3.1.sg (xg x_3)), .str #[(40 : UInt8)].toList] fun x_4 y => (True ∧ True) ∧ cA s_rListN [rdG x_4.1 (gTake x_4.1.sg (xh x_4) x_4.2.2.2.2.2), .str #[(41 : UInt8)].toList, AV.clo (Fn.yield (139 : Nat)) [AV.al (0 : Nat)]] fun x_5 y => cA s_rTake [rdG x_5.1 (yG y.2), .str #[(41 : UInt8)].toList] fun x_6 y_1 => cA s_rB [rdG x_6.1 (gTake x_6.1.sg (xh x_6) x_6.2.2.2.2.2)] fun x_7 y_2 => ∃ (x_8 : Int), y_2.1 = x_8 ∧ ∃ (zs : List Int), oints [x_8] = oints zs ∧ leafy intA ∧ room (List.length y.1 + List.length zs) (8 : Nat) ∧ cA s_rAdd [rdG x_7.1 (yG y_2.2), .agg [.int .i64 (20 : Int), .str (gNameT x_3.1.sg (xg x_3)), oints (y.1 ++ zs), .bool x.2.2.2.2.2]] fun x_9 y => rA s_rMem0 x [.int .i64 (gAddK (xh x_9)), rdG x_9.1 (gAdd (xh x_9) { kind := x_9.2.2.2.2.2.1, text := x_9.2.2.2.2.2.2.1, kids := x_9.2.2.2.2.2.2.2.1, blank := x_9.2.2.2.2.2.2.2.2 }), .top, .top]))) (fun x => by kernel_rfl) fun (x : ST × Int × Int × Bool × List Nd × Bool) (hx : okD x.1 (xh x) ∧ (xh x).bad = false) => (by
  dsimp only [cA, mbs, ndA_e, oints, onds, rA, rdG, s_rAdd, s_rB, s_rIsW, s_rListN, s_rMem0, s_rName, s_rNext, s_rNote, s_rTake, s_rVar, sgA_e, sgs, hndL, hnd1, mvL, lnL, mvE, lnE]
  obtain ⟨s, p, d, b, ns, e⟩ := x; dsimp only [xg, xh] at hx ⊢
  obtain ⟨hx, hb⟩ := hx
  have hx : okD s ⟨p, d, b, ns⟩ := hx
  (repeat' first | (with_reducible first | rfl | exact True.intro | apply inR_i64 | apply And.intro | ((first | apply bcase_dec | apply bcase_bne | apply bcase_beq | apply bcase_not) <;> intro _)) | (apply bcase_intro <;> intro _) | apply sl_eq | refine ex_flip () ?_ ?_ | ((first | apply ex_flip10 | apply ex_flip9 | apply ex_flip8 | apply ex_flip7 | apply ex_flip6 | apply ex_flip5 | apply ex_flip4 | apply ex_flip3 | apply ex_flip2) <;> try dsimp only) | apply ex_flip | (refine Prod.forall.2 ?_; intro _; try dsimp only) | (intro _; try dsimp only))
  all_goals (try dsimp only [xg, xh, yG, yS, iG] at *)
  all_goals (try simp only [gs_eta] at *)
  all_goals first
    | rfl
    | exact hx.1
    | (exfalso; assumption)
    | assumption
    | contradiction
    | exact st_wd hx (by assumption)
    | exact mem0_note hx.1.1 hx.1.2 (by assumption)
    | exact mem0_var hx.1.2 (by assumption) (by assumption) (by assumption)
    | exact (mt_1 hx.1).1
    | exact (mt_1 hx.1).2
    | exact (mt_l hx (by assumption)).1.1
    | exact (mt_l hx (by assumption)).2
    | exact fn_4 hx.1 (by assumption)
    | exact mem0_meth hx.1.2 (by assumption) (by assumption) (mt_all hx (by assumption) (by assumption))
    | (have hq2 := And.right (show resP _ _ _ _ ∧ _ by assumption); (try simp only [room, List.length_append, List.length_cons, List.length_nil]); omega)
    | skip)
def s_rClass  : Sig := { X := ST × Int × Int × Bool × List Nd × Bool, args := fun x => [rdG x.1 (xh x), .bool x.2.2.2.2.2], pre := fun x => okN x.1 (xh x), Y := Int × Int × Int × Bool × List Nd, post := fun x y => nodP x.1.sg (gAdv (xh x)) (clsR x.1.sg x.2.2.2.2.2) (yS y), res := fun x y => .int .i64 y.1, outs := fun x y => [rdG x.1 (yG y.2), .top], keep := true }
def i_rClass  (x : ST × Int × Int × Bool × List Nd × Bool) : LS := { ι := Int × Int × Bool × List Nd × List Int × Nat, inv := fun i => clJ x.1.sg (xh x) (iG i) i.2.2.2.2.1 i.2.2.2.2.2, regs := fun i => [(0, rdG x.1 (iG i)), (1, .bool x.2.2.2.2.2), (5, .str (gNameT x.1.sg (gAdv (xh x)))), (6, oints i.2.2.2.2.1)], als := [], meas := fun i => i.2.2.2.2.2 }
theorem rClass_ok  : Contract G Tryz.prog 135 s_rClass :=
  vcFun_okP [(162, 0, s_rPass), (136, 0, s_rName), (137, 0, s_rTake), (166, 0, s_rIs), (103, 0, s_rNext), (102, 0, s_rMem0), (165, 0, s_rClose)] [(45, ⟨Int,intA⟩)] false (fun x => [(5, i_rClass  x)]) Tryz.func135 rfl (by decide) ⟨rPass_ok, rName_ok, rTake_ok, rIs_ok, rNext_ok, rMem0_ok, rClose_ok, trivial⟩ (fun (x : ST × Int × Int × Bool × List Nd × Bool) => True ∧ cA s_rPass [rdG x.1 (xh x)] fun x_1 y => cA s_rName [rdG x_1.1 (gPass (xg x_1))] fun x_2 y => cA s_rTake [rdG x_2.1 (gName x_2.1.sg (xg x_2)), .str #[(123 : UInt8)].toList] fun x_3 y => eA (i_rClass x) [rdG x_3.1 (gTake x_3.1.sg (xh x_3) x_3.2.2.2.2.2), .bool x.2.2.2.2.2, .str (gNameT x_2.1.sg (xg x_2)), .nil] ∧ ∀ (i : Int × Int × Bool × List Nd × List Int × Nat), clJ x.1.sg (xh x) (iG i) i.2.2.2.2.1 i.2.2.2.2.2 → bcase (!(iG i).bad) (cA s_rIs [rdG x.1 (iG i), .str #[(125 : UInt8)].toList] fun x_4 y => bcase (!isG x_4.1.sg (xh x_4) (4 : Int) x_4.2.2.2.2.2) (cA s_rNext [rdG x_4.1 (xh x_4)] fun x_5 y => bcase (pkG x_5.1.sg (xg x_5) (0 : Int)).blank (cA s_rMem0 [rdG x_5.1 (xg x_5), .bool (decide ((↑(List.length i.2.2.2.2.1) : Int) > (0 : Int))), .bool false] fun x_6 y => ∃ (x_7 : Int), y.1 = x_7 ∧ ∃ (zs : List Int), oints [x_7] = oints zs ∧ leafy intA ∧ room (List.length i.2.2.2.2.1 + List.length zs) (8 : Nat) ∧ eN (i_rClass x) i [rdG x_6.1 (yG y.2), .bool x.2.2.2.2.2, .str (gNameT x.1.sg (gAdv (xh x))), oints (i.2.2.2.2.1 ++ zs)]) (cA s_rMem0 [rdG x_5.1 (xg x_5), .bool false, .bool false] fun x_6 y => ∃ (x_7 : Int), y.1 = x_7 ∧ ∃ (zs : List Int), oints [x_7] = oints zs ∧ leafy intA ∧ room (List.length i.2.2.2.2.1 + List.length zs) (8 : Nat) ∧ eN (i_rClass x) i [rdG x_6.1 (yG y.2), .bool x.2.2.2.2.2, .str (gNameT x.1.sg (gAdv (xh x))), oints (i.2.2.2.2.1 ++ zs)])) (cA s_rClose [rdG x_4.1 (xh x_4), .str #[(125 : UInt8)].toList, .agg [.int .i64 (21 : Int), .str (gNameT x.1.sg (gAdv (xh x))), oints i.2.2.2.2.1, .bool x.2.2.2.2.2]] fun x_5 y => rA s_rClass x [.int .i64 (gCloseK x_5.1.sg (xh x_5) x_5.2.2.2.2.2.1), rdG x_5.1 (gClose x_5.1.sg (xh x_5) x_5.2.2.2.2.2.1 { kind := x_5.2.2.2.2.2.2.1, text := x_5.2.2.2.2.2.2.2.1, kids := x_5.2.2.2.2.2.2.2.2.1, blank := x_5.2.2.2.2.2.2.2.2.2 }), .top])) (cA s_rClose [rdG x.1 (iG i), .str #[(125 : UInt8)].toList, .agg [.int .i64 (21 : Int), .str (gNameT x.1.sg (gAdv (xh x))), oints i.2.2.2.2.1, .bool x.2.2.2.2.2]] fun x_4 y => rA s_rClass x [.int .i64 (gCloseK x_4.1.sg (xh x_4) x_4.2.2.2.2.2.1), rdG x_4.1 (gClose x_4.1.sg (xh x_4) x_4.2.2.2.2.2.1 { kind := x_4.2.2.2.2.2.2.1, text := x_4.2.2.2.2.2.2.2.1, kids := x_4.2.2.2.2.2.2.2.2.1, blank := x_4.2.2.2.2.2.2.2.2.2 }), .top])) (fun x => by kernel_rfl) fun (x : ST × Int × Int × Bool × List Nd × Bool) (hx : okN x.1 (xh x)) => (by
  dsimp only [cA, eA, eN, i_rClass, mbs, ndA_e, oints, onds, rA, rdG, s_rClass, s_rClose, s_rIs, s_rMem0, s_rName, s_rNext, s_rPass, s_rTake, sgA_e, sgs, hndL, hnd1, mvL, lnL, mvE, lnE, sndL]
  obtain ⟨s, p, d, b, ns, e⟩ := x; dsimp only [xg, xh] at hx ⊢
  have hx : okN s ⟨p, d, b, ns⟩ := hx
  have hp := pass_g hx.2.1
  obtain ⟨h1, h2⟩ := okN_adv hx
  (repeat' first | (with_reducible first | rfl | exact True.intro | apply inR_i64 | apply And.intro | ((first | apply bcase_dec | apply bcase_bne | apply bcase_beq | apply bcase_not) <;> intro _)) | (apply bcase_intro <;> intro _) | apply sl_eq | refine ex_flip () ?_ ?_ | ((first | apply ex_flip10 | apply ex_flip9 | apply ex_flip8 | apply ex_flip7 | apply ex_flip6 | apply ex_flip5 | apply ex_flip4 | apply ex_flip3 | apply ex_flip2) <;> try dsimp only) | apply ex_flip | (refine Prod.forall.2 ?_; intro _; try dsimp only) | (intro _; try dsimp only))
  all_goals (try dsimp only [xg, xh, yG, yS, iG] at *)
  all_goals (try simp only [gs_eta, hp] at *)
  all_goals first
    | (show Nat; skip)
    | rfl
    | exact hx.1.1
    | exact h1
    | exact nm_ok h1
    | exact cl_0 hx
    | assumption
    | exact cl_ok hx (by assumption)
    | exact (cl_ok hx (by assumption)).1
    | exact cl_c hx (by assumption)
    | exact (cl_go (by assumption) (by assumption) (by assumption) (by assumption) (bl_t (by assumption))).1
    | exact (cl_go (by assumption) (by assumption) (by assumption) (by assumption) (bl_f (by assumption))).1
    | exact cl_e hx (by assumption) (.inl (by assumption))
    | exact cl_e hx (by assumption) (.inr (by assumption))
    | (have hq := cl_ks hx (show clJ _ _ _ _ _ by assumption); (try simp only [room, List.length_append, List.length_cons, List.length_nil]); omega)
    | skip
  all_goals first
    | exact (cl_go (by assumption) (by assumption) (by assumption) (by assumption) (bl_t (by assumption))).2
    | exact (cl_go (by assumption) (by assumption) (by assumption) (by assumption) (bl_f (by assumption))).2
    | skip)
def s_rMem  : Sig := { X := ST × Int × Int × Bool × List Nd × Bool, args := fun x => [rdG x.1 (xh x), .bool x.2.2.2.2.2, .bool true], pre := fun x => okD x.1 (xh x) ∧ (xh x).bad = false, Y := Int × Int × Int × Bool × List Nd, post := fun x y => nodP x.1.sg (xh x) (memR x.1.sg x.2.2.2.2.2) (yS y), res := fun x y => .int .i64 y.1, outs := fun x y => [rdG x.1 (yG y.2), .top, .top], keep := true }
theorem rMem_ok  : Contract G Tryz.prog 102 s_rMem :=
  vcFun_okP [(103, 0, s_rNext), (132, 0, s_rNote), (133, 0, s_rIsW), (134, 0, s_rVar), (135, 0, s_rClass), (136, 0, s_rName), (137, 0, s_rTake), (138, 139 + 1, s_rListN), (140, 0, s_rB), (104, 0, s_rAdd)] [(45, ⟨Int,intA⟩)] false (fun x => []) Tryz.func102 rfl (by decide) ⟨rNext_ok, rNote_ok, rIsW_ok, rVar_ok, rClass_ok, rName_ok, rTake_ok, rListN_ok, rB_ok, rAdd_ok, trivial⟩ (fun (x : ST × Int × Int × Bool × List Nd × Bool) => True ∧ cA s_rNext [rdG x.1 (xh x)] fun x_1 y => bcase ((pkG x_1.1.sg (xg x_1) (0 : Int)).kind == (5 : Int)) (cA s_rNote [rdG x_1.1 (xg x_1), .bool x.2.2.2.2.2] fun x_2 y => rA s_rMem x [.int .i64 (gAddK (xh x_2)), rdG x_2.1 (gLeaf x_2.1.sg (xh x_2) (19 : Int) x_2.2.2.2.2.2), .top, .top]) (cA s_rIsW [rdG x_1.1 (xg x_1), .str #[(118 : UInt8), (97 : UInt8), (114 : UInt8)].toList] fun x_2 y => bcase (isG x_2.1.sg (xh x_2) (1 : Int) x_2.2.2.2.2.2) (cA s_rVar [rdG x_2.1 (xh x_2), .bool x.2.2.2.2.2] fun x_3 y => rA s_rMem x [.int .i64 y.1, rdG x_3.1 (yG y.2), .top, .top]) (cA s_rIsW [rdG x_2.1 (xh x_2), .str #[(99 : UInt8), (108 : UInt8), (97 : UInt8), (115 : UInt8), (115 : UInt8)].toList] fun x_3 y => bcase (isG x_3.1.sg (xh x_3) (1 : Int) x_3.2.2.2.2.2) (cA s_rClass [rdG x_3.1 (xh x_3), .bool x.2.2.2.2.2] fun x_4 y => rA s_rMem x [.int .i64 y.1, rdG x_4.1 (yG y.2), .top, .top]) (cA s_rName [rdG x_3.1 (xh x_3)] fun x_4 y => cA s_rTake [rdG x_4.1 (gName x_4.1.sg (xg x_4)), .str #[(40 : UInt8)].toList] fun x_5 y => (True ∧ True) ∧ cA s_rListN [rdG x_5.1 (gTake x_5.1.sg (xh x_5) x_5.2.2.2.2.2), .str #[(41 : UInt8)].toList, AV.clo (Fn.yield (139 : Nat)) [AV.al (0 : Nat)]] fun x_6 y => cA s_rTake [rdG x_6.1 (yG y.2), .str #[(41 : UInt8)].toList] fun x_7 y_1 => cA s_rB [rdG x_7.1 (gTake x_7.1.sg (xh x_7) x_7.2.2.2.2.2)] fun x_8 y_2 => ∃ (x_9 : Int), y_2.1 = x_9 ∧ ∃ (zs : List Int), oints [x_9] = oints zs ∧ leafy intA ∧ room (List.length y.1 + List.length zs) (8 : Nat) ∧ cA s_rAdd [rdG x_8.1 (yG y_2.2), .agg [.int .i64 (20 : Int), .str (gNameT x_4.1.sg (xg x_4)), oints (y.1 ++ zs), .bool x.2.2.2.2.2]] fun x_10 y => rA s_rMem x [.int .i64 (gAddK (xh x_10)), rdG x_10.1 (gAdd (xh x_10) { kind := x_10.2.2.2.2.2.1, text := x_10.2.2.2.2.2.2.1, kids := x_10.2.2.2.2.2.2.2.1, blank := x_10.2.2.2.2.2.2.2.2 }), .top, .top])))) (fun x => by kernel_rfl) fun (x : ST × Int × Int × Bool × List Nd × Bool) (hx : okD x.1 (xh x) ∧ (xh x).bad = false) => (by
  dsimp only [cA, mbs, ndA_e, oints, onds, rA, rdG, s_rAdd, s_rB, s_rClass, s_rIsW, s_rListN, s_rMem, s_rName, s_rNext, s_rNote, s_rTake, s_rVar, sgA_e, sgs, hndL, hnd1, mvL, lnL, mvE, lnE]
  obtain ⟨s, p, d, b, ns, e⟩ := x; dsimp only [xg, xh] at hx ⊢
  obtain ⟨hx, hb⟩ := hx
  have hx : okD s ⟨p, d, b, ns⟩ := hx
  (repeat' first | (with_reducible first | rfl | exact True.intro | apply inR_i64 | apply And.intro | ((first | apply bcase_dec | apply bcase_bne | apply bcase_beq | apply bcase_not) <;> intro _)) | (apply bcase_intro <;> intro _) | apply sl_eq | refine ex_flip () ?_ ?_ | ((first | apply ex_flip10 | apply ex_flip9 | apply ex_flip8 | apply ex_flip7 | apply ex_flip6 | apply ex_flip5 | apply ex_flip4 | apply ex_flip3 | apply ex_flip2) <;> try dsimp only) | apply ex_flip | (refine Prod.forall.2 ?_; intro _; try dsimp only) | (intro _; try dsimp only))
  all_goals (try dsimp only [xg, xh, yG, yS, iG] at *)
  all_goals (try simp only [gs_eta] at *)
  all_goals first
    | rfl
    | exact hx.1
    | (exfalso; assumption)
    | assumption
    | contradiction
    | exact st_wd hx (by assumption)
    | exact mem_note hx.1.1 hx.1.2 (by assumption)
    | exact mem_var hx.1.2 (by assumption) (by assumption) (by assumption)
    | exact mem_cls hx.1.2 (by assumption) (by assumption) (by assumption) (by assumption)
    | exact (mt_1 hx.1).1
    | exact (mt_1 hx.1).2
    | exact (mt_l hx (by assumption)).1.1
    | exact (mt_l hx (by assumption)).2
    | exact fn_4 hx.1 (by assumption)
    | exact mem_meth hx.1.2 (by assumption) (by assumption) (by assumption) (mt_all hx (by assumption) (by assumption))
    | (have hq2 := And.right (show resP _ _ _ _ ∧ _ by assumption); (try simp only [room, List.length_append, List.length_cons, List.length_nil]); omega)
    | skip)
end Go.My
end
section
set_option linter.unusedVariables false
set_option linter.unusedSimpArgs false
namespace Go.My
open Go.Eng
def sgnI (t : List UInt8) (i br : Int) (l : List Sg) (n : Nat) : Prop :=
  (0 ≤ i ∧ i ≤ t.length) ∧ (0 ≤ br ∧ br ≤ i) ∧ (l.length : Int) ≤ i ∧ (t.length : Int) - i < n ∧ sgnF t (t.length + 1) 0 0 = (sgnF t n i br).map (l ++ ·)
theorem sgnI_0 {t : List UInt8} : sgnI t 0 0 [] (t.length + 1) := by
  refine ⟨by omega, by omega, by simp, by simp; omega, ?_⟩
  cases sgnF t (t.length + 1) 0 0 <;> simp
theorem sgnF_at {t : List UInt8} {n : Nat} {i br : Int} {c : UInt8} (hc : t[i.toNat]? = some c) : sgnF t (n + 1) i br = if c.toNat = 32 then sgnF t n (i + 1) br
      else if c.toNat = 10 then sgnF t n (i + 1) (br + 1)
      else if (sgAt (t.drop i.toNat)).ok then (sgnF t n (i + (sgAt (t.drop i.toNat)).size) 0).map (⟨(sgAt (t.drop i.toNat)).kind, (sgAt (t.drop i.toNat)).text, i, decide (br > 1)⟩ :: ·)
      else none := by rw [sgnF, hc]
theorem sgnI_pos {t : List UInt8} {i br : Int} {l : List Sg} {n : Nat} (h : sgnI t i br l n) (hi : i < t.length) : ∃ m, n = m + 1 := by
  obtain ⟨h1, h2, h3, h4, h5⟩ := h
  match n with
  | 0 => omega
  | m + 1 => exact ⟨m, rfl⟩
theorem sgnI_sp {t : List UInt8} {i br : Int} {l : List Sg} {n : Nat} {c : UInt8} (hc : t[i.toNat]? = some c) (h : sgnI t i br l (n + 1)) (hi : i < t.length) (h32 : c.toNat = 32) : sgnI t (i + 1) br l n := by
  obtain ⟨h1, h2, h3, h4, h5⟩ := h
  refine ⟨by omega, by omega, by omega, by omega, ?_⟩
  rw [h5, sgnF_at hc, if_pos h32]
theorem sgnI_nl {t : List UInt8} {i br : Int} {l : List Sg} {n : Nat} {c : UInt8} (hc : t[i.toNat]? = some c) (h : sgnI t i br l (n + 1)) (hi : i < t.length) (h32 : c.toNat = 10) : sgnI t (i + 1) (br + 1) l n := by
  obtain ⟨h1, h2, h3, h4, h5⟩ := h
  refine ⟨by omega, by omega, by omega, by omega, ?_⟩
  rw [h5, sgnF_at hc, if_neg (by omega), if_pos h32]
theorem sgnI_sg {t : List UInt8} {i br : Int} {l : List Sg} {n : Nat} {c : UInt8} (hc : t[i.toNat]? = some c) (h : sgnI t i br l (n + 1)) (hi : i < t.length) (h32 : c.toNat ≠ 32) (h10 : c.toNat ≠ 10)
    (hok : (sgAt (t.drop i.toNat)).ok = true) (hz : 1 ≤ (sgAt (t.drop i.toNat)).size ∧ (sgAt (t.drop i.toNat)).size ≤ t.length - i) :
    sgnI t (i + (sgAt (t.drop i.toNat)).size) 0 (l ++ [⟨(sgAt (t.drop i.toNat)).kind, (sgAt (t.drop i.toNat)).text, i, decide (br > 1)⟩]) n := by
  obtain ⟨h1, h2, h3, h4, h5⟩ := h
  refine ⟨by omega, by omega, by simp; omega, by omega, ?_⟩
  rw [h5, sgnF_at hc, if_neg h32, if_neg h10, if_pos hok]
  cases sgnF t n (i + (sgAt (t.drop i.toNat)).size) 0 <;> simp
theorem sgnI_no {t : List UInt8} {i br : Int} {l : List Sg} {n : Nat} {c : UInt8} (hc : t[i.toNat]? = some c) (h : sgnI t i br l (n + 1)) (hi : i < t.length) (h32 : c.toNat ≠ 32) (h10 : c.toNat ≠ 10)
    (hok : (sgAt (t.drop i.toNat)).ok = false) (hl : ¬ 3000 < t.length) : sgnsOf t = none := by
  rw [sgnsOf, if_neg hl, h.2.2.2.2, sgnF_at hc, if_neg h32, if_neg h10, if_neg (by simp [hok])]; rfl
theorem sgnI_end {t : List UInt8} {i br : Int} {l : List Sg} {n : Nat} (h : sgnI t i br l n) (hi : ¬ i < t.length) (hl : ¬ 3000 < t.length) : sgnsOf t = some l := by
  obtain ⟨h1, h2, h3, h4, h5⟩ := h
  rw [sgnsOf, if_neg hl, h5]
  match n with
  | 0 => omega
  | n + 1 => rw [sgnF, List.getElem?_eq_none (by omega)]; simp
theorem sgnsOf_long {t : List UInt8} (h : 3000 < t.length) : sgnsOf t = none := if_pos h
end Go.My
end
section
set_option linter.unusedVariables false
set_option linter.unusedSimpArgs false
namespace Go.My
open Go.Eng Go.Proofs
variable {G : GInv}
theorem take_ne {p : UInt8 → Bool} {b : UInt8} {s : List UInt8} (h : p b = true) : 1 ≤ ((b :: s).takeWhile p).length := by
  rw [List.takeWhile_cons, if_pos h]; simp
theorem take_le {p : UInt8 → Bool} {s : List UInt8} : (s.takeWhile p).length ≤ s.length := (List.takeWhile_prefix p).length_le
theorem trim_le {s : List UInt8} : (trimR s).length ≤ s.length := by
  unfold trimR
  have := (List.dropWhile_suffix (fun c : UInt8 => decide (c.toNat = 32)) (l := s.reverse)).length_le
  simpa using this
theorem sgAt_ok {s : List UInt8} (h : (sgAt s).ok = true) : 1 ≤ (sgAt s).size ∧ (sgAt s).size ≤ s.length ∧ (sgAt s).text.length ≤ s.length := by
  match s with
  | [] => cases h
  | b :: s =>
    unfold sgAt at h ⊢
    simp only at h ⊢
    split
    · rename_i hb
      have := take_ne (s := s) (p := isInn) (b := b) (by simp [isInn, hb]); have := take_le (p := isInn) (s := b :: s); simp only; omega
    · rename_i hb
      rw [if_neg hb] at h
      split
      · rename_i hb2
        have := take_ne (s := s) (p := isFig) (b := b) hb2; have := take_le (p := isFig) (s := b :: s); simp only; omega
      · rename_i hb2
        rw [if_neg hb2] at h
        split
        · rename_i hb3
          rw [if_pos hb3] at h
          simp only at h ⊢
          unfold quoted at h ⊢
          split at h
          · cases h
          · simp only [List.length_take, List.length_cons] at *; omega
        · rename_i hb3
          rw [if_neg hb3] at h
          split
          · rename_i hb4
            have hb5 : b = 47 := by
              cases s with
              | nil => simp at hb4
              | cons c s => simp at hb4; exact hb4.1
            have h1 := take_ne (s := s) (p := notNl) (b := b) (by subst hb5; rfl); have h2 := take_le (p := notNl) (s := b :: s); have h3 := @trim_le ((b :: s).takeWhile notNl)
            simp only; omega
          · rename_i hb4
            rw [if_neg hb4] at h
            split
            · simp only [List.length_take, List.length_cons]; omega
            · rename_i hb5
              rw [if_neg hb5] at h
              split
              · simp only [List.length_take, List.length_cons]; omega
              · rename_i hb6
                rw [if_neg hb6] at h
                cases h
def sgJ (t : List UInt8) (i br : Int) (l : List Sg) (n : Nat) : Prop := (sgnI t i br l n ∧ ¬ 3000 < t.length) ∧ ∀ e ∈ l, e.text.length ≤ 3000
theorem sgJ_0 {t : List UInt8} (h : ¬ (t.length : Int) > 3000) : sgJ t 0 0 [] (t.length + 1) := ⟨⟨sgnI_0, by omega⟩, by simp⟩
theorem sgJ_n {t : List UInt8} {i br : Int} {l : List Sg} {n : Nat} (h : sgJ t i br l n) : ((0 ≤ i ∧ i ≤ t.length) ∧ (0 ≤ br ∧ br ≤ i) ∧ (l.length : Int) ≤ i) ∧ t.length ≤ 3000 := by
  have := h.1.1; have := h.1.2; exact ⟨⟨h.1.1.1, h.1.1.2.1, h.1.1.2.2.1⟩, by omega⟩
theorem sgJ_sp {t : List UInt8} {i br : Int} {l : List Sg} {n : Nat} {c : UInt8} (hc : t[i.toNat]? = some c) (h : sgJ t i br l n) (hi : i < t.length) (h32 : c.toNat = 32) : sgJ t (i + 1) br l (n - 1) ∧ n - 1 < n := by
  obtain ⟨m, rfl⟩ := sgnI_pos h.1.1 hi
  exact ⟨⟨⟨sgnI_sp hc h.1.1 hi h32, h.1.2⟩, h.2⟩, by omega⟩
theorem sgJ_nl {t : List UInt8} {i br : Int} {l : List Sg} {n : Nat} {c : UInt8} (hc : t[i.toNat]? = some c) (h : sgJ t i br l n) (hi : i < t.length) (h32 : c.toNat = 10) : sgJ t (i + 1) (br + 1) l (n - 1) ∧ n - 1 < n := by
  obtain ⟨m, rfl⟩ := sgnI_pos h.1.1 hi
  exact ⟨⟨⟨sgnI_nl hc h.1.1 hi h32, h.1.2⟩, h.2⟩, by omega⟩
theorem sgJ_sz {t : List UInt8} {i br : Int} {l : List Sg} {n : Nat} (h : sgJ t i br l n) (hok : (sgAt (t.drop i.toNat)).ok = true) : 1 ≤ (sgAt (t.drop i.toNat)).size ∧ (sgAt (t.drop i.toNat)).size ≤ t.length - i ∧ (sgAt (t.drop i.toNat)).text.length ≤ 3000 := by
  have a := sgAt_ok hok
  have b := (sgJ_n h)
  simp only [List.length_drop] at a
  omega
theorem sgJ_sg {t : List UInt8} {i br : Int} {l : List Sg} {n : Nat} {c : UInt8} (hc : t[i.toNat]? = some c) (h : sgJ t i br l n) (hi : i < t.length) (h32 : c.toNat ≠ 32) (h10 : c.toNat ≠ 10)
    (hok : (sgAt (t.drop i.toNat)).ok = true) :
    sgJ t (i + (sgAt (t.drop i.toNat)).size) 0 (l ++ [⟨(sgAt (t.drop i.toNat)).kind, (sgAt (t.drop i.toNat)).text, i, decide (br > 1)⟩]) (n - 1) ∧ n - 1 < n := by
  obtain ⟨m, rfl⟩ := sgnI_pos h.1.1 hi
  have hz := sgJ_sz h hok
  refine ⟨⟨⟨sgnI_sg hc h.1.1 hi h32 h10 hok ⟨hz.1, hz.2.1⟩, h.1.2⟩, ?_⟩, by omega⟩
  intro e he
  rcases List.mem_append.1 he with he | he
  · exact h.2 e he
  · simp at he; subst he; exact hz.2.2
theorem sgJ_no {t : List UInt8} {i br : Int} {l : List Sg} {n : Nat} {c : UInt8} (hc : t[i.toNat]? = some c) (h : sgJ t i br l n) (hi : i < t.length) (h32 : c.toNat ≠ 32) (h10 : c.toNat ≠ 10)
    (hok : (sgAt (t.drop i.toNat)).ok = false) : sgnsOf t = none := by
  obtain ⟨m, rfl⟩ := sgnI_pos h.1.1 hi
  exact sgnI_no hc h.1.1 hi h32 h10 hok h.1.2
def sgQ (t : List UInt8) (l : List Sg) : Prop := (sgnsOf t = some l ∧ sgB l) ∨ (sgnsOf t = none ∧ l = [])
theorem sgJ_end {t : List UInt8} {i br : Int} {l : List Sg} {n : Nat} (h : sgJ t i br l n) (hi : ¬ i < t.length) : (sgnsOf t).isSome = true ∧ sgQ t l := by
  have a := sgnI_end h.1.1 hi h.1.2
  have b := sgJ_n h
  exact ⟨by rw [a]; rfl, .inl ⟨a, by omega, h.2⟩⟩
theorem sgQ_none {t : List UInt8} (h : sgnsOf t = none) : (sgnsOf t).isSome = false ∧ sgQ t [] := ⟨by rw [h]; rfl, .inr ⟨h, rfl⟩⟩
theorem sgQ_long {t : List UInt8} (h : (t.length : Int) > 3000) : sgnsOf t = none := sgnsOf_long (by omega)
theorem ex_st5 {T0 T1 T2 T3 : Type} {p q : ST × T0 × T1 × T2 × T3 → Prop} (a : List Sg) (b : Int) (c : List (Int × Int)) (v0 : T0) (v1 : T1) (v2 : T2) (v3 : T3) (h2 : q (⟨a, b, c⟩, v0, v1, v2, v3)) (h1 : p (⟨a, b, c⟩, v0, v1, v2, v3)) : ∃ x, p x ∧ q x := ⟨_, h1, h2⟩
theorem ex_st6 {T0 T1 T2 T3 T4 : Type} {p q : ST × T0 × T1 × T2 × T3 × T4 → Prop} (a : List Sg) (b : Int) (c : List (Int × Int)) (v0 : T0) (v1 : T1) (v2 : T2) (v3 : T3) (v4 : T4) (h2 : q (⟨a, b, c⟩, v0, v1, v2, v3, v4)) (h1 : p (⟨a, b, c⟩, v0, v1, v2, v3, v4)) : ∃ x, p x ∧ q x := ⟨_, h1, h2⟩
theorem ex_st7 {T0 T1 T2 T3 T4 T5 : Type} {p q : ST × T0 × T1 × T2 × T3 × T4 × T5 → Prop} (a : List Sg) (b : Int) (c : List (Int × Int)) (v0 : T0) (v1 : T1) (v2 : T2) (v3 : T3) (v4 : T4) (v5 : T5) (h2 : q (⟨a, b, c⟩, v0, v1, v2, v3, v4, v5)) (h1 : p (⟨a, b, c⟩, v0, v1, v2, v3, v4, v5)) : ∃ x, p x ∧ q x := ⟨_, h1, h2⟩
theorem ex_st8 {T0 T1 T2 T3 T4 T5 T6 : Type} {p q : ST × T0 × T1 × T2 × T3 × T4 × T5 × T6 → Prop} (a : List Sg) (b : Int) (c : List (Int × Int)) (v0 : T0) (v1 : T1) (v2 : T2) (v3 : T3) (v4 : T4) (v5 : T5) (v6 : T6) (h2 : q (⟨a, b, c⟩, v0, v1, v2, v3, v4, v5, v6)) (h1 : p (⟨a, b, c⟩, v0, v1, v2, v3, v4, v5, v6)) : ∃ x, p x ∧ q x := ⟨_, h1, h2⟩
theorem ex_st9 {T0 T1 T2 T3 T4 T5 T6 T7 : Type} {p q : ST × T0 × T1 × T2 × T3 × T4 × T5 × T6 × T7 → Prop} (a : List Sg) (b : Int) (c : List (Int × Int)) (v0 : T0) (v1 : T1) (v2 : T2) (v3 : T3) (v4 : T4) (v5 : T5) (v6 : T6) (v7 : T7) (h2 : q (⟨a, b, c⟩, v0, v1, v2, v3, v4, v5, v6, v7)) (h1 : p (⟨a, b, c⟩, v0, v1, v2, v3, v4, v5, v6, v7)) : ∃ x, p x ∧ q x := ⟨_, h1, h2⟩
abbrev iF {α β : Type} (i : Int × Int × Bool × List Nd × α × β) : Gs := ⟨i.1, i.2.1, i.2.2.1, i.2.2.2.1⟩
theorem fl_0 {sg : List Sg} : filI sg ⟨0, 0, false, []⟩ [] [] (sg.length + 1) := fil_0
theorem fl_go {sg : List Sg} {y : Gs} {ks : List Int} {ms : List (Int × Int)} {N : Nat} {b : Bool} {z : Int × Gs} (h : filI sg y ks ms N) (hb : y.bad = false) (hl : y.pos < sg.length) (hz : nodP sg y (memR sg b) z) (e : b = ((pkG sg y 0).blank && decide (0 < (ks.length : Int)))) :
    filI sg z.2 (ks ++ [z.1]) (ms ++ [(y.pos, z.2.pos)]) (N - 1) ∧ N - 1 < N := by
  subst e
  exact ex_pred (fil_go h hb hl (z := z) (by
    have : decide (0 < ks.length) = decide (0 < (ks.length : Int)) := by simp
    rw [this]; exact hz))
theorem fl_ok {s : ST} {y : Gs} {ks : List Int} {ms : List (Int × Int)} {N : Nat} (hs : sgB s.sg) (h : filI s.sg y ks ms N) : okD s y := ⟨⟨hs, h.1⟩, by have := h.2.1; omega⟩
theorem fl_ks {sg : List Sg} {y : Gs} {ks : List Int} {ms : List (Int × Int)} {N : Nat} (hs : sgB sg) (h : filI sg y ks ms N) : ks.length ≤ 3001 ∧ ms.length = ks.length ∧ 0 ≤ y.pos ∧ y.pos ≤ sg.length := by
  have h1 := h.1.1; have h2 := hs.1; have h3 := h.2.2.2.2.1; have h4 := h.2.2.2.2.2.2
  omega
def flJ (sg : List Sg) (y : Gs) (ks : List Int) (ms : List (Int × Int)) (N M : Nat) : Prop := filI sg y ks ms N ∧ N < M
theorem flJ_mk {sg : List Sg} {y : Gs} {ks : List Int} {ms : List (Int × Int)} {N M : Nat} (h : filI sg y ks ms N ∧ N < M) : flJ sg y ks ms N M := h
def lFile (x : List Sg × Int) : LS := {
  ι := Int × Int × Bool × List Nd × List Int × List (Int × Int) × Nat, inv := fun i => filI x.1 (iF i) i.2.2.2.2.1 i.2.2.2.2.2.1 i.2.2.2.2.2.2, regs := fun i => [(0, rdG ⟨x.1, x.2, i.2.2.2.2.2.1⟩ (iF i)), (2, oints i.2.2.2.2.1)], als := [], meas := fun i => i.2.2.2.2.2.2,
  sub := fun j => [(100005, { ι := Int × Int × Bool × List Nd × List Int × List (Int × Int) × Nat, inv := fun i => flJ x.1 (iF i) i.2.2.2.2.1 i.2.2.2.2.2.1 i.2.2.2.2.2.2 j.2.2.2.2.2.2, regs := fun i => [(0, rdG ⟨x.1, x.2, i.2.2.2.2.2.1⟩ (iF i)), (2, oints i.2.2.2.2.1)], als := [], meas := fun _ => 0 })] }
attribute [local irreducible] pE listR callR fnR nodP resP gsOk gTake gClose gAdd gPass gLeaf gSkip gNameN gNameK gAddK gCloseK pkG isG nmG gName gNameT varR retR condR valR blkR stR manyR blockR methR mem0R memR clsR nameR filI sgJ
def s_rFile  : Sig := { X := List Sg × Int, args := fun x => [rdG ⟨x.1, x.2, []⟩ ⟨0, 0, false, []⟩], pre := fun x => sgB x.1, Y := Int × Int × Bool × List Nd × List Int × List (Int × Int) × Nat, post := fun x y => filI x.1 (iF y) y.2.2.2.2.1 y.2.2.2.2.2.1 y.2.2.2.2.2.2 ∧ ((iF y).bad = true ∨ ¬ (iF y).pos < x.1.length), res := fun x y => .tup [], outs := fun x y => [rdG ⟨x.1, x.2, y.2.2.2.2.2.1⟩ (outR x.1 (iF y) y.2.2.2.2.1)], keep := true }
theorem rFile_ok  : Contract G Tryz.prog 66 s_rFile :=
  vcFun_okP [(103, 0, s_rNext), (102, 0, s_rMem), (104, 0, s_rAdd)] [(45, ⟨Int,intA⟩), (62, ⟨Int × Int,fun p => [.int .i64 p.1, .int .i64 p.2]⟩)] false (fun x => [(1, lFile x)]) Tryz.func66 rfl (by decide) ⟨rNext_ok, rMem_ok, rAdd_ok, trivial⟩ (fun (x : List Sg × Int) => True ∧ eA (lFile x) [.box 0 [sgs x.1, .int .i64 x.2, .int .i64 (0 : Int), .int .i64 (0 : Int), .bool false, onds [], mbs []], .nil] ∧ ∀ (i : Int × Int × Bool × List Nd × List Int × List (Int × Int) × Nat), filI x.1 (iF i) i.2.2.2.2.1 i.2.2.2.2.2.1 i.2.2.2.2.2.2 → true = true ∧ true = true ∧ bcase (!(iF i).bad) (bcase (decide ((iF i).pos < (↑(List.length x.1) : Int))) (cA s_rNext [.box 0 [sgs x.1, .int .i64 x.2, .int .i64 (iF i).pos, .int .i64 (iF i).deep, .bool (iF i).bad, onds (iF i).nodes, mbs i.2.2.2.2.2.1]] fun x_1 y => bcase (pkG x_1.1.sg (xg x_1) (0 : Int)).blank (cA s_rMem [rdG x_1.1 (xg x_1), .bool (decide ((↑(List.length i.2.2.2.2.1) : Int) > (0 : Int))), .bool true] fun x_2 y => ∃ (x_3 : Int), y.1 = x_3 ∧ ∃ (zs : List Int), oints [x_3] = oints zs ∧ leafy intA ∧ room (List.length i.2.2.2.2.1 + List.length zs) (8 : Nat) ∧ true = true ∧ ((∃ (x_4 : Int × Int), (iF i).pos = x_4.1 ∧ (yG y.2).pos = x_4.2 ∧ ∃ (zs_1 : List (Int × Int)), mbs [x_4] = mbs zs_1 ∧ (leafy fun (p : Int × Int) => [.int .i64 p.1, .int .i64 p.2]) ∧ room (List.length x_2.1.ms + List.length zs_1) (16 : Nat) ∧ true = true ∧ ∃ (i_1 : Int × Int × Bool × List Nd × List Int × List (Int × Int) × Nat), flJ x.1 (iF i_1) i_1.2.2.2.2.1 i_1.2.2.2.2.2.1 i_1.2.2.2.2.2.2 i.2.2.2.2.2.2 ∧ (sgs x_2.1.sg = sgs x.1 ∧ x_2.1.z = x.2 ∧ (yG y.2).pos = (iF i_1).pos ∧ (yG y.2).deep = (iF i_1).deep ∧ (yG y.2).bad = (iF i_1).bad ∧ onds (yG y.2).nodes = onds (iF i_1).nodes ∧ mbs (x_2.1.ms ++ zs_1) = mbs i_1.2.2.2.2.2.1 ∧ oints (i.2.2.2.2.1 ++ zs) = oints i_1.2.2.2.2.1 ∧ True) ∧ True) ∧ (∃ (x_4 : Int × Int), (iF i).pos = x_4.1 ∧ (yG y.2).pos = x_4.2 ∧ ∃ (zs_1 : List (Int × Int)), mbs [x_4] = mbs zs_1 ∧ (leafy fun (p : Int × Int) => [.int .i64 p.1, .int .i64 p.2]) ∧ room (List.length x_2.1.ms + List.length zs_1) (16 : Nat) ∧ true = true ∧ ∃ (i_1 : Int × Int × Bool × List Nd × List Int × List (Int × Int) × Nat), flJ x.1 (iF i_1) i_1.2.2.2.2.1 i_1.2.2.2.2.2.1 i_1.2.2.2.2.2.2 i.2.2.2.2.2.2 ∧ (sgs x_2.1.sg = sgs x.1 ∧ x_2.1.z = x.2 ∧ (yG y.2).pos = (iF i_1).pos ∧ (yG y.2).deep = (iF i_1).deep ∧ (yG y.2).bad = (iF i_1).bad ∧ onds (yG y.2).nodes = onds (iF i_1).nodes ∧ mbs (x_2.1.ms ++ zs_1) = mbs i_1.2.2.2.2.2.1 ∧ oints (i.2.2.2.2.1 ++ zs) = oints i_1.2.2.2.2.1 ∧ True) ∧ True) ∧ (∃ (x_4 : Int × Int), (iF i).pos = x_4.1 ∧ (yG y.2).pos = x_4.2 ∧ ∃ (zs_1 : List (Int × Int)), mbs [x_4] = mbs zs_1 ∧ (leafy fun (p : Int × Int) => [.int .i64 p.1, .int .i64 p.2]) ∧ room (List.length x_2.1.ms + List.length zs_1) (16 : Nat) ∧ true = true ∧ ∃ (i_1 : Int × Int × Bool × List Nd × List Int × List (Int × Int) × Nat), flJ x.1 (iF i_1) i_1.2.2.2.2.1 i_1.2.2.2.2.2.1 i_1.2.2.2.2.2.2 i.2.2.2.2.2.2 ∧ (sgs x_2.1.sg = sgs x.1 ∧ x_2.1.z = x.2 ∧ (yG y.2).pos = (iF i_1).pos ∧ (yG y.2).deep = (iF i_1).deep ∧ (yG y.2).bad = (iF i_1).bad ∧ onds (yG y.2).nodes = onds (iF i_1).nodes ∧ mbs (x_2.1.ms ++ zs_1) = mbs i_1.2.2.2.2.2.1 ∧ oints (i.2.2.2.2.1 ++ zs) = oints i_1.2.2.2.2.1 ∧ True) ∧ True) ∧ ∃ (x_4 : Int × Int), (iF i).pos = x_4.1 ∧ (yG y.2).pos = x_4.2 ∧ ∃ (zs_1 : List (Int × Int)), mbs [x_4] = mbs zs_1 ∧ (leafy fun (p : Int × Int) => [.int .i64 p.1, .int .i64 p.2]) ∧ room (List.length x_2.1.ms + List.length zs_1) (16 : Nat) ∧ true = true ∧ ∃ (i_1 : Int × Int × Bool × List Nd × List Int × List (Int × Int) × Nat), flJ x.1 (iF i_1) i_1.2.2.2.2.1 i_1.2.2.2.2.2.1 i_1.2.2.2.2.2.2 i.2.2.2.2.2.2 ∧ (sgs x_2.1.sg = sgs x.1 ∧ x_2.1.z = x.2 ∧ (yG y.2).pos = (iF i_1).pos ∧ (yG y.2).deep = (iF i_1).deep ∧ (yG y.2).bad = (iF i_1).bad ∧ onds (yG y.2).nodes = onds (iF i_1).nodes ∧ mbs (x_2.1.ms ++ zs_1) = mbs i_1.2.2.2.2.2.1 ∧ oints (i.2.2.2.2.1 ++ zs) = oints i_1.2.2.2.2.1 ∧ True) ∧ True) ∧ ∀ (i_1 : Int × Int × Bool × List Nd × List Int × List (Int × Int) × Nat), flJ x.1 (iF i_1) i_1.2.2.2.2.1 i_1.2.2.2.2.2.1 i_1.2.2.2.2.2.2 i.2.2.2.2.2.2 → eN (lFile x) i [.box 0 [sgs x.1, .int .i64 x.2, .int .i64 (iF i_1).pos, .int .i64 (iF i_1).deep, .bool (iF i_1).bad, onds (iF i_1).nodes, mbs i_1.2.2.2.2.2.1], oints i_1.2.2.2.2.1]) (cA s_rMem [rdG x_1.1 (xg x_1), .bool false, .bool true] fun x_2 y => ∃ (x_3 : Int), y.1 = x_3 ∧ ∃ (zs : List Int), oints [x_3] = oints zs ∧ leafy intA ∧ room (List.length i.2.2.2.2.1 + List.length zs) (8 : Nat) ∧ true = true ∧ ((∃ (x_4 : Int × Int), (iF i).pos = x_4.1 ∧ (yG y.2).pos = x_4.2 ∧ ∃ (zs_1 : List (Int × Int)), mbs [x_4] = mbs zs_1 ∧ (leafy fun (p : Int × Int) => [.int .i64 p.1, .int .i64 p.2]) ∧ room (List.length x_2.1.ms + List.length zs_1) (16 : Nat) ∧ true = true ∧ ∃ (i_1 : Int × Int × Bool × List Nd × List Int × List (Int × Int) × Nat), flJ x.1 (iF i_1) i_1.2.2.2.2.1 i_1.2.2.2.2.2.1 i_1.2.2.2.2.2.2 i.2.2.2.2.2.2 ∧ (sgs x_2.1.sg = sgs x.1 ∧ x_2.1.z = x.2 ∧ (yG y.2).pos = (iF i_1).pos ∧ (yG y.2).deep = (iF i_1).deep ∧ (yG y.2).bad = (iF i_1).bad ∧ onds (yG y.2).nodes = onds (iF i_1).nodes ∧ mbs (x_2.1.ms ++ zs_1) = mbs i_1.2.2.2.2.2.1 ∧ oints (i.2.2.2.2.1 ++ zs) = oints i_1.2.2.2.2.1 ∧ True) ∧ True) ∧ (∃ (x_4 : Int × Int), (iF i).pos = x_4.1 ∧ (yG y.2).pos = x_4.2 ∧ ∃ (zs_1 : List (Int × Int)), mbs [x_4] = mbs zs_1 ∧ (leafy fun (p : Int × Int) => [.int .i64 p.1, .int .i64 p.2]) ∧ room (List.length x_2.1.ms + List.length zs_1) (16 : Nat) ∧ true = true ∧ ∃ (i_1 : Int × Int × Bool × List Nd × List Int × List (Int × Int) × Nat), flJ x.1 (iF i_1) i_1.2.2.2.2.1 i_1.2.2.2.2.2.1 i_1.2.2.2.2.2.2 i.2.2.2.2.2.2 ∧ (sgs x_2.1.sg = sgs x.1 ∧ x_2.1.z = x.2 ∧ (yG y.2).pos = (iF i_1).pos ∧ (yG y.2).deep = (iF i_1).deep ∧ (yG y.2).bad = (iF i_1).bad ∧ onds (yG y.2).nodes = onds (iF i_1).nodes ∧ mbs (x_2.1.ms ++ zs_1) = mbs i_1.2.2.2.2.2.1 ∧ oints (i.2.2.2.2.1 ++ zs) = oints i_1.2.2.2.2.1 ∧ True) ∧ True) ∧ (∃ (x_4 : Int × Int), (iF i).pos = x_4.1 ∧ (yG y.2).pos = x_4.2 ∧ ∃ (zs_1 : List (Int × Int)), mbs [x_4] = mbs zs_1 ∧ (leafy fun (p : Int × Int) => [.int .i64 p.1, .int .i64 p.2]) ∧ room (List.length x_2.1.ms + List.length zs_1) (16 : Nat) ∧ true = true ∧ ∃ (i_1 : Int × Int × Bool × List Nd × List Int × List (Int × Int) × Nat), flJ x.1 (iF i_1) i_1.2.2.2.2.1 i_1.2.2.2.2.2.1 i_1.2.2.2.2.2.2 i.2.2.2.2.2.2 ∧ (sgs x_2.1.sg = sgs x.1 ∧ x_2.1.z = x.2 ∧ (yG y.2).pos = (iF i_1).pos ∧ (yG y.2).deep = (iF i_1).deep ∧ (yG y.2).bad = (iF i_1).bad ∧ onds (yG y.2).nodes = onds (iF i_1).nodes ∧ mbs (x_2.1.ms ++ zs_1) = mbs i_1.2.2.2.2.2.1 ∧ oints (i.2.2.2.2.1 ++ zs) = oints i_1.2.2.2.2.1 ∧ True) ∧ True) ∧ ∃ (x_4 : Int × Int), (iF i).pos = x_4.1 ∧ (yG y.2).pos = x_4.2 ∧ ∃ (zs_1 : List (Int × Int)), mbs [x_4] = mbs zs_1 ∧ (leafy fun (p : Int × Int) => [.int .i64 p.1, .int .i64 p.2]) ∧ room (List.length x_2.1.ms + List.length zs_1) (16 : Nat) ∧ true = true ∧ ∃ (i_1 : Int × Int × Bool × List Nd × List Int × List (Int × Int) × Nat), flJ x.1 (iF i_1) i_1.2.2.2.2.1 i_1.2.2.2.2.2.1 i_1.2.2.2.2.2.2 i.2.2.2.2.2.2 ∧ (sgs x_2.1.sg = sgs x.1 ∧ x_2.1.z = x.2 ∧ (yG y.2).pos = (iF i_1).pos ∧ (yG y.2).deep = (iF i_1).deep ∧ (yG y.2).bad = (iF i_1).bad ∧ onds (yG y.2).nodes = onds (iF i_1).nodes ∧ mbs (x_2.1.ms ++ zs_1) = mbs i_1.2.2.2.2.2.1 ∧ oints (i.2.2.2.2.1 ++ zs) = oints i_1.2.2.2.2.1 ∧ True) ∧ True) ∧ ∀ (i_1 : Int × Int × Bool × List Nd × List Int × List (Int × Int) × Nat), flJ x.1 (iF i_1) i_1.2.2.2.2.1 i_1.2.2.2.2.2.1 i_1.2.2.2.2.2.2 i.2.2.2.2.2.2 → eN (lFile x) i [.box 0 [sgs x.1, .int .i64 x.2, .int .i64 (iF i_1).pos, .int .i64 (iF i_1).deep, .bool (iF i_1).bad, onds (iF i_1).nodes, mbs i_1.2.2.2.2.2.1], oints i_1.2.2.2.2.1])) (cA s_rAdd [.box 0 [sgs x.1, .int .i64 x.2, .int .i64 (iF i).pos, .int .i64 (iF i).deep, .bool (iF i).bad, onds (iF i).nodes, mbs i.2.2.2.2.2.1], .agg [.int .i64 (22 : Int), .str #[].toList, oints i.2.2.2.2.1, .bool false]] fun x_1 y => rA s_rFile x [.tup [], rdG x_1.1 (gAdd (xh x_1) { kind := x_1.2.2.2.2.2.1, text := x_1.2.2.2.2.2.2.1, kids := x_1.2.2.2.2.2.2.2.1, blank := x_1.2.2.2.2.2.2.2.2 })])) (cA s_rAdd [.box 0 [sgs x.1, .int .i64 x.2, .int .i64 (iF i).pos, .int .i64 (iF i).deep, .bool (iF i).bad, onds (iF i).nodes, mbs i.2.2.2.2.2.1], .agg [.int .i64 (22 : Int), .str #[].toList, oints i.2.2.2.2.1, .bool false]] fun x_1 y => rA s_rFile x [.tup [], rdG x_1.1 (gAdd (xh x_1) { kind := x_1.2.2.2.2.2.1, text := x_1.2.2.2.2.2.2.1, kids := x_1.2.2.2.2.2.2.2.1, blank := x_1.2.2.2.2.2.2.2.2 })])) (fun x => by kernel_rfl) fun (x : List Sg × Int) (hx : sgB x.1) => (by
  dsimp only [cA, eA, eN, lFile, mbs, ndA_e, oints, onds, rA, rdG, s_rAdd, s_rFile, s_rMem, s_rNext, sgA_e, sgs, hndL, hnd1, mvL, lnL, mvE, lnE, sndL]
  obtain ⟨sg, z⟩ := x; dsimp only [iF] at hx ⊢
  have hx : sgB sg := hx
  (repeat' first | (apply ex_st9 <;> try dsimp only) | (apply ex_st8 <;> try dsimp only) | (apply ex_st7 <;> try dsimp only) | (apply ex_st6 <;> try dsimp only) | (apply ex_st5 <;> try dsimp only) | (with_reducible first | rfl | exact True.intro | apply inR_i64 | apply And.intro | ((first | apply bcase_dec | apply bcase_bne | apply bcase_beq | apply bcase_not) <;> intro _)) | (apply bcase_intro <;> intro _) | apply sl_eq | refine ex_flip () ?_ ?_ | ((first | apply ex_flip10 | apply ex_flip9 | apply ex_flip8 | apply ex_flip7 | apply ex_flip6 | apply ex_flip5 | apply ex_flip4 | apply ex_flip3 | apply ex_flip2) <;> try dsimp only) | apply ex_flip | (refine Prod.forall.2 ?_; intro _; try dsimp only) | (intro _; try dsimp only))
  all_goals (try dsimp only [xg, xh, yG, yS, iG, iF] at *)
  all_goals (try simp only [gs_eta] at *)
  all_goals first
    | (show Nat; skip)
    | rfl
    | exact hx
    | exact fl_0
    | assumption
    | exact fl_ok (s := ⟨sg, z, _⟩) hx (by assumption)
    | exact (fl_ok (s := ⟨sg, z, _⟩) hx (by assumption)).1
    | exact flJ_mk (fl_go (by assumption) (by assumption) (by omega) (by assumption) (bl_t (by assumption)))
    | exact flJ_mk (fl_go (by assumption) (by assumption) (by omega) (by assumption) (bl_f (by assumption)))
    | exact (show flJ _ _ _ _ _ _ by assumption).1
    | exact (show flJ _ _ _ _ _ _ by assumption).2
    | exact .inl (by assumption)
    | exact .inr (by assumption)
    | (have hq := fl_ks hx (show filI _ _ _ _ _ by assumption); (try simp only [room, List.length_append, List.length_cons, List.length_nil]); omega)
    | skip)
def s_iSigns  : Sig := { X := List UInt8, args := fun x => [.str x], pre := fun x => x.length < 2 ^ 62, Y := List Sg × Int, post := fun x y => sgQ x y.1, res := fun x y => .tup [sgs y.1, .int .i64 y.2, .bool (sgnsOf x).isSome], outs := fun x y => [.top], keep := true }
def i_iSigns  (x : List UInt8) : LS := { ι := Int × Int × List Sg × Nat, inv := fun i => sgJ x i.1 i.2.1 i.2.2.1 i.2.2.2, regs := fun i => [(0, .str x), (5, osgs i.2.2.1), (6, .int .i64 i.2.1), (7, .int .i64 i.1)], als := [], meas := fun i => i.2.2.2 }
theorem iSigns_ok  : Contract G Tryz.prog 24 s_iSigns :=
  vcFun_okP [(50, 0, s_signAt)] [(36, ⟨Sg,sgA⟩)] false (fun x => [(6, i_iSigns  x)]) Tryz.func24 rfl (by decide) ⟨signAt_ok, trivial⟩ (fun (x : List UInt8) => True ∧ bcase (decide ((↑(List.length x) : Int) > (3000 : Int))) (rA s_iSigns x [.tup [.nil, .int .i64 (3000 : Int), .bool false], .top]) (eA (i_iSigns x) [.str x, .nil, .int .i64 (0 : Int), .int .i64 (0 : Int)] ∧ ∀ (i : Int × Int × List Sg × Nat), sgJ x i.1 i.2.1 i.2.2.1 i.2.2.2 → bcase (decide (i.1 < (↑(List.length x) : Int))) (((0 : Int) ≤ i.1 ∧ i.1 < (↑(List.length x) : Int)) ∧ ∀ (c : UInt8), x[Int.toNat i.1]? = some c → bcase ((↑(UInt8.toNat c) : Int) == (32 : Int)) (inR IntKind.i64 (i.1 + (1 : Int)) ∧ eN (i_iSigns x) i [.str x, osgs i.2.2.1, .int .i64 i.2.1, .int .i64 (i.1 + (1 : Int))]) (bcase ((↑(UInt8.toNat c) : Int) == (10 : Int)) (inR IntKind.i64 (i.1 + (1 : Int)) ∧ inR IntKind.i64 (i.2.1 + (1 : Int)) ∧ eN (i_iSigns x) i [.str x, osgs i.2.2.1, .int .i64 (i.2.1 + (1 : Int)), .int .i64 (i.1 + (1 : Int))]) (((0 : Int) ≤ i.1 ∧ i.1 ≤ (↑(List.length x) : Int) ∧ (↑(List.length x) : Int) ≤ (↑(List.length x) : Int)) ∧ cA s_signAt [.str (List.drop (Int.toNat i.1) x)] fun x_1 y => bcase (!(sgAt x_1).ok) (rA s_iSigns x [.tup [.nil, .int .i64 i.1, .bool false], .top]) (∃ (x_2 : Sg), (sgAt x_1).kind = x_2.kind ∧ (sgAt x_1).text = x_2.text ∧ i.1 = x_2.pos ∧ decide (i.2.1 > (1 : Int)) = x_2.blank ∧ ∃ (zs : List Sg), osgs [x_2] = osgs zs ∧ leafy sgA ∧ room (List.length i.2.2.1 + List.length zs) (40 : Nat) ∧ inR IntKind.i64 (i.1 + (sgAt x_1).size) ∧ eN (i_iSigns x) i [.str x, osgs (i.2.2.1 ++ zs), .int .i64 (0 : Int), .int .i64 (i.1 + (sgAt x_1).size)])))) (rA s_iSigns x [.tup [osgs i.2.2.1, .int .i64 (0 : Int), .bool true], .top]))) (fun x => by kernel_rfl) fun (x : List UInt8) (hx : x.length < 2 ^ 62) => (by
  dsimp only [cA, eA, eN, i_iSigns, osgs, rA, s_iSigns, s_signAt, sgA_e, sgs, hndL, hnd1, mvL, lnL, mvE, lnE, sndL]
  have hx : x.length < 2 ^ 62 := hx
  (repeat' first | (with_reducible first | rfl | exact True.intro | apply inR_i64 | apply And.intro | ((first | apply bcase_dec | apply bcase_bne | apply bcase_beq | apply bcase_not) <;> intro _)) | (apply bcase_intro <;> intro _) | apply sl_eq | refine ex_flip () ?_ ?_ | ((first | apply ex_flip10 | apply ex_flip9 | apply ex_flip8 | apply ex_flip7 | apply ex_flip6 | apply ex_flip5 | apply ex_flip4 | apply ex_flip3 | apply ex_flip2) <;> try dsimp only) | apply ex_flip | (refine Prod.forall.2 ?_; intro _; try dsimp only) | (intro _; try dsimp only))
  all_goals first
    | (show Nat; skip)
    | rfl
    | exact sgJ_0 (by assumption)
    | exact (sgQ_none (sgQ_long (by assumption))).2
    | exact (sgQ_none (sgQ_long (by assumption))).1.symm
    | exact (sgJ_sp (by assumption) (by assumption) (by assumption) (by omega)).1
    | exact (sgJ_nl (by assumption) (by assumption) (by assumption) (by omega)).1
    | exact (sgJ_sg (by assumption) (by assumption) (by assumption) (by omega) (by omega) (by assumption)).1
    | exact (sgQ_none (sgJ_no (by assumption) (by assumption) (by assumption) (by omega) (by omega) (by assumption))).2
    | exact (sgQ_none (sgJ_no (by assumption) (by assumption) (by assumption) (by omega) (by omega) (by assumption))).1.symm
    | exact (sgJ_end (by assumption) (by assumption)).2
    | exact (sgJ_end (by assumption) (by assumption)).1.symm
    | (have hq := sgJ_n (show sgJ _ _ _ _ _ by assumption); (try simp only [i64max, List.length_drop]); omega)
    | (have hj := (show sgJ _ _ _ _ _ by assumption); have hq := sgJ_n hj; have hz := sgJ_sz hj (by assumption); (try simp only [i64max, List.length_drop]); omega)
    | (have hq := sgJ_n (show sgJ _ _ _ _ _ by assumption); (try simp only [room, List.length_append, List.length_cons, List.length_nil]); omega)
    | skip
  all_goals first
    | exact (sgJ_sp (by assumption) (by assumption) (by assumption) (by omega)).2
    | exact (sgJ_nl (by assumption) (by assumption) (by assumption) (by omega)).2
    | exact (sgJ_sg (by assumption) (by assumption) (by assumption) (by omega) (by omega) (by assumption)).2
    | rfl
    | skip)
end Go.My
end
section
set_option linter.unusedVariables false
set_option linter.unusedSimpArgs false
namespace Go.My
open Go.Eng Go.Proofs
variable {G : GInv}
def rsQ (t : List UInt8) (sg : List Sg) (ms : List (Int × Int)) (g : Gs) : Prop := (g.bad = true ∧ readT t = none) ∨ ((g.bad = false ∧ sgB sg ∧ sgnsOf t = some sg) ∧ readR sg = some (ms, g.nodes) ∧ okNds g.nodes)
theorem ok_nds {sg : List Sg} {g : Gs} (h : gsOk sg g) : okNds g.nodes ∧ g.nodes.length ≤ 300 := by
  refine ⟨⟨by have := h.2.2.1; omega, fun x hx => ?_⟩, h.2.2.1⟩
  have := h.2.2.2 x hx
  exact ⟨by have := this.1; omega, by have := this.2; omega⟩
theorem rs_no {t : List UInt8} {l : List Sg} (h : sgQ t l) (hn : (sgnsOf t).isSome = false) : rsQ t l [] ⟨0, 0, !(sgnsOf t).isSome, []⟩ := by
  refine .inl ⟨by simp [hn], ?_⟩
  rw [readT]
  cases hs : sgnsOf t with
  | none => rfl
  | some l => rw [hs] at hn; cases hn
theorem rs_sg {t : List UInt8} {l : List Sg} (h : sgQ t l) (hn : (sgnsOf t).isSome = true) : sgnsOf t = some l ∧ sgB l := by
  rcases h with h | h
  · exact h
  · rw [h.1] at hn; cases hn
theorem rs_bad {t : List UInt8} {l : List Sg} {y : Gs} {ks : List Int} {ms : List (Int × Int)} {N : Nat} (h : sgQ t l) (hn : (sgnsOf t).isSome = true) (hf : filI l y ks ms N ∧ (y.bad = true ∨ ¬ y.pos < l.length)) (hb : (outR l y ks).bad = true) : rsQ t l ms (outR l y ks) := by
  refine .inl ⟨hb, ?_⟩
  rw [readT, (rs_sg h hn).1]
  simp only [Option.bind_some, read_bad hf.1 hb hf.2]; rfl
theorem rs_nodB {l : List Sg} {y : Gs} {ks : List Int} {ms : List (Int × Int)} {N : Nat} (hs : sgB l) (h : filI l y ks ms N) : nodB ⟨22, [], ks, false⟩ := ⟨by simp, by have := (fl_ks hs h).1; simp only; omega⟩
theorem rs_tr {t : List UInt8} {l : List Sg} {y : Gs} {ks : List Int} {ms : List (Int × Int)} {N : Nat} (h : sgQ t l) (hn : (sgnsOf t).isSome = true) (hf : filI l y ks ms N ∧ (y.bad = true ∨ ¬ y.pos < l.length)) (hb : (outR l y ks).bad = false) :
    rsQ t l ms ⟨(outR l y ks).pos, (outR l y ks).deep, !treeOk (outR l y ks).nodes, (outR l y ks).nodes⟩ := by
  have hk := rs_nodB (rs_sg h hn).2 hf.1
  have e := read_ok hf.1 hb hf.2
  cases htr : treeOk (outR l y ks).nodes with
  | false =>
    rw [htr] at e
    refine .inl ⟨rfl, ?_⟩
    rw [readT, (rs_sg h hn).1]
    simp only [Option.bind_some, e]; rfl
  | true =>
    rw [htr] at e
    exact .inr ⟨⟨rfl, (rs_sg h hn).2, (rs_sg h hn).1⟩, e, (ok_nds (add_ok hf.1.1 hk)).1⟩
theorem rs_ok {t : List UInt8} {l : List Sg} {y : Gs} {ks : List Int} {ms : List (Int × Int)} {N : Nat} (h : sgQ t l) (hn : (sgnsOf t).isSome = true) (hf : filI l y ks ms N ∧ (y.bad = true ∨ ¬ y.pos < l.length)) : gsOk l (outR l y ks) ∧ nodB ⟨22, [], ks, false⟩ :=
  have hs := (rs_sg h hn).2
  ⟨add_ok hf.1.1 (rs_nodB hs hf.1), rs_nodB hs hf.1⟩
theorem rs_nds {t : List UInt8} {l : List Sg} {y : Gs} {ks : List Int} {ms : List (Int × Int)} {N : Nat} (h : sgQ t l) (hn : (sgnsOf t).isSome = true) (hf : filI l y ks ms N ∧ (y.bad = true ∨ ¬ y.pos < l.length)) : okNds (outR l y ks).nodes ∧ (outR l y ks).nodes.length ≤ 1073741824 := by
  have a := ok_nds (rs_ok h hn hf).1
  exact ⟨a.1, by omega⟩
theorem rs_pos {t : List UInt8} {l : List Sg} {y : Gs} {ks : List Int} {ms : List (Int × Int)} {N : Nat} (h : sgQ t l) (hn : (sgnsOf t).isSome = true) (hf : filI l y ks ms N ∧ (y.bad = true ∨ ¬ y.pos < l.length)) : 0 ≤ (outR l y ks).pos := (rs_ok h hn hf).1.1.1
theorem rq_b {t : List UInt8} {l : List Sg} {ms : List (Int × Int)} {g : Gs} (h : rsQ t l ms g) (hb : g.bad = true) : readT t = none := by
  rcases h with h | h
  · exact h.2
  · rw [h.1.1] at hb; cases hb
theorem rq_g {t : List UInt8} {l : List Sg} {ms : List (Int × Int)} {g : Gs} (h : rsQ t l ms g) (hb : g.bad = false) : readT t = some g.nodes ∧ okNds g.nodes := by
  rcases h with h | h
  · rw [h.1] at hb; cases hb
  · refine ⟨?_, h.2.2⟩
    rw [readT, h.1.2.2]; simp only [Option.bind_some, h.2.1]; rfl
attribute [local irreducible] gsOk filI outR readT readR sgnsOf treeOk
def s_readSource  : Sig := { X := List UInt8, args := fun x => [.str x], pre := fun x => x.length < 2 ^ 62, Y := List Sg × List (Int × Int) × Int × Int × Bool × List Nd × Int, post := fun x y => rsQ x y.1 y.2.1 ⟨y.2.2.1, y.2.2.2.1, y.2.2.2.2.1, y.2.2.2.2.2.1⟩, res := fun x y => .tup [rdG ⟨y.1, x.length, y.2.1⟩ ⟨y.2.2.1, y.2.2.2.1, y.2.2.2.2.1, y.2.2.2.2.2.1⟩, .int .i64 y.2.2.2.2.2.2], outs := fun x y => [.top], keep := true }
theorem readSource_ok  : Contract G Tryz.prog 37 s_readSource :=
  vcFun_okP [(24, 0, s_iSigns), (66, 0, s_rFile), (67, 0, s_iTreeOk)] [(36, ⟨Sg,sgA⟩), (45, ⟨Int,intA⟩), (62, ⟨Int × Int,fun p => [.int .i64 p.1, .int .i64 p.2]⟩), (32, ⟨Nd,ndA true⟩)] false (fun x => []) Tryz.func37 rfl (by decide) ⟨iSigns_ok, rFile_ok, iTreeOk_ok, trivial⟩ (fun (x : List UInt8) => True ∧ cA s_iSigns [.str x] fun x_1 y => bcase (!Option.isSome (sgnsOf x_1)) (rA s_readSource x [.tup [.box 0 [sgs y.1, .int .i64 (↑(List.length x) : Int), .int .i64 (0 : Int), .int .i64 (0 : Int), .bool !Option.isSome (sgnsOf x_1), .nil, .nil], .int .i64 y.2], .top]) (cA s_rFile [.box 0 [sgs y.1, .int .i64 (↑(List.length x) : Int), .int .i64 (0 : Int), .int .i64 (0 : Int), .bool !Option.isSome (sgnsOf x_1), .nil, .nil]] fun x_2 y_1 => bcase (outR x_2.1 (iF y_1) y_1.2.2.2.2.1).bad (bcase (decide ((outR x_2.1 (iF y_1) y_1.2.2.2.2.1).pos < (↑(List.length y.1) : Int))) (true = true ∧ true = true ∧ ((0 : Int) ≤ (outR x_2.1 (iF y_1) y_1.2.2.2.2.1).pos ∧ (outR x_2.1 (iF y_1) y_1.2.2.2.2.1).pos < (↑(List.length y.1) : Int)) ∧ ∀ (e : Sg), y.1[Int.toNat (outR x_2.1 (iF y_1) y_1.2.2.2.2.1).pos]? = some e → rA s_readSource x [.tup [.box 0 [sgs x_2.1, .int .i64 x_2.2, .int .i64 (outR x_2.1 (iF y_1) y_1.2.2.2.2.1).pos, .int .i64 (outR x_2.1 (iF y_1) y_1.2.2.2.2.1).deep, .bool (outR x_2.1 (iF y_1) y_1.2.2.2.2.1).bad, onds (outR x_2.1 (iF y_1) y_1.2.2.2.2.1).nodes, mbs y_1.2.2.2.2.2.1], .int .i64 e.pos], .top]) (bcase (outR x_2.1 (iF y_1) y_1.2.2.2.2.1).bad (rA s_readSource x [.tup [.box 0 [sgs x_2.1, .int .i64 x_2.2, .int .i64 (outR x_2.1 (iF y_1) y_1.2.2.2.2.1).pos, .int .i64 (outR x_2.1 (iF y_1) y_1.2.2.2.2.1).deep, .bool (outR x_2.1 (iF y_1) y_1.2.2.2.2.1).bad, onds (outR x_2.1 (iF y_1) y_1.2.2.2.2.1).nodes, mbs y_1.2.2.2.2.2.1], .int .i64 (↑(List.length x) : Int)], .top]) (cA s_iTreeOk [onds (outR x_2.1 (iF y_1) y_1.2.2.2.2.1).nodes] fun x_3 y => rA s_readSource x [.tup [.box 0 [sgs x_2.1, .int .i64 x_2.2, .int .i64 (outR x_2.1 (iF y_1) y_1.2.2.2.2.1).pos, .int .i64 (outR x_2.1 (iF y_1) y_1.2.2.2.2.1).deep, .bool !treeOk x_3, onds (outR x_2.1 (iF y_1) y_1.2.2.2.2.1).nodes, mbs y_1.2.2.2.2.2.1], .int .i64 (0 : Int)], .top]))) (bcase (outR x_2.1 (iF y_1) y_1.2.2.2.2.1).bad (rA s_readSource x [.tup [.box 0 [sgs x_2.1, .int .i64 x_2.2, .int .i64 (outR x_2.1 (iF y_1) y_1.2.2.2.2.1).pos, .int .i64 (outR x_2.1 (iF y_1) y_1.2.2.2.2.1).deep, .bool (outR x_2.1 (iF y_1) y_1.2.2.2.2.1).bad, onds (outR x_2.1 (iF y_1) y_1.2.2.2.2.1).nodes, mbs y_1.2.2.2.2.2.1], .int .i64 (↑(List.length x) : Int)], .top]) (cA s_iTreeOk [onds (outR x_2.1 (iF y_1) y_1.2.2.2.2.1).nodes] fun x_3 y => rA s_readSource x [.tup [.box 0 [sgs x_2.1, .int .i64 x_2.2, .int .i64 (outR x_2.1 (iF y_1) y_1.2.2.2.2.1).pos, .int .i64 (outR x_2.1 (iF y_1) y_1.2.2.2.2.1).deep, .bool !treeOk x_3, onds (outR x_2.1 (iF y_1) y_1.2.2.2.2.1).nodes, mbs y_1.2.2.2.2.2.1], .int .i64 (0 : Int)], .top])))) (fun x => by kernel_rfl) fun (x : List UInt8) (hx : x.length < 2 ^ 62) => (by
  dsimp only [cA, mbs, ndA_e, nds, onds, osgs, rA, rdG, s_iSigns, s_iTreeOk, s_rFile, s_readSource, sgA_e, sgs, hndL, hnd1, mvL, lnL, mvE, lnE]
  have hx : x.length < 2 ^ 62 := hx
  (repeat' first | (with_reducible first | rfl | exact True.intro | apply inR_i64 | apply And.intro | ((first | apply bcase_dec | apply bcase_bne | apply bcase_beq | apply bcase_not) <;> intro _)) | (apply bcase_intro <;> intro _) | apply sl_eq | refine ex_flip () ?_ ?_ | ((first | apply ex_flip10 | apply ex_flip9 | apply ex_flip8 | apply ex_flip7 | apply ex_flip6 | apply ex_flip5 | apply ex_flip4 | apply ex_flip3 | apply ex_flip2) <;> try dsimp only) | apply ex_flip | (refine Prod.forall.2 ?_; intro _; try dsimp only) | (intro _; try dsimp only))
  all_goals (try dsimp only [iF] at *)
  all_goals first
    | rfl
    | exact hx
    | exact rs_no (by assumption) (by assumption)
    | exact (rs_sg (by assumption) (by assumption)).2
    | exact rs_bad (by assumption) (by assumption) (by assumption) (by assumption)
    | exact rs_tr (by assumption) (by assumption) (by assumption) (by assumption)
    | (simp [*]; done)
    | exact (rs_nds (by assumption) (by assumption) (by assumption)).1
    | exact (rs_nds (by assumption) (by assumption) (by assumption)).2
    | (have hq := (rs_pos (by assumption) (by assumption) (show filI _ _ _ _ _ ∧ _ by assumption)); (try dsimp only at hq); omega)
    | skip)
def s_iRead  : Sig := { X := List UInt8, args := fun x => [.str x], pre := fun x => x.length < 2 ^ 62, Y := List Nd × Int, post := fun x y => y.1 = (readT x).getD [] ∧ okNds y.1, res := fun x y => .tup [nds y.1, .int .i64 y.2, .bool (readT x).isSome], outs := fun x y => [.top], keep := true }
theorem iRead_ok  : Contract G Tryz.prog 22 s_iRead :=
  vcFun_okP [(37, 0, s_readSource)] [(32, ⟨Nd,ndA true⟩)] false (fun x => []) Tryz.func22 rfl (by decide) ⟨readSource_ok, trivial⟩ (fun (x : List UInt8) => True ∧ cA s_readSource [.str x] fun x_1 y => bcase y.2.2.2.2.1 (rA s_iRead x [.tup [.nil, .int .i64 y.2.2.2.2.2.2, .bool false], .top]) (rA s_iRead x [.tup [onds y.2.2.2.2.2.1, .int .i64 (0 : Int), .bool true], .top])) (fun x => by kernel_rfl) fun (x : List UInt8) (hx : x.length < 2 ^ 62) => (by
  dsimp only [cA, mbs, ndA_e, nds, onds, rA, rdG, s_iRead, s_readSource, sgA_e, sgs, hndL, hnd1, mvL, lnL, mvE, lnE]
  have hx : x.length < 2 ^ 62 := hx
  (repeat' first | (with_reducible first | rfl | exact True.intro | apply inR_i64 | apply And.intro | ((first | apply bcase_dec | apply bcase_bne | apply bcase_beq | apply bcase_not) <;> intro _)) | (apply bcase_intro <;> intro _) | apply sl_eq | refine ex_flip () ?_ ?_ | ((first | apply ex_flip10 | apply ex_flip9 | apply ex_flip8 | apply ex_flip7 | apply ex_flip6 | apply ex_flip5 | apply ex_flip4 | apply ex_flip3 | apply ex_flip2) <;> try dsimp only) | apply ex_flip | (refine Prod.forall.2 ?_; intro _; try dsimp only) | (intro _; try dsimp only))
  all_goals (try dsimp only [iF] at *)
  all_goals first
    | rfl
    | exact hx
    | (rw [rq_b (by assumption) (by assumption)]; rfl)
    | (rw [rq_b (by assumption) (by assumption)]; done)
    | (rw [(rq_g (by assumption) (by assumption)).1]; rfl)
    | (rw [(rq_g (by assumption) (by assumption)).1]; exact (rq_g (by assumption) (by assumption)).2)
    | exact ⟨by simp, by simp⟩
    | exact (rq_g (by assumption) (by assumption)).2
    | (rw [(rq_g (by assumption) (by assumption)).1]; simp; done)
    | skip)
end Go.My
end
section
set_option linter.unusedVariables false
set_option linter.unusedSimpArgs false
namespace Go.My
open Go.Eng Go.Proofs
variable {G : GInv}
def mks2 : List (List UInt8) := [[38, 38], [124, 124], [61, 61], [61, 62], [46, 46]]
def mks1 : List (List UInt8) := [[40], [41], [123], [125], [91], [93], [59], [44], [46], [61], [43], [45], [42], [60], [63], [58]]
def mks : List (List UInt8) := [[38, 38], [124, 124], [61, 61], [61, 62], [46, 46], [40], [41], [123], [125], [91], [93], [59], [44], [46], [61], [43], [45], [42], [60], [63], [58]]
def mkAt (s : List UInt8) : List UInt8 := (mks.find? fun m => s.take m.length == m).getD []
theorem find_take {s : List UInt8} {k : Nat} : ∀ {l : List (List UInt8)}, (∀ m ∈ l, m.length = k) → l.find? (fun m => s.take m.length == m) = if l.elem (s.take k) then some (s.take k) else none
  | [], _ => rfl
  | m :: l, h => by
    have hm := h m (by simp)
    rw [List.find?_cons, List.elem_cons, hm]
    cases he : (s.take k == m) with
    | true =>
      have : s.take k = m := by simpa using he
      simp [this]
    | false =>
      rw [find_take (l := l) (fun m hm => h m (by simp [hm]))]
theorem mkAt_eq {s : List UInt8} : mkAt s = if mks2.elem (s.take 2) then s.take 2 else if mks1.elem (s.take 1) then s.take 1 else [] := by
  have e : mks = mks2 ++ mks1 := rfl
  rw [mkAt, e, List.find?_append, find_take (k := 2) (l := mks2) (by decide), find_take (k := 1) (l := mks1) (by decide)]
  split
  · rfl
  · split <;> rfl
theorem mk2_e {s : List UInt8} : mks2.elem s = mk2 s := by
  rw [Bool.eq_iff_iff]; simp [mks2, mk2]
theorem mk1_e {c : UInt8} : mks1.elem [c] = mk1.elem c := by
  simp [mks1, mk1, List.elem_cons, List.elem_nil]
theorem mkAt_ok {c : UInt8} {s : List UInt8} : mkAt (c :: s) = if markOk ((c :: s).take 2) then (c :: s).take 2 else if markOk ((c :: s).take 1) then (c :: s).take 1 else [] := by
  rw [mkAt_eq, mk2_e]
  have h1 : mks1.elem ((c :: s).take 1) = markOk ((c :: s).take 1) := by
    show mks1.elem [c] = markOk [c]
    rw [mk1_e]
    simp [markOk, mk2]
  rw [h1]
  cases s with
  | nil =>
    show (if mk2 [c] = true then [c] else if markOk [c] = true then [c] else []) = if markOk [c] = true then [c] else if markOk [c] = true then [c] else []
    have : mk2 [c] = false := by simp [mk2]
    rw [this]; simp
  | cons d r =>
    have : markOk ((c :: d :: r).take 2) = mk2 ((c :: d :: r).take 2) := by
      show markOk [c, d] = mk2 [c, d]
      simp [markOk]
    rw [this]
def mkI2 (x : List UInt8 × Int) (i : Int) : Prop := (0 ≤ i ∧ i ≤ 21) ∧ mkAt (x.1.drop x.2.toNat) = ((mks.drop i.toNat).find? fun m => (x.1.drop x.2.toNat).take m.length == m).getD []
theorem mi_0 {x : List UInt8 × Int} : mkI2 x 0 := ⟨by omega, rfl⟩
theorem mi_n {x : List UInt8 × Int} {i : Int} {m : List UInt8} (h : mkI2 x i) (ha : mks[i.toNat]? = some m) (hg : ((x.1.drop x.2.toNat).take m.length == m) = false) : mkI2 x (i + 1) := by
  have hlt := (List.getElem?_eq_some_iff.1 ha).1
  have h21 : mks.length = 21 := rfl
  obtain ⟨h1, h2⟩ := h
  refine ⟨by omega, ?_⟩
  rw [h2, List.drop_eq_getElem_cons hlt, (List.getElem?_eq_some_iff.1 ha).2, List.find?_cons_of_neg (by simpa using hg), show (i + 1).toNat = i.toNat + 1 by omega]
theorem mi_y {x : List UInt8 × Int} {i : Int} {m : List UInt8} (h : mkI2 x i) (ha : mks[i.toNat]? = some m) (hg : ((x.1.drop x.2.toNat).take m.length == m) = true) : m = mkAt (x.1.drop x.2.toNat) := by
  have hlt := (List.getElem?_eq_some_iff.1 ha).1
  rw [h.2, List.drop_eq_getElem_cons hlt, (List.getElem?_eq_some_iff.1 ha).2, List.find?_cons_of_pos (by simpa using hg)]; rfl
theorem mi_e {x : List UInt8 × Int} {i : Int} (h : mkI2 x i) (hi : ¬ i < 21) : [] = mkAt (x.1.drop x.2.toNat) := by
  have e : mks.drop i.toNat = [] := List.drop_eq_nil_of_le (by have h21 : mks.length = 21 := rfl; rw [h21]; omega)
  rw [h.2, e]; rfl
theorem sub_take {t : List UInt8} {a n : Int} (h0 : 0 ≤ a) (hn : 0 ≤ n) : List.drop a.toNat (List.take (a + n).toNat t) = (t.drop a.toNat).take n.toNat := by
  rw [List.drop_take, show (a + n).toNat - a.toNat = n.toNat by omega]
theorem mi_l {x : List UInt8 × Int} {m : List UInt8} (h0 : 0 ≤ x.2) (h2 : x.2 ≤ x.1.length) (hl : ¬ x.2 + (m.length : Int) ≤ x.1.length) : ((x.1.drop x.2.toNat).take m.length == m) = false := by
  have : ((x.1.drop x.2.toNat).take m.length) ≠ m := by
    intro e
    have := congrArg List.length e
    simp at this; omega
  simpa using this
theorem mi_sE {x : List UInt8 × Int} {m : List UInt8} (h0 : 0 ≤ x.2) (h : List.drop (Int.toNat x.2) (List.take (Int.toNat (x.2 + (m.length : Int))) x.1) = m) : ((x.1.drop x.2.toNat).take m.length == m) = true := by
  rw [sub_take h0 (by omega)] at h; simpa using h
theorem mi_sN {x : List UInt8 × Int} {m : List UInt8} (h0 : 0 ≤ x.2) (h : List.drop (Int.toNat x.2) (List.take (Int.toNat (x.2 + (m.length : Int))) x.1) ≠ m) : ((x.1.drop x.2.toNat).take m.length == m) = false := by
  rw [sub_take h0 (by omega)] at h; simpa using h
theorem mks_at {i : Int} {m : List UInt8} (ha : mks[i.toNat]? = some m) : m.length ≤ 2 := by
  have : ∀ m ∈ mks, m.length ≤ 2 := by decide
  exact this m (List.mem_of_getElem? ha)
theorem mi_b {x : List UInt8 × Int} {i : Int} (h : mkI2 x i) : 0 ≤ i ∧ i ≤ 21 := h.1
attribute [local irreducible] mkI2 mkAt
def s_sMarks  : Sig := { X := Unit, args := fun x => [], pre := fun x => True, Y := Unit, post := fun x y => True, res := fun x y => .sl false 0 1 (List UInt8) strA mks, outs := fun x y => [], keep := true }
theorem sMarks_ok  : Contract G Tryz.prog 110 s_sMarks :=
  vcFun_okP [] [(41, ⟨List UInt8,strA⟩)] false (fun x => []) Tryz.func110 rfl (by decide) trivial (fun (x : Unit) => True ∧ ∃ (x_1 : List UInt8), #[(38 : UInt8), (38 : UInt8)].toList = x_1 ∧ ∃ (x_2 : List UInt8), #[(124 : UInt8), (124 : UInt8)].toList = x_2 ∧ ∃ (x_3 : List UInt8), #[(61 : UInt8), (61 : UInt8)].toList = x_3 ∧ ∃ (x_4 : List UInt8), #[(61 : UInt8), (62 : UInt8)].toList = x_4 ∧ ∃ (x_5 : List UInt8), #[(46 : UInt8), (46 : UInt8)].toList = x_5 ∧ ∃ (x_6 : List UInt8), #[(40 : UInt8)].toList = x_6 ∧ ∃ (x_7 : List UInt8), #[(41 : UInt8)].toList = x_7 ∧ ∃ (x_8 : List UInt8), #[(123 : UInt8)].toList = x_8 ∧ ∃ (x_9 : List UInt8), #[(125 : UInt8)].toList = x_9 ∧ ∃ (x_10 : List UInt8), #[(91 : UInt8)].toList = x_10 ∧ ∃ (x_11 : List UInt8), #[(93 : UInt8)].toList = x_11 ∧ ∃ (x_12 : List UInt8), #[(59 : UInt8)].toList = x_12 ∧ ∃ (x_13 : List UInt8), #[(44 : UInt8)].toList = x_13 ∧ ∃ (x_14 : List UInt8), #[(46 : UInt8)].toList = x_14 ∧ ∃ (x_15 : List UInt8), #[(61 : UInt8)].toList = x_15 ∧ ∃ (x_16 : List UInt8), #[(43 : UInt8)].toList = x_16 ∧ ∃ (x_17 : List UInt8), #[(45 : UInt8)].toList = x_17 ∧ ∃ (x_18 : List UInt8), #[(42 : UInt8)].toList = x_18 ∧ ∃ (x_19 : List UInt8), #[(60 : UInt8)].toList = x_19 ∧ ∃ (x_20 : List UInt8), #[(63 : UInt8)].toList = x_20 ∧ ∃ (x_21 : List UInt8), #[(58 : UInt8)].toList = x_21 ∧ rA s_sMarks x [AV.sl true (0 : Nat) (1 : Nat) (List UInt8) strA [x_1, x_2, x_3, x_4, x_5, x_6, x_7, x_8, x_9, x_10, x_11, x_12, x_13, x_14, x_15, x_16, x_17, x_18, x_19, x_20, x_21]]) (fun x => by kernel_rfl) fun (x : Unit) (hx : True) => (by
  dsimp only [rA, s_sMarks, hndL, hnd1]
  (repeat' first | (with_reducible first | rfl | exact True.intro | apply inR_i64 | apply And.intro | ((first | apply bcase_dec | apply bcase_bne | apply bcase_beq | apply bcase_not) <;> intro _)) | (apply bcase_intro <;> intro _) | apply sl_eq | refine ex_flip () ?_ ?_ | ((first | apply ex_flip10 | apply ex_flip9 | apply ex_flip8 | apply ex_flip7 | apply ex_flip6 | apply ex_flip5 | apply ex_flip4 | apply ex_flip3 | apply ex_flip2) <;> try dsimp only) | apply ex_flip | (refine Prod.forall.2 ?_; intro _; try dsimp only) | (intro _; try dsimp only))
  all_goals first
    | rfl
    | (simp [room]; done)
    | skip)
def s_sMark  : Sig := { X := List UInt8 × Int, args := fun x => [.str x.1, .int .i64 x.2], pre := fun x => 0 ≤ x.2 ∧ x.2 ≤ x.1.length ∧ x.1.length < 2 ^ 62, Y := Unit, post := fun x y => True, res := fun x y => .str (mkAt (x.1.drop x.2.toNat)), outs := fun x y => [.top, .top], keep := false }
def i_sMark  (x : List UInt8 × Int) : LS := { ι := Int, inv := fun i => mkI2 x i, regs := fun i => [(0, .str x.1), (1, .int .i64 x.2), (5, .sl false 0 1 (List UInt8) strA mks), (6, .int .i64 i)], als := [], meas := fun i => 21 - i.toNat }
theorem sMark_ok  : Contract G Tryz.prog 81 s_sMark :=
  vcFun_okP [(110, 0, s_sMarks)] [(41, ⟨List UInt8,strA⟩)] false (fun x => [(3, i_sMark  x)]) Tryz.func81 rfl (by decide) ⟨sMarks_ok, trivial⟩ (fun (x : List UInt8 × Int) => (∀ (y : Unit), True → True ∧ True ∧ True ∧ True) ∧ cA s_sMarks [] fun x_1 y => eA (i_sMark x) [.str x.1, .int .i64 x.2, AV.sl false (0 : Nat) (1 : Nat) (List UInt8) strA mks, .int .i64 (0 : Int)] ∧ ∀ (i : Int), mkI2 x i → bcase (decide (i < (↑(21 : Nat) : Int))) (((0 : Int) ≤ i ∧ i < (↑(21 : Nat) : Int)) ∧ ∀ (e : List UInt8), mks[Int.toNat i]? = some e → true = true ∧ true = true ∧ inR IntKind.i64 (x.2 + (↑(List.length e) : Int)) ∧ bcase (decide (x.2 + (↑(List.length e) : Int) ≤ (↑(List.length x.1) : Int))) (inR IntKind.i64 (x.2 + (↑(List.length e) : Int)) ∧ ((0 : Int) ≤ x.2 ∧ x.2 ≤ x.2 + (↑(List.length e) : Int) ∧ x.2 + (↑(List.length e) : Int) ≤ (↑(List.length x.1) : Int)) ∧ ((0 : Int) ≤ i ∧ i < (↑(21 : Nat) : Int)) ∧ ∀ (e_1 : List UInt8), mks[Int.toNat i]? = some e_1 → bcase (List.drop (Int.toNat x.2) (List.take (Int.toNat (x.2 + (↑(List.length e) : Int))) x.1) == e_1) (((0 : Int) ≤ i ∧ i < (↑(21 : Nat) : Int)) ∧ ∀ (e : List UInt8), mks[Int.toNat i]? = some e → rA s_sMark x [.str e, .top, .top]) (inR IntKind.i64 (i + (1 : Int)) ∧ eN (i_sMark x) i [.str x.1, .int .i64 x.2, AV.sl false (0 : Nat) (1 : Nat) (List UInt8) strA mks, .int .i64 (i + (1 : Int))])) (inR IntKind.i64 (i + (1 : Int)) ∧ eN (i_sMark x) i [.str x.1, .int .i64 x.2, AV.sl false (0 : Nat) (1 : Nat) (List UInt8) strA mks, .int .i64 (i + (1 : Int))])) (rA s_sMark x [.str #[].toList, .top, .top])) (fun x => by kernel_rfl) fun (x : List UInt8 × Int) (hx : 0 ≤ x.2 ∧ x.2 ≤ x.1.length ∧ x.1.length < 2 ^ 62) => (by
  dsimp only [cA, eA, eN, i_sMark, rA, s_sMark, s_sMarks, hndL, hnd1, mvL, lnL, mvE, lnE, sndL]
  obtain ⟨h1, h2, h3⟩ := hx
  (repeat' first | (with_reducible first | rfl | exact True.intro | apply inR_i64 | apply And.intro | ((first | apply bcase_dec | apply bcase_bne | apply bcase_beq | apply bcase_not) <;> intro _)) | (apply bcase_intro <;> intro _) | apply sl_eq | refine ex_flip () ?_ ?_ | ((first | apply ex_flip10 | apply ex_flip9 | apply ex_flip8 | apply ex_flip7 | apply ex_flip6 | apply ex_flip5 | apply ex_flip4 | apply ex_flip3 | apply ex_flip2) <;> try dsimp only) | apply ex_flip | (refine Prod.forall.2 ?_; intro _; try dsimp only) | (intro _; try dsimp only))
  all_goals (try (repeat (rename mks[_]? = some _ => hq; revert hq; rename mks[_]? = some _ => hr; intro hq; rw [hr] at hq; cases hq)))
  all_goals first
    | rfl
    | exact mi_0
    | exact mi_n (by assumption) (by assumption) (mi_l h1 h2 (by assumption))
    | exact mi_n (by assumption) (by assumption) (mi_sN h1 (by assumption))
    | exact mi_y (by assumption) (by assumption) (mi_sE h1 (by assumption))
    | exact mi_e (by assumption) (by omega)
    | (have hq := mi_b (show mkI2 _ _ by assumption); (try simp only [i64max]); omega)
    | (have hq := mi_b (show mkI2 _ _ by assumption); have hm := mks_at (by assumption); (try simp only [i64max]); omega)
    | skip)
def rwI (p : UInt8 → Bool) (x : List UInt8 × Int) (i : Int) : Prop := (x.2 ≤ i ∧ i ≤ x.1.length) ∧ ∀ e ∈ (x.1.drop x.2.toNat).take (i - x.2).toNat, p e = true
theorem rw_0 {p : UInt8 → Bool} {x : List UInt8 × Int} (h : x.2 ≤ x.1.length) : rwI p x x.2 := by
  refine ⟨⟨by omega, h⟩, fun e he => ?_⟩
  rw [show (x.2 - x.2).toNat = 0 by omega] at he; simp at he
theorem rw_n {p : UInt8 → Bool} {x : List UInt8 × Int} {i : Int} {c : UInt8} (h0 : 0 ≤ x.2) (h : rwI p x i) (hi : i < x.1.length) (hc : x.1[i.toNat]? = some c) (hp : p c = true) : rwI p x (i + 1) := by
  obtain ⟨⟨a, b⟩, h2⟩ := h
  exact ⟨by omega, all_next h2 (by rw [drop0_get h0 a]; exact hc) hp (by omega)⟩
theorem rw_e {p : UInt8 → Bool} {x : List UInt8 × Int} {i : Int} (h0 : 0 ≤ x.2) (h : rwI p x i) (he : ¬ i < x.1.length ∨ ∃ c, x.1[i.toNat]? = some c ∧ p c = false) : ((x.1.drop x.2.toNat).takeWhile p) = List.drop (Int.toNat x.2) (List.take (Int.toNat i) x.1) ∧ ((((x.1.drop x.2.toNat).takeWhile p).length : Nat) : Int) = i - x.2 := by
  obtain ⟨⟨a, b⟩, h2⟩ := h
  have e := takeWhile_take h2 (by
    rcases he with he | ⟨c, hc, hp⟩
    · left; simp; omega
    · right; exact ⟨c, by rw [drop0_get h0 a]; exact hc, hp⟩)
  rw [← e, List.drop_take]
  refine ⟨by congr 1; omega, ?_⟩
  simp; omega
theorem rw_b {p : UInt8 → Bool} {x : List UInt8 × Int} {i : Int} (h : rwI p x i) : x.2 ≤ i ∧ i ≤ x.1.length := h.1
def sgR (x : List UInt8 × Int) (k : Int) (t : List UInt8) (p : Int) (b : Bool) (n : Int) : Prop :=
  ((sgAt (x.1.drop x.2.toNat)).ok = true ∧ (k = (sgAt (x.1.drop x.2.toNat)).kind ∧ t = (sgAt (x.1.drop x.2.toNat)).text ∧ p = x.2 ∧ b = false) ∧ n = (sgAt (x.1.drop x.2.toNat)).size) ∨ ((sgAt (x.1.drop x.2.toNat)).ok = false ∧ n = 0)
theorem drop_c {x : List UInt8 × Int} {c : UInt8} (hc : x.1[x.2.toNat]? = some c) : x.1.drop x.2.toNat = c :: x.1.drop (x.2.toNat + 1) := by
  have hlt := (List.getElem?_eq_some_iff.1 hc).1
  rw [List.drop_eq_getElem_cons hlt, (List.getElem?_eq_some_iff.1 hc).2]
theorem sr_note {x : List UInt8 × Int} (h0 : 0 ≤ x.2) (h : (nlen (x.1.drop x.2.toNat) : Int) > 0) : sgR x 5 (trimR (List.drop (Int.toNat x.2) (List.take (Int.toNat (x.2 + (nlen (x.1.drop x.2.toNat) : Int))) x.1))) x.2 false (nlen (x.1.drop x.2.toNat)) := by
  rw [sub_take h0 (by omega)]
  unfold sgR
  generalize x.1.drop x.2.toNat = s at *
  unfold nlen at h ⊢
  split at h
  · rename_i h2
    split at h
    · rename_i hp
      rw [if_pos h2, if_pos hp]
      match s with
      | [] => simp at h2
      | [_] => simp at h2
      | b :: c :: r =>
        simp at h2
        obtain ⟨rfl, rfl⟩ := h2
        left
        simp only [sgAt, show isFst 47 = false by decide, show isFig 47 = false by decide, Bool.false_eq_true, if_false, show (47 : UInt8).toNat ≠ 39 by decide, List.take_succ_cons, List.take_zero, if_true]
        refine ⟨hp, ⟨trivial, ?_, trivial, trivial⟩, trivial⟩
        congr 1
        have := List.takeWhile_prefix notNl (l := 47 :: 47 :: r)
        rw [Int.toNat_natCast]
        exact (List.prefix_iff_eq_take.1 this).symm
    · simp at h
  · simp at h
theorem nl_0 {s : List UInt8} {c : UInt8} (h : ¬ (nlen (c :: s) : Int) > 0) (h2 : (c :: s).take 2 = [47, 47]) : ((c :: s).takeWhile notNl).all isPln = false := by
  cases hp : ((c :: s).takeWhile notNl).all isPln with
  | false => rfl
  | true =>
    exfalso
    apply h
    rw [nlen, if_pos h2, if_pos hp]
    match s with
    | [] => simp at h2
    | d :: r =>
      simp at h2
      obtain ⟨rfl, rfl⟩ := h2
      have : notNl 47 = true := by decide
      simp [List.takeWhile_cons, this]; omega
theorem sr_nm {x : List UInt8 × Int} {i : Int} {c : UInt8} (h0 : 0 ≤ x.2) (hc : x.1[x.2.toNat]? = some c) (hf : isFst c = true) (h : rwI isInn x i) (he : ¬ i < x.1.length ∨ ∃ c, x.1[i.toNat]? = some c ∧ isInn c = false) :
    (i - x.2 > 30 → sgR x 0 [] 0 false 0) ∧ (¬ i - x.2 > 30 → sgR x 1 (List.drop (Int.toNat x.2) (List.take (Int.toNat i) x.1)) x.2 false (i - x.2)) := by
  obtain ⟨e1, e2⟩ := rw_e h0 h he
  have e := drop_c hc
  have es : sgAt (x.1.drop x.2.toNat) = ⟨1, (x.1.drop x.2.toNat).takeWhile isInn, ((x.1.drop x.2.toNat).takeWhile isInn).length, decide (((x.1.drop x.2.toNat).takeWhile isInn).length ≤ 30)⟩ := by
    rw [e]; simp only [sgAt, hf, if_true]
  unfold sgR
  rw [es]
  refine ⟨fun h3 => .inr ⟨by simp; omega, rfl⟩, fun h3 => .inl ⟨by simp; omega, ⟨rfl, e1.symm, rfl, rfl⟩, by simp only; omega⟩⟩
theorem sr_nu {x : List UInt8 × Int} {i : Int} {c : UInt8} (h0 : 0 ≤ x.2) (hc : x.1[x.2.toNat]? = some c) (hf : isFst c = false) (hg : isFig c = true) (h : rwI isFig x i) (he : ¬ i < x.1.length ∨ ∃ c, x.1[i.toNat]? = some c ∧ isFig c = false) :
    (i - x.2 > 12 → sgR x 0 [] 0 false 0) ∧ (¬ i - x.2 > 12 → sgR x 2 (List.drop (Int.toNat x.2) (List.take (Int.toNat i) x.1)) x.2 false (i - x.2)) := by
  obtain ⟨e1, e2⟩ := rw_e h0 h he
  have e := drop_c hc
  have es : sgAt (x.1.drop x.2.toNat) = ⟨2, (x.1.drop x.2.toNat).takeWhile isFig, ((x.1.drop x.2.toNat).takeWhile isFig).length, decide (((x.1.drop x.2.toNat).takeWhile isFig).length ≤ 12)⟩ := by
    rw [e]; simp only [sgAt, hf, hg, Bool.false_eq_true, if_false, if_true]
  unfold sgR
  rw [es]
  refine ⟨fun h3 => .inr ⟨by simp; omega, rfl⟩, fun h3 => .inl ⟨by simp; omega, ⟨rfl, e1.symm, rfl, rfl⟩, by simp only; omega⟩⟩
theorem sr_tx {x : List UInt8 × Int} {c : UInt8} (h0 : 0 ≤ x.2) (hc : x.1[x.2.toNat]? = some c) (hf : isFst c = false) (hg : isFig c = false) (hq : (c.toNat : Int) = 39) :
    sgR x 3 (List.drop (Int.toNat x.2) (List.take (Int.toNat (x.2 + (qlen (x.1.drop x.2.toNat) : Int))) x.1)) x.2 false (qlen (x.1.drop x.2.toNat)) := by
  rw [sub_take h0 (by omega)]
  have e := drop_c hc
  have hq2 : isQ c = true := by simp [isQ]; omega
  unfold sgR
  rw [e]
  have es : sgAt (c :: x.1.drop (x.2.toNat + 1)) = ⟨3, (quoted (c :: x.1.drop (x.2.toNat + 1))).1, (quoted (c :: x.1.drop (x.2.toNat + 1))).1.length, (quoted (c :: x.1.drop (x.2.toNat + 1))).2⟩ := by
    simp only [sgAt, hf, hg, Bool.false_eq_true, if_false, show c.toNat = 39 by omega, if_true]
  rw [es]
  by_cases hz : qlen (c :: x.1.drop (x.2.toNat + 1)) = 0
  · right
    refine ⟨?_, by rw [hz]; rfl⟩
    cases hb : (quoted (c :: x.1.drop (x.2.toNat + 1))).2 with
    | false => rfl
    | true => exact ((quoted_q hq2).1 hb hz).elim
  · left
    obtain ⟨l1, l2⟩ := quoted_len hq2 hz
    refine ⟨(quoted_q hq2).2 hz, ⟨rfl, ?_, rfl, rfl⟩, ?_⟩
    · simp only [l1, Int.toNat_natCast]
    · simp only [l1, List.length_take]; omega
theorem sr_mk {x : List UInt8 × Int} {c : UInt8} (h0 : 0 ≤ x.2) (hc : x.1[x.2.toNat]? = some c) (hn : ¬ (nlen (x.1.drop x.2.toNat) : Int) > 0) (hf : isFst c = false) (hg : isFig c = false) (hq : (c.toNat : Int) ≠ 39) :
    sgR x 4 (mkAt (x.1.drop x.2.toNat)) x.2 false (mkAt (x.1.drop x.2.toNat)).length := by
  have e := drop_c hc
  unfold sgR
  rw [e] at hn ⊢
  generalize x.1.drop (x.2.toNat + 1) = s at *
  by_cases h2 : (c :: s).take 2 = [47, 47]
  · right
    have e0 : mkAt (c :: s) = [] := by
      rw [mkAt_ok, h2, if_neg (by decide)]
      have : (c :: s).take 1 = [47] := by
        have := congrArg (List.take 1) h2
        simpa using this
      rw [this, if_neg (by decide)]
    have hp := nl_0 hn h2
    refine ⟨?_, by rw [e0]; rfl⟩
    simp only [sgAt, hf, hg, Bool.false_eq_true, if_false, if_neg (show ¬ c.toNat = 39 by omega), h2, if_true]
    exact hp
  · have es : sgAt (c :: s) = if markOk ((c :: s).take 2) then ⟨4, (c :: s).take 2, ((c :: s).take 2).length, true⟩ else if markOk ((c :: s).take 1) then ⟨4, (c :: s).take 1, 1, true⟩ else ⟨0, [], 0, false⟩ := by
      simp only [sgAt, hf, hg, Bool.false_eq_true, if_false, if_neg (show ¬ c.toNat = 39 by omega), if_neg h2]
    rw [es, mkAt_ok]
    split
    · left; exact ⟨rfl, ⟨rfl, rfl, rfl, rfl⟩, rfl⟩
    · split
      · left; exact ⟨rfl, ⟨rfl, rfl, rfl, rfl⟩, by simp⟩
      · right; exact ⟨rfl, rfl⟩
end Go.My
end
section
set_option linter.unusedVariables false
set_option linter.unusedSimpArgs false
namespace Go.My
open Go.Eng Go.Proofs
variable {G : GInv}
def srd (s : ST) (g : Gs) : AV := .box 0 [sgs s.sg, .int .i64 g.pos, .bool g.bad, .int .i64 g.deep, onds g.nodes]
theorem pk0_no {sg : List Sg} {g : Gs} (h : g.bad = true ∨ (sg.length : Int) ≤ g.pos) : pkG sg g 0 = sg00 := pkG_no (by simpa using h)
theorem pk0_yes {sg : List Sg} {g : Gs} {e : Sg} (he : sg[g.pos.toNat]? = some e) (hb : g.bad = false) (hl : g.pos < sg.length) : pkG sg g 0 = e := pkG_yes (by simpa using he) hb (by omega)
theorem isG_out {sg : List Sg} {g : Gs} {k : Int} {t : List UInt8} (hk : k ≠ 0) (h : g.bad = true ∨ (sg.length : Int) ≤ g.pos) : isG sg g k t = false := by
  simp [isG, pk0_no h, sg00, Ne.symm hk]
theorem isG_in {sg : List Sg} {g : Gs} {e : Sg} {k : Int} {t : List UInt8} (he : sg[g.pos.toNat]? = some e) (hb : g.bad = false) (hl : g.pos < sg.length) : isG sg g k t = (decide (e.kind = k) && (e.text == t)) := by
  rw [isG, pk0_yes he hb hl]
def kdG (sg : List Sg) (g : Gs) (k : Int) : Bool := decide ((pkG sg g 0).kind = k) && (decide (k ≠ 1) || !kw (pkG sg g 0).text)
theorem kdG_out {sg : List Sg} {g : Gs} {k : Int} (hk : k ≠ 0) (h : g.bad = true ∨ (sg.length : Int) ≤ g.pos) : kdG sg g k = false := by
  simp [kdG, pk0_no h, sg00, Ne.symm hk]
theorem kdG_in {sg : List Sg} {g : Gs} {e : Sg} {k : Int} (he : sg[g.pos.toNat]? = some e) (hb : g.bad = false) (hl : g.pos < sg.length) : kdG sg g k = (decide (e.kind = k) && (decide (k ≠ 1) || !kw e.text)) := by
  rw [kdG, pk0_yes he hb hl]
theorem kdG_1 {sg : List Sg} {g : Gs} : kdG sg g 1 = nmG sg g 0 := by simp [kdG, nmG]
theorem kdG_lt {sg : List Sg} {g : Gs} {k : Int} (hk : k ≠ 0) (h : kdG sg g k = true) : g.bad = false ∧ g.pos < sg.length := by
  cases hb : g.bad with
  | true => rw [kdG_out hk (.inl hb)] at h; cases h
  | false =>
    refine ⟨rfl, ?_⟩
    rcases Int.lt_or_le g.pos sg.length with hh | hh
    · exact hh
    · rw [kdG_out hk (.inr hh)] at h; cases h
theorem ex_ndB {e : Nd} {b : Bool} {q : Nd → Prop} (h : q ⟨e.kind, e.text, e.kids, b⟩) :
    ∃ x' : Nd, ([AV.int IntKind.i64 x'.kind, AV.str x'.text, AV.sl true 0 1 Int intA x'.kids] = [AV.int IntKind.i64 e.kind, AV.str e.text, AV.sl true 0 1 Int intA e.kids] ∧ (@List.nil AV) = []) ∧ b = x'.blank ∧ q x' :=
  ⟨⟨e.kind, e.text, e.kids, b⟩, ⟨rfl, rfl⟩, rfl, h⟩
def gWord (sg : List Sg) (g : Gs) (m : List UInt8) : Gs := if isG sg g 1 m then gAdv g else g
def gText (sg : List Sg) (g : Gs) (k : Int) : Gs := if kdG sg g k then gAdv g else gBad g
def gTextT (sg : List Sg) (g : Gs) (k : Int) : List UInt8 := if kdG sg g k then (pkG sg g 0).text else []
def gBl (g : Gs) (k : Int) (b : Bool) : Gs := if g.bad = false ∧ k < g.nodes.length then ⟨g.pos, g.deep, g.bad, g.nodes.set k.toNat ⟨(ndAt g.nodes k).kind, (ndAt g.nodes k).text, (ndAt g.nodes k).kids, b⟩⟩ else g
theorem bl_set {g : Gs} {k : Int} {b : Bool} {e : Nd} (he : g.nodes[k.toNat]? = some e) (hb : g.bad = false) (hk : k < g.nodes.length) : g.nodes.set k.toNat ⟨e.kind, e.text, e.kids, b⟩ = (gBl g k b).nodes := by
  rw [gBl, if_pos ⟨hb, hk⟩, ndAt_of he]
def blG (sg : List Sg) (g : Gs) : Bool := decide (g.pos < sg.length) && (sgO sg g.pos).blank
theorem tx_at {sg : List Sg} {g : Gs} {e : Sg} {k : Int} (he : sg[(g.pos + 1 - 1).toNat]? = some e) (hk : k ≠ 0) (h : kdG sg g k = true) : e.text = gTextT sg g k := by
  obtain ⟨hb, hl⟩ := kdG_lt hk h
  rw [gTextT, if_pos h, pk0_yes (by rw [show g.pos = g.pos + 1 - 1 by omega]; exact he) hb hl]
def s_qIs  : Sig := { X := ST × Int × Int × Bool × List Nd × Int × List UInt8, args := fun x => [srd x.1 (xh x), .int .i64 x.2.2.2.2.2.1, .str x.2.2.2.2.2.2], pre := fun x => rOk x.1 (xh x) ∧ x.2.2.2.2.2.1 ≠ 0, Y := Unit, post := fun x y => True, res := fun x y => .bool (isG x.1.sg (xh x) x.2.2.2.2.2.1 x.2.2.2.2.2.2), outs := fun x y => [srd x.1 (xh x), .top, .top], keep := true }
theorem qIs_ok  : Contract G Tryz.prog 106 s_qIs :=
  vcFun_okP [] [] false (fun x => []) Tryz.func106 rfl (by decide) trivial (fun (x : ST × Int × Int × Bool × List Nd × Int × List UInt8) => True ∧ true = true ∧ true = true ∧ bcase (!(xh x).bad) (bcase (decide ((xh x).pos < (↑(List.length x.1.sg) : Int))) (((0 : Int) ≤ (xh x).pos ∧ (xh x).pos < (↑(List.length x.1.sg) : Int)) ∧ ∀ (e : Sg), x.1.sg[Int.toNat (xh x).pos]? = some e → bcase (e.kind == x.2.2.2.2.2.1) (((0 : Int) ≤ (xh x).pos ∧ (xh x).pos < (↑(List.length x.1.sg) : Int)) ∧ ∀ (e : Sg), x.1.sg[Int.toNat (xh x).pos]? = some e → rA s_qIs x [.bool (e.text == x.2.2.2.2.2.2), srd x.1 (xh x), .top, .top]) (rA s_qIs x [.bool false, srd x.1 (xh x), .top, .top])) (rA s_qIs x [.bool false, srd x.1 (xh x), .top, .top])) (rA s_qIs x [.bool false, srd x.1 (xh x), .top, .top])) (fun x => by kernel_rfl) fun (x : ST × Int × Int × Bool × List Nd × Int × List UInt8) (hx : rOk x.1 (xh x) ∧ x.2.2.2.2.2.1 ≠ 0) => (by
  dsimp only [ndA_e, onds, rA, s_qIs, sgA_e, sgs, srd, hndL, hnd1]
  obtain ⟨s, p, d, b, ns, k, m⟩ := x; dsimp only [xg, xh] at hx ⊢
  obtain ⟨h1, h2⟩ := hx; have hs := rOk_n h1; dsimp only at hs
  (repeat' first | (with_reducible first | rfl | exact True.intro | apply inR_i64 | apply And.intro | ((first | apply bcase_dec | apply bcase_bne | apply bcase_beq | apply bcase_not) <;> intro _)) | (apply bcase_intro <;> intro _) | apply sl_eq | refine ex_flip () ?_ ?_ | ((first | apply ex_flip10 | apply ex_flip9 | apply ex_flip8 | apply ex_flip7 | apply ex_flip6 | apply ex_flip5 | apply ex_flip4 | apply ex_flip3 | apply ex_flip2) <;> try dsimp only) | apply ex_flip | (refine Prod.forall.2 ?_; intro _; try dsimp only) | (intro _; try dsimp only))
  all_goals (try (repeat (rename s.sg[_]? = some _ => hq; revert hq; rename s.sg[_]? = some _ => hr; intro hq; rw [hr] at hq; cases hq)))
  all_goals first
    | rfl
    | exact (isG_out h2 (.inl (by assumption))).symm
    | exact (isG_out h2 (.inr (by simp only; omega))).symm
    | (rw [isG_in (by assumption) (by assumption) (by simp only; omega)]; simp [*]; done)
    | ((try simp only [i64max]); omega)
    | skip)
def s_qMark  : Sig := { X := ST × Int × Int × Bool × List Nd × List UInt8, args := fun x => [srd x.1 (xh x), .str x.2.2.2.2.2], pre := fun x => rOk x.1 (xh x), Y := Unit, post := fun x y => True, res := fun x y => .bool (isG x.1.sg (xh x) 4 x.2.2.2.2.2), outs := fun x y => [srd x.1 (gSkip x.1.sg (xh x) x.2.2.2.2.2), .top], keep := true }
theorem qMark_ok  : Contract G Tryz.prog 73 s_qMark :=
  vcFun_okP [(106, 0, s_qIs)] [] false (fun x => []) Tryz.func73 rfl (by decide) ⟨qIs_ok, trivial⟩ (fun (x : ST × Int × Int × Bool × List Nd × List UInt8) => True ∧ cA s_qIs [srd x.1 (xh x), .int .i64 (4 : Int), .str x.2.2.2.2.2] fun x_1 y => bcase (isG x_1.1.sg (xh x_1) x_1.2.2.2.2.2.1 x_1.2.2.2.2.2.2) (inR IntKind.i64 ((xh x_1).pos + (1 : Int)) ∧ rA s_qMark x [.bool true, .box 0 [sgs x_1.1.sg, .int .i64 ((xh x_1).pos + (1 : Int)), .bool (xh x_1).bad, .int .i64 (xh x_1).deep, onds (xh x_1).nodes], .top]) (rA s_qMark x [.bool false, srd x_1.1 (xh x_1), .top])) (fun x => by kernel_rfl) fun (x : ST × Int × Int × Bool × List Nd × List UInt8) (hx : rOk x.1 (xh x)) => (by
  dsimp only [cA, ndA_e, onds, rA, s_qIs, s_qMark, sgA_e, sgs, srd, hndL, hnd1, mvL, lnL, mvE, lnE]
  obtain ⟨s, p, d, b, ns, m⟩ := x; dsimp only [xg, xh] at hx ⊢
  have hx : rOk s ⟨p, d, b, ns⟩ := hx; have hs := rOk_n hx; dsimp only at hs
  (repeat' first | (with_reducible first | rfl | exact True.intro | apply inR_i64 | apply And.intro | ((first | apply bcase_dec | apply bcase_bne | apply bcase_beq | apply bcase_not) <;> intro _)) | (apply bcase_intro <;> intro _) | apply sl_eq | refine ex_flip () ?_ ?_ | ((first | apply ex_flip10 | apply ex_flip9 | apply ex_flip8 | apply ex_flip7 | apply ex_flip6 | apply ex_flip5 | apply ex_flip4 | apply ex_flip3 | apply ex_flip2) <;> try dsimp only) | apply ex_flip | (refine Prod.forall.2 ?_; intro _; try dsimp only) | (intro _; try dsimp only))
  all_goals first
    | rfl
    | exact hx
    | omega
    | (simp [gSkip, gAdv, *]; done)
    | ((try simp only [i64max]); omega)
    | skip)
def s_qWord  : Sig := { X := ST × Int × Int × Bool × List Nd × List UInt8, args := fun x => [srd x.1 (xh x), .str x.2.2.2.2.2], pre := fun x => rOk x.1 (xh x), Y := Unit, post := fun x y => True, res := fun x y => .bool (isG x.1.sg (xh x) 1 x.2.2.2.2.2), outs := fun x y => [srd x.1 (gWord x.1.sg (xh x) x.2.2.2.2.2), .top], keep := true }
theorem qWord_ok  : Contract G Tryz.prog 70 s_qWord :=
  vcFun_okP [(106, 0, s_qIs)] [] false (fun x => []) Tryz.func70 rfl (by decide) ⟨qIs_ok, trivial⟩ (fun (x : ST × Int × Int × Bool × List Nd × List UInt8) => True ∧ cA s_qIs [srd x.1 (xh x), .int .i64 (1 : Int), .str x.2.2.2.2.2] fun x_1 y => bcase (isG x_1.1.sg (xh x_1) x_1.2.2.2.2.2.1 x_1.2.2.2.2.2.2) (inR IntKind.i64 ((xh x_1).pos + (1 : Int)) ∧ rA s_qWord x [.bool true, .box 0 [sgs x_1.1.sg, .int .i64 ((xh x_1).pos + (1 : Int)), .bool (xh x_1).bad, .int .i64 (xh x_1).deep, onds (xh x_1).nodes], .top]) (rA s_qWord x [.bool false, srd x_1.1 (xh x_1), .top])) (fun x => by kernel_rfl) fun (x : ST × Int × Int × Bool × List Nd × List UInt8) (hx : rOk x.1 (xh x)) => (by
  dsimp only [cA, ndA_e, onds, rA, s_qIs, s_qWord, sgA_e, sgs, srd, hndL, hnd1, mvL, lnL, mvE, lnE]
  obtain ⟨s, p, d, b, ns, m⟩ := x; dsimp only [xg, xh] at hx ⊢
  have hx : rOk s ⟨p, d, b, ns⟩ := hx; have hs := rOk_n hx; dsimp only at hs
  (repeat' first | (with_reducible first | rfl | exact True.intro | apply inR_i64 | apply And.intro | ((first | apply bcase_dec | apply bcase_bne | apply bcase_beq | apply bcase_not) <;> intro _)) | (apply bcase_intro <;> intro _) | apply sl_eq | refine ex_flip () ?_ ?_ | ((first | apply ex_flip10 | apply ex_flip9 | apply ex_flip8 | apply ex_flip7 | apply ex_flip6 | apply ex_flip5 | apply ex_flip4 | apply ex_flip3 | apply ex_flip2) <;> try dsimp only) | apply ex_flip | (refine Prod.forall.2 ?_; intro _; try dsimp only) | (intro _; try dsimp only))
  all_goals first
    | rfl
    | exact hx
    | omega
    | (simp [gWord, gAdv, *]; done)
    | ((try simp only [i64max]); omega)
    | skip)
def s_qWants  : Sig := { X := ST × Int × Int × Bool × List Nd × List UInt8, args := fun x => [srd x.1 (xh x), .str x.2.2.2.2.2], pre := fun x => rOk x.1 (xh x), Y := Unit, post := fun x y => True, res := fun x y => .tup [], outs := fun x y => [srd x.1 (gTake x.1.sg (xh x) x.2.2.2.2.2), .top], keep := true }
theorem qWants_ok  : Contract G Tryz.prog 72 s_qWants :=
  vcFun_okP [(73, 0, s_qMark)] [] false (fun x => []) Tryz.func72 rfl (by decide) ⟨qMark_ok, trivial⟩ (fun (x : ST × Int × Int × Bool × List Nd × List UInt8) => True ∧ cA s_qMark [srd x.1 (xh x), .str x.2.2.2.2.2] fun x_1 y => bcase (!isG x_1.1.sg (xh x_1) (4 : Int) x_1.2.2.2.2.2) (rA s_qWants x [.tup [], .box 0 [sgs x_1.1.sg, .int .i64 (gSkip x_1.1.sg (xh x_1) x_1.2.2.2.2.2).pos, .bool true, .int .i64 (gSkip x_1.1.sg (xh x_1) x_1.2.2.2.2.2).deep, onds (gSkip x_1.1.sg (xh x_1) x_1.2.2.2.2.2).nodes], .top]) (rA s_qWants x [.tup [], srd x_1.1 (gSkip x_1.1.sg (xh x_1) x_1.2.2.2.2.2), .top])) (fun x => by kernel_rfl) fun (x : ST × Int × Int × Bool × List Nd × List UInt8) (hx : rOk x.1 (xh x)) => (by
  dsimp only [cA, ndA_e, onds, rA, s_qMark, s_qWants, sgA_e, sgs, srd, hndL, hnd1, mvL, lnL, mvE, lnE]
  obtain ⟨s, p, d, b, ns, m⟩ := x; dsimp only [xg, xh] at hx ⊢
  have hx : rOk s ⟨p, d, b, ns⟩ := hx; have hs := rOk_n hx; dsimp only at hs
  (repeat' first | (with_reducible first | rfl | exact True.intro | apply inR_i64 | apply And.intro | ((first | apply bcase_dec | apply bcase_bne | apply bcase_beq | apply bcase_not) <;> intro _)) | (apply bcase_intro <;> intro _) | apply sl_eq | refine ex_flip () ?_ ?_ | ((first | apply ex_flip10 | apply ex_flip9 | apply ex_flip8 | apply ex_flip7 | apply ex_flip6 | apply ex_flip5 | apply ex_flip4 | apply ex_flip3 | apply ex_flip2) <;> try dsimp only) | apply ex_flip | (refine Prod.forall.2 ?_; intro _; try dsimp only) | (intro _; try dsimp only))
  all_goals first
    | rfl
    | exact hx
    | (simp [gTake, gSkip, gAdv, gBad, *]; done)
    | ((try simp only [i64max]); omega)
    | skip)
def s_qKind  : Sig := { X := ST × Int × Int × Bool × List Nd × Int, args := fun x => [srd x.1 (xh x), .int .i64 x.2.2.2.2.2], pre := fun x => rOk x.1 (xh x) ∧ x.2.2.2.2.2 ≠ 0, Y := Unit, post := fun x y => True, res := fun x y => .bool (kdG x.1.sg (xh x) x.2.2.2.2.2), outs := fun x y => [srd x.1 (xh x), .top], keep := true }
theorem qKind_ok  : Contract G Tryz.prog 68 s_qKind :=
  vcFun_okP [(105, 0, s_sKw)] [] false (fun x => []) Tryz.func68 rfl (by decide) ⟨sKw_ok, trivial⟩ (fun (x : ST × Int × Int × Bool × List Nd × Int) => True ∧ true = true ∧ true = true ∧ bcase (!(xh x).bad) (bcase (decide ((xh x).pos < (↑(List.length x.1.sg) : Int))) (((0 : Int) ≤ (xh x).pos ∧ (xh x).pos < (↑(List.length x.1.sg) : Int)) ∧ ∀ (e : Sg), x.1.sg[Int.toNat (xh x).pos]? = some e → bcase (e.kind == x.2.2.2.2.2) (bcase (x.2.2.2.2.2 != (1 : Int)) (rA s_qKind x [.bool true, srd x.1 (xh x), .top]) (((0 : Int) ≤ (xh x).pos ∧ (xh x).pos < (↑(List.length x.1.sg) : Int)) ∧ ∀ (e : Sg), x.1.sg[Int.toNat (xh x).pos]? = some e → ∃ (x_1 : List UInt8), True ∧ e.text = x_1 ∧ ∃ (y0 : Unit), (∀ (y : Unit), True → AV.bool (kw x_1) = AV.bool (kw x_1)) ∧ true = true ∧ rA s_qKind x [.bool !kw x_1, srd x.1 (xh x), .top])) (rA s_qKind x [.bool false, srd x.1 (xh x), .top])) (rA s_qKind x [.bool false, srd x.1 (xh x), .top])) (rA s_qKind x [.bool false, srd x.1 (xh x), .top])) (fun x => by kernel_rfl) fun (x : ST × Int × Int × Bool × List Nd × Int) (hx : rOk x.1 (xh x) ∧ x.2.2.2.2.2 ≠ 0) => (by
  dsimp only [ndA_e, onds, rA, s_qKind, sgA_e, sgs, srd, hndL, hnd1]
  obtain ⟨s, p, d, b, ns, k⟩ := x; dsimp only [xg, xh] at hx ⊢
  obtain ⟨h1, h2⟩ := hx; have hs := rOk_n h1; dsimp only at hs
  (repeat' first | (with_reducible first | rfl | exact True.intro | apply inR_i64 | apply And.intro | ((first | apply bcase_dec | apply bcase_bne | apply bcase_beq | apply bcase_not) <;> intro _)) | (apply bcase_intro <;> intro _) | apply sl_eq | refine ex_flip () ?_ ?_ | ((first | apply ex_flip10 | apply ex_flip9 | apply ex_flip8 | apply ex_flip7 | apply ex_flip6 | apply ex_flip5 | apply ex_flip4 | apply ex_flip3 | apply ex_flip2) <;> try dsimp only) | apply ex_flip | (refine Prod.forall.2 ?_; intro _; try dsimp only) | (intro _; try dsimp only))
  all_goals (try (repeat (rename s.sg[_]? = some _ => hq; revert hq; rename s.sg[_]? = some _ => hr; intro hq; rw [hr] at hq; cases hq)))
  all_goals first
    | rfl
    | exact (kdG_out h2 (.inl (by assumption))).symm
    | exact (kdG_out h2 (.inr (by simp only; omega))).symm
    | (rw [kdG_in (by assumption) (by assumption) (by simp only; omega)]; simp [*]; done)
    | ((try simp only [i64max]); omega)
    | skip)
def s_qText  : Sig := { X := ST × Int × Int × Bool × List Nd × Int, args := fun x => [srd x.1 (xh x), .int .i64 x.2.2.2.2.2], pre := fun x => rOk x.1 (xh x) ∧ x.2.2.2.2.2 ≠ 0, Y := Unit, post := fun x y => True, res := fun x y => .str (gTextT x.1.sg (xh x) x.2.2.2.2.2), outs := fun x y => [srd x.1 (gText x.1.sg (xh x) x.2.2.2.2.2), .top], keep := true }
theorem qText_ok  : Contract G Tryz.prog 69 s_qText :=
  vcFun_okP [(68, 0, s_qKind)] [] false (fun x => []) Tryz.func69 rfl (by decide) ⟨qKind_ok, trivial⟩ (fun (x : ST × Int × Int × Bool × List Nd × Int) => True ∧ cA s_qKind [srd x.1 (xh x), .int .i64 x.2.2.2.2.2] fun x_1 y => bcase (!kdG x_1.1.sg (xh x_1) x_1.2.2.2.2.2) (rA s_qText x [.str #[].toList, .box 0 [sgs x_1.1.sg, .int .i64 (xh x_1).pos, .bool true, .int .i64 (xh x_1).deep, onds (xh x_1).nodes], .top]) (inR IntKind.i64 ((xh x_1).pos + (1 : Int)) ∧ true = true ∧ true = true ∧ inR IntKind.i64 ((xh x_1).pos + (1 : Int) - (1 : Int)) ∧ ((0 : Int) ≤ (xh x_1).pos + (1 : Int) - (1 : Int) ∧ (xh x_1).pos + (1 : Int) - (1 : Int) < (↑(List.length x_1.1.sg) : Int)) ∧ ∀ (e : Sg), x_1.1.sg[Int.toNat ((xh x_1).pos + (1 : Int) - (1 : Int))]? = some e → rA s_qText x [.str e.text, .box 0 [sgs x_1.1.sg, .int .i64 ((xh x_1).pos + (1 : Int)), .bool (xh x_1).bad, .int .i64 (xh x_1).deep, onds (xh x_1).nodes], .top])) (fun x => by kernel_rfl) fun (x : ST × Int × Int × Bool × List Nd × Int) (hx : rOk x.1 (xh x) ∧ x.2.2.2.2.2 ≠ 0) => (by
  dsimp only [cA, ndA_e, onds, rA, s_qKind, s_qText, sgA_e, sgs, srd, hndL, hnd1, mvL, lnL, mvE, lnE]
  obtain ⟨s, p, d, b, ns, k⟩ := x; dsimp only [xg, xh] at hx ⊢
  obtain ⟨h1, h2⟩ := hx; have hs := rOk_n h1; dsimp only at hs
  (repeat' first | (with_reducible first | rfl | exact True.intro | apply inR_i64 | apply And.intro | ((first | apply bcase_dec | apply bcase_bne | apply bcase_beq | apply bcase_not) <;> intro _)) | (apply bcase_intro <;> intro _) | apply sl_eq | refine ex_flip () ?_ ?_ | ((first | apply ex_flip10 | apply ex_flip9 | apply ex_flip8 | apply ex_flip7 | apply ex_flip6 | apply ex_flip5 | apply ex_flip4 | apply ex_flip3 | apply ex_flip2) <;> try dsimp only) | apply ex_flip | (refine Prod.forall.2 ?_; intro _; try dsimp only) | (intro _; try dsimp only))
  all_goals first
    | rfl
    | exact h1
    | exact h2
    | (simp [gText, gTextT, gAdv, gBad, *]; done)
    | exact tx_at (by assumption) h2 (by assumption)
    | (have hl := kdG_lt h2 (show kdG _ _ _ = true by assumption); dsimp only at hl; (try simp only [i64max]); omega)
    | ((try simp only [i64max]); omega)
    | skip)
def s_qPut  : Sig := { X := ST × Int × Int × Bool × List Nd × Int × List UInt8 × List Int, args := fun x => [srd x.1 (xh x), .int .i64 x.2.2.2.2.2.1, .str x.2.2.2.2.2.2.1, oints x.2.2.2.2.2.2.2], pre := fun x => rOk x.1 (xh x), Y := Unit, post := fun x y => True, res := fun x y => .int .i64 (gAddK (xh x)), outs := fun x y => [srd x.1 (gAdd (xh x) ⟨x.2.2.2.2.2.1, x.2.2.2.2.2.2.1, x.2.2.2.2.2.2.2, false⟩), .top, .top, .top], keep := true }
theorem qPut_ok  : Contract G Tryz.prog 43 s_qPut :=
  vcFun_okP [] [(32, ⟨Nd,ndA true⟩)] false (fun x => []) Tryz.func43 rfl (by decide) trivial (fun (x : ST × Int × Int × Bool × List Nd × Int × List UInt8 × List Int) => True ∧ bcase (xh x).bad (rA s_qPut x [.int .i64 (0 : Int), .box 0 [sgs x.1.sg, .int .i64 (xh x).pos, .bool true, .int .i64 (xh x).deep, onds (xh x).nodes], .top, .top, .top]) (bcase (decide ((↑(List.length (xh x).nodes) : Int) ≥ (300 : Int))) (rA s_qPut x [.int .i64 (0 : Int), .box 0 [sgs x.1.sg, .int .i64 (xh x).pos, .bool true, .int .i64 (xh x).deep, onds (xh x).nodes], .top, .top, .top]) (∃ (x_1 : Nd), x.2.2.2.2.2.1 = x_1.kind ∧ x.2.2.2.2.2.2.1 = x_1.text ∧ oints x.2.2.2.2.2.2.2 = oints x_1.kids ∧ false = x_1.blank ∧ ∃ (zs : List Nd), onds [x_1] = onds zs ∧ leafy (ndA true) ∧ room (List.length (xh x).nodes + List.length zs) (56 : Nat) ∧ inR IntKind.i64 ((↑(List.length ((xh x).nodes ++ zs)) : Int) - (1 : Int)) ∧ ∃ (y : Unit), True ∧ (↑(List.length ((xh x).nodes ++ zs)) : Int) - (1 : Int) = gAddK (xh x) ∧ sgs x.1.sg = sgs x.1.sg ∧ (xh x).pos = (gAdd (xh x) { kind := x.2.2.2.2.2.1, text := x.2.2.2.2.2.2.1, kids := x.2.2.2.2.2.2.2, blank := false }).pos ∧ (xh x).bad = (gAdd (xh x) { kind := x.2.2.2.2.2.1, text := x.2.2.2.2.2.2.1, kids := x.2.2.2.2.2.2.2, blank := false }).bad ∧ (xh x).deep = (gAdd (xh x) { kind := x.2.2.2.2.2.1, text := x.2.2.2.2.2.2.1, kids := x.2.2.2.2.2.2.2, blank := false }).deep ∧ onds ((xh x).nodes ++ zs) = onds (gAdd (xh x) { kind := x.2.2.2.2.2.1, text := x.2.2.2.2.2.2.1, kids := x.2.2.2.2.2.2.2, blank := false }).nodes ∧ True))) (fun x => by kernel_rfl) fun (x : ST × Int × Int × Bool × List Nd × Int × List UInt8 × List Int) (hx : rOk x.1 (xh x)) => (by
  dsimp only [ndA_e, oints, onds, rA, s_qPut, sgA_e, sgs, srd, hndL, hnd1]
  obtain ⟨s, p, d, b, ns, k, t, ks⟩ := x; dsimp only [xg, xh] at hx ⊢
  have hx : rOk s ⟨p, d, b, ns⟩ := hx; have hs := rOk_n hx; dsimp only at hs
  (repeat' first | refine ex_ndr ?_ | (with_reducible first | rfl | exact True.intro | apply inR_i64 | apply And.intro | ((first | apply bcase_dec | apply bcase_bne | apply bcase_beq | apply bcase_not) <;> intro _)) | (apply bcase_intro <;> intro _) | apply sl_eq | refine ex_flip () ?_ ?_ | ((first | apply ex_flip10 | apply ex_flip9 | apply ex_flip8 | apply ex_flip7 | apply ex_flip6 | apply ex_flip5 | apply ex_flip4 | apply ex_flip3 | apply ex_flip2) <;> try dsimp only) | apply ex_flip | (refine Prod.forall.2 ?_; intro _; try dsimp only) | (intro _; try dsimp only))
  all_goals first
    | rfl
    | (simp [gAdd, gAddK, gFull, gBad, *]; done)
    | (have hn : ns.length = 300 := by omega
       simp [gAdd, gAddK, gFull, gBad, *]; done)
    | (have hn : ns.length ≠ 300 := by omega
       simp [gAdd, gAddK, gFull, gBad, *]; done)
    | ((try simp only [i64max, room, List.length_append, List.length_cons, List.length_nil]); omega)
    | skip)
def s_qBlank  : Sig := { X := ST × Int × Int × Bool × List Nd, args := fun x => [srd x.1 (xg x)], pre := fun x => rOk x.1 (xg x), Y := Unit, post := fun x y => True, res := fun x y => .bool (blG x.1.sg (xg x)), outs := fun x y => [srd x.1 (xg x)], keep := true }
theorem qBlank_ok  : Contract G Tryz.prog 40 s_qBlank :=
  vcFun_okP [] [] false (fun x => []) Tryz.func40 rfl (by decide) trivial (fun (x : ST × Int × Int × Bool × List Nd) => True ∧ true = true ∧ true = true ∧ bcase (decide ((xg x).pos < (↑(List.length x.1.sg) : Int))) (((0 : Int) ≤ (xg x).pos ∧ (xg x).pos < (↑(List.length x.1.sg) : Int)) ∧ ∀ (e : Sg), x.1.sg[Int.toNat (xg x).pos]? = some e → rA s_qBlank x [.bool e.blank, srd x.1 (xg x)]) (rA s_qBlank x [.bool false, srd x.1 (xg x)])) (fun x => by kernel_rfl) fun (x : ST × Int × Int × Bool × List Nd) (hx : rOk x.1 (xg x)) => (by
  dsimp only [ndA_e, onds, rA, s_qBlank, sgA_e, sgs, srd, hndL, hnd1]
  obtain ⟨s, p, d, b, ns⟩ := x; dsimp only [xg, xh] at hx ⊢
  have hx : rOk s ⟨p, d, b, ns⟩ := hx; have hs := rOk_n hx; dsimp only at hs
  (repeat' first | (with_reducible first | rfl | exact True.intro | apply inR_i64 | apply And.intro | ((first | apply bcase_dec | apply bcase_bne | apply bcase_beq | apply bcase_not) <;> intro _)) | (apply bcase_intro <;> intro _) | apply sl_eq | refine ex_flip () ?_ ?_ | ((first | apply ex_flip10 | apply ex_flip9 | apply ex_flip8 | apply ex_flip7 | apply ex_flip6 | apply ex_flip5 | apply ex_flip4 | apply ex_flip3 | apply ex_flip2) <;> try dsimp only) | apply ex_flip | (refine Prod.forall.2 ?_; intro _; try dsimp only) | (intro _; try dsimp only))
  all_goals first
    | rfl
    | (simp [blG, sgO_at (show s.sg[_]? = some _ by assumption), *]; done)
    | (simp [blG, *]; done)
    | ((try simp only [i64max]); omega)
    | skip)
def s_qBlanked  : Sig := { X := ST × Int × Int × Bool × List Nd × Int × Bool, args := fun x => [srd x.1 (xh x), .int .i64 x.2.2.2.2.2.1, .bool x.2.2.2.2.2.2], pre := fun x => rOk x.1 (xh x) ∧ ((xh x).bad = false → 0 ≤ x.2.2.2.2.2.1), Y := Unit, post := fun x y => True, res := fun x y => .tup [], outs := fun x y => [srd x.1 (gBl (xh x) x.2.2.2.2.2.1 x.2.2.2.2.2.2), .top, .top], keep := true }
theorem qBlanked_ok  : Contract G Tryz.prog 42 s_qBlanked :=
  vcFun_okP [] [(32, ⟨Nd,ndA true⟩)] false (fun x => []) Tryz.func42 rfl (by decide) trivial (fun (x : ST × Int × Int × Bool × List Nd × Int × Bool) => True ∧ bcase (!(xh x).bad) (bcase (decide (x.2.2.2.2.2.1 < (↑(List.length (xh x).nodes) : Int))) (((0 : Int) ≤ x.2.2.2.2.2.1 ∧ x.2.2.2.2.2.1 < (↑(List.length (xh x).nodes) : Int)) ∧ Int.toNat x.2.2.2.2.2.1 < List.length (xh x).nodes ∧ ∀ (x_1 : Nd), (xh x).nodes[Int.toNat x.2.2.2.2.2.1]? = some x_1 → ∃ (x' : Nd), ([.int .i64 x'.kind, .str x'.text, oints x'.kids] = [.int .i64 x_1.kind, .str x_1.text, oints x_1.kids] ∧ (@List.nil AV) = []) ∧ x.2.2.2.2.2.2 = x'.blank ∧ rA s_qBlanked x [.tup [], .box 0 [sgs x.1.sg, .int .i64 (xh x).pos, .bool (xh x).bad, .int .i64 (xh x).deep, onds (List.set (xh x).nodes (Int.toNat x.2.2.2.2.2.1) x')], .top, .top]) (rA s_qBlanked x [.tup [], srd x.1 (xh x), .top, .top])) (rA s_qBlanked x [.tup [], srd x.1 (xh x), .top, .top])) (fun x => by kernel_rfl) fun (x : ST × Int × Int × Bool × List Nd × Int × Bool) (hx : rOk x.1 (xh x) ∧ ((xh x).bad = false → 0 ≤ x.2.2.2.2.2.1)) => (by
  dsimp only [ndA_e, oints, onds, rA, s_qBlanked, sgA_e, sgs, srd, hndL, hnd1]
  obtain ⟨s, p, d, b, ns, k, bl⟩ := x; dsimp only [xg, xh] at hx ⊢
  obtain ⟨hx, hk⟩ := hx
  have hx : rOk s ⟨p, d, b, ns⟩ := hx; have hs := rOk_n hx; dsimp only at hs
  (repeat' first | refine ex_ndB ?_ | (with_reducible first | rfl | exact True.intro | apply inR_i64 | apply And.intro | ((first | apply bcase_dec | apply bcase_bne | apply bcase_beq | apply bcase_not) <;> intro _)) | (apply bcase_intro <;> intro _) | apply sl_eq | refine ex_flip () ?_ ?_ | ((first | apply ex_flip10 | apply ex_flip9 | apply ex_flip8 | apply ex_flip7 | apply ex_flip6 | apply ex_flip5 | apply ex_flip4 | apply ex_flip3 | apply ex_flip2) <;> try dsimp only) | apply ex_flip | (refine Prod.forall.2 ?_; intro _; try dsimp only) | (intro _; try dsimp only))
  all_goals first
    | rfl
    | (simp [gBl, *]; done)
    | exact bl_set (g := ⟨p, d, b, ns⟩) (by assumption) (by assumption) (by assumption)
    | (have hk2 := hk (by assumption); (try simp only [i64max]); omega)
    | ((try simp only [i64max]); omega)
    | skip)
end Go.My
end
section
set_option linter.unusedVariables false
set_option linter.unusedSimpArgs false
namespace Go.My
open Go.Eng
theorem nod_alt {sg : List Sg} {x : Gs} {f : Ps → PR} {k k' : Int} {y y' : Gs} (h : nodP sg x f (k, y)) (h1 : gsOk sg y') (h2 : y'.deep = y.deep) (h3 : y.pos ≤ y'.pos) (h4 : pur y' = pur y) (h5 : y'.bad = false → k' = k) : nodP sg x f (k', y') := by
  obtain ⟨⟨a1, a2, a3, a4, a5⟩, b⟩ := h
  simp only at a1 a2 a3 a4 a5 b
  have hb : y'.bad = y.bad := by
    cases hy : y.bad with
    | true => exact pur_none.1 (h4.trans (pur_t hy))
    | false =>
      cases hy' : y'.bad with
      | false => rfl
      | true => rw [pur_t hy', pur_f hy] at h4; cases h4
  refine ⟨⟨h1, by simp only; omega, by simp only; omega, by simp only; rw [h4]; exact a4, fun p hp => ?_⟩, fun hw => ?_⟩
  · simp only
    have := a5 p hp
    rw [h5 ?_]
    · exact this
    · cases hy : y'.bad with
      | false => rfl
      | true => rw [← h4, pur_t hy, hp] at a4; cases a4
  · simp only at hw ⊢
    have := b (by rw [← hb]; exact hw); omega
theorem rest_alt {α : Type} {sg : List Sg} {x y y' : Gs} {f g : Ps → Option (α × Ps)} {d : Int} (h : restP sg x f y g d) (h1 : gsOk sg y') (h2 : y'.deep = y.deep) (h3 : y.pos ≤ y'.pos) (h4 : pur y' = pur y) : restP sg x f y' g d := by
  obtain ⟨a1, a2, a3, a4⟩ := h
  exact ⟨h1, by omega, by omega, by rw [h4]; exact a4⟩
theorem add_adv {sg : List Sg} {g : Gs} {w : Nd} (h : gsOk sg g) (hl : g.pos < sg.length) (hw : nodB w) : gsOk sg (gAdd (gAdv g) w) ∧ (gAdd (gAdv g) w).deep = (gPass (gAdd g w)).deep ∧ (gPass (gAdd g w)).pos ≤ (gAdd (gAdv g) w).pos ∧ pur (gAdd (gAdv g) w) = pur (gPass (gAdd g w)) ∧ gAddK (gAdv g) = gAddK g := by
  refine ⟨add_ok (adv_ok h hl) hw, ?_⟩
  cases hf : gFull g with
  | true =>
    have hf2 : gFull (gAdv g) = true := hf
    simp only [gAdd, gAddK, hf, hf2, if_true]
    simp [gPass, gBad, gAdv, pur]; omega
  | false =>
    have hf2 : gFull (gAdv g) = false := hf
    have := (full_f hf).1
    simp only [gAdd, gAddK, hf, hf2, Bool.false_eq_true, if_false]
    simp [gPass, gBad, gAdv, pur, this]
theorem nod_cl {sg : List Sg} {x g : Gs} {f : Ps → PR} {m : List UInt8} {w : Nd} (hg : gsOk sg g) (hw : nodB w) (h : nodP sg x f (gCloseK sg g m, gClose sg g m w)) : nodP sg x f (gAddK (gTake sg g m), gAdd (gTake sg g m) w) := by
  cases hq : isG sg g 4 m with
  | true =>
    obtain ⟨a, b, c, d, e⟩ := add_adv hg (isG_lt hq (by omega)).2 hw
    simp only [gClose, gCloseK, gTake, hq, if_true] at h ⊢
    exact nod_alt h a b c d (fun _ => e)
  | false =>
    simp only [gClose, gCloseK, gTake, hq, Bool.false_eq_true, if_false] at h ⊢
    have hf : gFull (gBad g) = true := by simp [gFull, gBad]
    simp only [gAdd, gAddK, hf, if_true]
    exact nod_alt h hg rfl (Int.le_refl _) rfl (fun _ => rfl)
theorem kdG_f {sg : List Sg} {g : Gs} {k : Int} (hk : k ≠ 1) : kdG sg g k = decide ((pkG sg g 0).kind = k) := by simp [kdG, hk]
theorem leaf_alt {sg : List Sg} {x g : Gs} {f : Ps → PR} {k c : Int} (hs : sgB sg) (hg : gsOk sg g) (hk : k ≠ 0) (hq : kdG sg g k = true) (h : nodP sg x f (gAddK g, gLeaf sg g c false)) : nodP sg x f (gAddK (gText sg g k), gAdd (gText sg g k) ⟨c, gTextT sg g k, [], false⟩) := by
  have hl := kdG_lt hk hq
  have hw : nodB ⟨c, (pkG sg g 0).text, [], false⟩ := ⟨pkG_text hs, by simp⟩
  obtain ⟨a1, a2, a3, a4, a5⟩ := add_adv hg hl.2 hw
  simp only [gText, gTextT, hq, if_true]
  exact nod_alt h a1 a2 a3 a4 (fun _ => a5)
theorem name_alt {sg : List Sg} {g : Gs} (hs : sgB sg) (hg : gsOk sg g) : nodP sg g (nameR sg) (gAddK (gText sg g 1), gAdd (gText sg g 1) ⟨1, gTextT sg g 1, [], false⟩) := by
  have h := nameN_nod hs hg
  cases hq : nmG sg g 0 with
  | true =>
    refine leaf_alt hs hg (by omega) (by rw [kdG_1]; exact hq) ?_
    simp only [gNameN, gNameK, hq, if_true] at h; exact h
  | false =>
    have hq2 : kdG sg g 1 = false := by rw [kdG_1]; exact hq
    simp only [gNameN, gNameK, hq, Bool.false_eq_true, if_false] at h
    have hf : gFull (gBad g) = true := by simp [gFull, gBad]
    simp only [gText, gTextT, hq2, Bool.false_eq_true, if_false, gAdd, gAddK, hf, if_true]
    exact nod_alt h hg rfl (Int.le_refl _) rfl (fun _ => rfl)
theorem name_tx {sg : List Sg} {g : Gs} : gText sg g 1 = gName sg g ∧ gTextT sg g 1 = gNameT sg g := by
  simp only [gText, gName, gTextT, gNameT, kdG_1]; exact ⟨trivial, trivial⟩
theorem take_b {sg : List Sg} {g : Gs} {m : List UInt8} (h : g.bad = true) : gTake sg g m = g := by
  have : isG sg g 4 m = false := isG_t (pur_t h) (by omega)
  simp only [gTake, this, Bool.false_eq_true, if_false, gBad]
  cases g; simp only at h; simp [h]
theorem take_y {sg : List Sg} {g : Gs} {m : List UInt8} (h : isG sg g 4 m = true) : gTake sg g m = gAdv g := by simp [gTake, h]
theorem take_n {sg : List Sg} {g : Gs} {m : List UInt8} (h : isG sg g 4 m = false) : gTake sg g m = gBad g := by simp [gTake, h]
theorem putR_lt {w : Nd} {s : Ps} (h : ¬ 300 ≤ s.nodes.length) : putR w s = some ((s.nodes.length : Int), ⟨s.pos, s.deep, s.nodes ++ [w]⟩) := if_neg h
theorem putR_ge {w : Nd} {s : Ps} (h : 300 ≤ s.nodes.length) : putR w s = none := if_pos h
def chS (sg : List Sg) (n l : Nat) (x y : Gs) (t : List UInt8) (ks : List Int) (N : Nat) : Prop :=
  restP sg x (pE sg (n + 1) (.chain l)) y (chF sg n l N t ks) 0 ∧ (2 * ((sg.length : Int) - y.pos) + 4 ≤ N ∨ (t = [] ∧ 2 * ((sg.length : Int) - y.pos) + 3 ≤ N)) ∧ (ks.length : Int) ≤ y.pos + 1 ∧ (y.bad = false → x.pos < y.pos) ∧ (t = [] → ks.length = 1) ∧ (t ≠ [] → 2 ≤ ks.length ∧ t ∈ marksAt l)
theorem cs_0 {sg : List Sg} {x : Gs} {n l : Nat} {z : Int × Gs} (h : gsOk sg x) (hl : l ≠ 6) (h1 : nodP sg x (pE sg n (.chain (l + 1))) z) : chS sg n l x z.2 [] [z.1] (2 * sg.length + 4) := by
  obtain ⟨a, b, c⟩ := ch_0 h hl h1
  have := a.1.1
  exact ⟨a, .inr ⟨rfl, b⟩, by simp; omega, c, fun _ => rfl, fun h => (h rfl).elim⟩
theorem mark_nodB {sg : List Sg} {l : Nat} {m : List UInt8} {ks : List Int} (hs : sgB sg) (hml : m ∈ marksAt l) (hk : (ks.length : Int) ≤ sg.length + 1) : nodB ⟨7, m, ks, false⟩ := by
  refine ⟨?_, by have := hs.1; simp only; omega⟩
  simp only
  unfold marksAt at hml
  split at hml <;> simp at hml <;> (first | (subst hml; simp) | (rcases hml with rfl | rfl <;> simp))
theorem cs_a {sg : List Sg} {n l : Nat} {x y : Gs} {t : List UInt8} {ks : List Int} {N : Nat} {z : Int × Gs} (h : chS sg n l x y t ks N) (hm : chMG sg l y ≠ []) (ht : t = [] ∨ chMG sg l y = t) (hz : nodP sg (gAdv y) (pE sg n (.chain (l + 1))) z) :
    chS sg n l x z.2 (chMG sg l y) (ks ++ [z.1]) (N - 1) ∧ N - 1 < N := by
  obtain ⟨h1, hN, hk, hb, hk1, hk2⟩ := h
  have hq := (chMG_is hm).1
  have hp := h1.1.1
  have hl := isG_lt hq (by omega)
  match N with
  | 0 => omega
  | M + 1 =>
    refine ⟨?_, by omega⟩
    have k1 := rest_adv (g' := fun s => (pE sg n (.chain (l + 1)) s).bind fun p => chF sg n l M (chMG sg l y) (ks ++ [p.1]) p.2) h1 (by omega) hq (fun s hs hts => by
      rw [chF, chnR, if_neg ?_, if_neg (by rw [chMG_f hs]; exact hm), chMG_f hs]; rfl
      rw [chMG_f hs]; rintro ⟨q1, q2⟩; rcases ht with ht | ht
      · exact q1 ht
      · exact q2 ht)
    have k2 := rest_res (k := fun k s => chF sg n l M (chMG sg l y) (ks ++ [k]) s) k1 hz.1 (fun _ _ => rfl)
    have e := nod_dp hz
    simp only [gAdv] at e
    have := h1.2.2.1
    simp only [Nat.add_sub_cancel]
    refine ⟨k2, .inl (by omega), by simp; omega, fun hb2 => by omega, fun he => (hm he).elim, fun _ => ⟨?_, (chMG_is hm).2⟩⟩
    simp only [List.length_append, List.length_cons, List.length_nil]
    rcases Classical.em (t = []) with e0 | e0
    · have := hk1 e0; omega
    · have := (hk2 e0).1; omega
theorem cs_b {sg : List Sg} {n l : Nat} {x y : Gs} {t : List UInt8} {ks : List Int} {N : Nat} {z : Int × Gs} (hs : sgB sg) (h : chS sg n l x y t ks N) (hm : chMG sg l y ≠ []) (ht : t ≠ []) (hne : chMG sg l y ≠ t) (hz : nodP sg (gAdd (gAdv y) ⟨7, t, ks, false⟩) (pE sg n (.chain (l + 1))) z) :
    chS sg n l x z.2 (chMG sg l y) ([gAddK (gAdv y)] ++ [z.1]) (N - 2) ∧ N - 2 < N := by
  obtain ⟨h1, hN, hk, hb, hk1, hk2⟩ := h
  have hq := (chMG_is hm).1
  have hp := h1.1.1
  have hl := isG_lt hq (by omega)
  have hN2 : 2 * ((sg.length : Int) - y.pos) + 4 ≤ N := by
    rcases hN with h | h
    · exact h
    · exact (ht h.1).elim
  match N with
  | 0 => omega
  | 1 => omega
  | M + 2 =>
    refine ⟨?_, by omega⟩
    have hw : nodB ⟨7, t, ks, false⟩ := mark_nodB hs (hk2 ht).2 (by omega)
    have k1 := rest_adv (g' := fun s => (putR ⟨7, t, ks, false⟩ s).bind fun p => (pE sg n (.chain (l + 1)) p.2).bind fun q => chF sg n l M (chMG sg l y) ([p.1] ++ [q.1]) q.2) h1 (by omega) hq (fun s hs hts => by
      rw [chF, chnR, if_pos ⟨ht, by rw [chMG_f hs]; exact hne⟩]
      by_cases h3 : 300 ≤ s.nodes.length
      · rw [putR_ge h3, putR_ge (s := adv s) h3]; rfl
      · rw [putR_lt h3, putR_lt (s := adv s) h3]
        simp only [Option.bind_some]
        have e : chMark sg l ⟨s.pos, s.deep, s.nodes ++ [⟨7, t, ks, false⟩]⟩ = chMG sg l y := by rw [← chMG_f hs]; rfl
        rw [chnR, if_neg (by simp), if_neg (by rw [e]; exact hm), e]; rfl)
    have k2 := rest_res (k := fun k s => (pE sg n (.chain (l + 1)) s).bind fun q => chF sg n l M (chMG sg l y) ([k] ++ [q.1]) q.2) k1 (add_res k1.1 hw) (fun _ _ => rfl)
    have k3 := rest_res (k := fun k s => chF sg n l M (chMG sg l y) ([gAddK (gAdv y)] ++ [k]) s) k2 hz.1 (fun _ _ => rfl)
    have e := nod_dp hz
    obtain ⟨d1, d2, d3⟩ := @add_dp (gAdv y) ⟨7, t, ks, false⟩
    rw [d2] at e; simp only [gAdv] at e
    have := h1.2.2.1
    simp only [Nat.add_sub_cancel]
    refine ⟨k3, .inl (by omega), by simp; omega, fun hb2 => by omega, fun he => (hm he).elim, fun _ => ⟨by simp, (chMG_is hm).2⟩⟩
theorem cs_e1 {sg : List Sg} {n l : Nat} {x y : Gs} {t : List UInt8} {ks : List Int} {N : Nat} {k : Int} (h : chS sg n l x y t ks N) (hm : y.bad = true ∨ chMG sg l y = []) (hl : ks.length = 1) (hk : ks[0]? = some k) : nodP sg x (pE sg (n + 1) (.chain l)) (k, y) := by
  obtain ⟨h1, hN, hk0, hb, hk1, hk2⟩ := h
  rcases hm with hm | hm
  · exact ⟨rest_bad h1 hm, fun hb2 => by simp only at hb2; rw [hm] at hb2; cases hb2⟩
  · have ht : t = [] := by
      rcases Classical.em (t = []) with e0 | e0
      · exact e0
      · have := (hk2 e0).1; omega
    subst ht
    have hp := h1.1.1
    match ks, hl with
    | [k0], _ =>
      simp at hk; subst hk
      match N with
      | 0 => omega
      | N + 1 => exact ⟨rest_done (rest_to h1 (g' := fun s => some (k0, s)) (fun s hs => by rw [chF, chnR, if_neg (by simp), if_pos (by rw [chMG_f hs, hm])]; rfl)), hb⟩
theorem cs_e2 {sg : List Sg} {n l : Nat} {x y : Gs} {t : List UInt8} {ks : List Int} {N : Nat} (hs : sgB sg) (h : chS sg n l x y t ks N) (hm : y.bad = true ∨ chMG sg l y = []) (hl : ks.length ≠ 1) : nodP sg x (pE sg (n + 1) (.chain l)) (gAddK y, gAdd y ⟨7, t, ks, false⟩) := by
  obtain ⟨h1, hN, hk0, hb, hk1, hk2⟩ := h
  have ht : t ≠ [] := fun e => hl (hk1 e)
  have hp := h1.1.1
  have hw : nodB ⟨7, t, ks, false⟩ := mark_nodB hs (hk2 ht).2 (by omega)
  obtain ⟨d1, d2, d3⟩ := @add_dp y ⟨7, t, ks, false⟩
  have hN2 : 2 * ((sg.length : Int) - y.pos) + 4 ≤ N := by
    rcases hN with h | h
    · exact h
    · exact (ht h.1).elim
  match N with
  | 0 => omega
  | 1 => omega
  | M + 2 =>
    have k1 : restP sg x (pE sg (n + 1) (.chain l)) y (putR ⟨7, t, ks, false⟩) 0 := by
      rcases hm with hm | hm
      · exact rest_to h1 (fun s hs => by rw [pur_t hm] at hs; cases hs)
      · refine rest_to h1 (fun s hs => ?_)
        rw [chF, chnR, if_pos ⟨ht, by rw [chMG_f hs, hm]; exact Ne.symm ht⟩, putR]
        split
        · rfl
        · simp only [Option.bind_some]
          have e : chMark sg l ⟨s.pos, s.deep, s.nodes ++ [⟨7, t, ks, false⟩]⟩ = [] := by rw [← hm, ← chMG_f hs]; rfl
          rw [chnR, if_neg (by simp), if_pos e]; rfl
    exact ⟨rest_add k1 hw, fun hb2 => by simp only [d2]; exact hb (d3 hb2)⟩
def gM (y : Gs) (m : List UInt8) : Gs := if m = [] then y else gAdv y
theorem gM_n {y : Gs} : gM y [] = y := rfl
theorem gM_y {y : Gs} {m : List UInt8} (h : m ≠ []) : gM y m = gAdv y := if_neg h
def mkQ (sg : List Sg) (y : Gs) (l : Nat) (i : Int) (m : List UInt8) : Prop := (0 ≤ i ∧ i ≤ (marksAt l).length) ∧ ((m = [] ∧ chMG sg l y = (((marksAt l).drop i.toNat).find? fun m => isG sg y 4 m).getD []) ∨ (m ≠ [] ∧ m = chMG sg l y))
theorem mq_0 {sg : List Sg} {y : Gs} {l : Nat} : mkQ sg y l 0 [] := ⟨by omega, .inl ⟨rfl, rfl⟩⟩
theorem mq_n {sg : List Sg} {y : Gs} {l : Nat} {i : Int} {m v : List UInt8} (h : mkQ sg y l i m) (hm : m = []) (ha : (marksAt l)[i.toNat]? = some v) (hg : isG sg (gM y m) 4 v = false) : mkQ sg y l (i + 1) m := by
  subst hm
  have hlt := (List.getElem?_eq_some_iff.1 ha).1
  refine ⟨by have := h.1; omega, ?_⟩
  rcases h.2 with h2 | h2
  · left; refine ⟨rfl, ?_⟩
    rw [h2.2, List.drop_eq_getElem_cons hlt, (List.getElem?_eq_some_iff.1 ha).2, List.find?_cons_of_neg (by simp; exact hg), show (i + 1).toNat = i.toNat + 1 by have := h.1; omega]
  · exact (h2.1 rfl).elim
theorem mq_y {sg : List Sg} {y : Gs} {l : Nat} {i : Int} {m v : List UInt8} (h : mkQ sg y l i m) (hm : m = []) (ha : (marksAt l)[i.toNat]? = some v) (hg : isG sg (gM y m) 4 v = true) : mkQ sg y l (i + 1) v ∧ gSkip sg (gM y m) v = gM y v := by
  subst hm
  have hlt := (List.getElem?_eq_some_iff.1 ha).1
  have hv := marks_ne (List.mem_of_getElem? ha)
  refine ⟨⟨by have := h.1; omega, .inr ⟨hv, ?_⟩⟩, ?_⟩
  · exact (chMG_of (List.mem_of_getElem? ha) hg).symm
  · rw [gM_n] at hg ⊢; rw [gM_y hv]; exact skip_yG hg
theorem mq_s {sg : List Sg} {y : Gs} {l : Nat} {i : Int} {m : List UInt8} (h : mkQ sg y l i m) (hi : i < ((marksAt l).length : Int)) (hm : m ≠ []) : mkQ sg y l (i + 1) m := by
  refine ⟨by have := h.1; omega, ?_⟩
  rcases h.2 with h2 | h2
  · exact (hm h2.1).elim
  · exact .inr h2
theorem mq_e {sg : List Sg} {y : Gs} {l : Nat} {i : Int} {m : List UInt8} (h : mkQ sg y l i m) (hi : ¬ i < ((marksAt l).length : Int)) : m = chMG sg l y := by
  rcases h.2 with h2 | h2
  · rw [h2.2, List.drop_eq_nil_of_le (by omega), h2.1]; rfl
  · exact h2.2
theorem pk_bad {sg : List Sg} {x : Gs} {f : Ps → PR} {a : Int} (h : gsOk sg x) (hb : x.bad = true) : nodP sg x f (a, x) := ⟨rest_bad (rest_0 h) hb, fun hb2 => by simp only at hb2; rw [hb] at hb2; cases hb2⟩
theorem en_alt {sg : List Sg} {n : Nat} {x y y' : Gs} {k k' : Int} {N : Nat} (h : enI sg n x y k N) (h1 : gsOk sg y') (h2 : y'.deep = y.deep) (h3 : y.pos ≤ y'.pos) (h4 : pur y' = pur y) (h5 : y'.bad = false → k' = k) : enI sg n x y' k' N := by
  obtain ⟨a, b, c⟩ := h
  cases hb : y'.bad with
  | false =>
    have hy : y.bad = false := by
      cases hy : y.bad with
      | false => rfl
      | true => rw [pur_t hy, pur_f hb] at h4; cases h4
    rw [h5 hb]
    exact ⟨rest_alt a h1 h2 h3 h4, fun _ => by have := b hy; omega, fun _ => by have := c hy; omega⟩
  | true =>
    have hy : y.bad = true := by
      cases hy : y.bad with
      | true => rfl
      | false => rw [pur_t hb, pur_f hy] at h4; cases h4
    refine ⟨rest_to (rest_alt a h1 h2 h3 h4) (fun s hs => by rw [pur_t hb] at hs; cases hs), fun e => (Bool.noConfusion (hb.symm.trans e)), fun e => (Bool.noConfusion (hb.symm.trans e))⟩
theorem en_of {sg : List Sg} {n : Nat} {x y : Gs} {a k : Int} {N : Nat} (h : nodP sg x (pE sg (n + 1) .fin) (a, y)) (hb : y.bad = true) : enI sg n x y k N :=
  ⟨rest_to (res_rest h.1) (fun s hs => by rw [pur_t hb] at hs; cases hs), fun e => (Bool.noConfusion (hb.symm.trans e)), fun e => (Bool.noConfusion (hb.symm.trans e))⟩
theorem en_q {sg : List Sg} {n : Nat} {x y : Gs} {k : Int} {N : Nat} (hs : sgB sg) (h : enI sg n x y k N) (hp : isG sg y 4 [40] = false) (hq : isG sg y 4 [46] = true) :
    enI sg n x (gAdd (gText sg (gAdv y) 1) ⟨6, gTextT sg (gAdv y) 1, [k], false⟩) (gAddK (gText sg (gAdv y) 1)) (N - 1) ∧ N - 1 < N := by
  have hl := isG_lt hq (by omega)
  obtain ⟨M, rfl⟩ := en_pos h hl.1
  refine ⟨?_, by omega⟩
  have ho := adv_ok h.1.1 hl.2
  have hw : nodB ⟨6, (pkG sg (gAdv y) 0).text, [k], false⟩ := ⟨pkG_text hs, by simp⟩
  cases hn : nmG sg (gAdv y) 0 with
  | true =>
    obtain ⟨M', e, h2⟩ := en_dot hs h hp hq hn
    have : M' = M := by omega
    subst this
    obtain ⟨a1, a2, a3, a4, a5⟩ := add_adv ho (by have := (nmG_lt hn).2; omega) hw
    have e1 : gText sg (gAdv y) 1 = gAdv (gAdv y) := by rw [gText, kdG_1, if_pos hn]
    have e2 : gTextT sg (gAdv y) 1 = (pkG sg (gAdv y) 0).text := by rw [gTextT, kdG_1, if_pos hn]
    rw [e1, e2]
    exact en_alt h2 a1 a2 a3 a4 (fun _ => a5)
  | false =>
    have h2 := en_dotB (a := 0) h hp hq hn
    have e1 : gText sg (gAdv y) 1 = gBad (gAdv y) := by rw [gText, kdG_1, if_neg (by simp [hn])]
    have hf : gFull (gBad (gAdv y)) = true := by simp [gFull, gBad]
    rw [e1]
    have e3 : gAdd (gBad (gAdv y)) ⟨6, gTextT sg (gAdv y) 1, [k], false⟩ = gBad (gBad (gAdv y)) := if_pos hf
    rw [e3]
    exact en_of (a := 0) (nod_alt h2 ho rfl (Int.le_refl _) rfl (fun _ => rfl)) rfl
def vlQ (sg : List Sg) (one : Ps → PR) (m : List UInt8) (ks0 : List Int) (x : Gs) (y : List Int × Gs) : Prop := ∃ l : List Int × Gs, (resP sg x (listR sg one m (sg.length + 1) []) l ∧ l.1.length ≤ 3001) ∧ y = (ks0 ++ l.1, gTake sg l.2 m)
theorem vq_ok {s : ST} {one : Ps → PR} {m : List UInt8} {ks0 : List Int} {x : Gs} {y : List Int × Gs} (hs : sgB s.sg) (h : vlQ s.sg one m ks0 x y) : rOk s y.2 ∧ y.1.length ≤ ks0.length + 3001 ∧ y.2.deep = x.deep ∧ x.pos ≤ y.2.pos := by
  obtain ⟨l, ⟨h1, h2⟩, rfl⟩ := h
  have t := tk_b (m := m) h1.1
  have := h1.2.1; have := h1.2.2.1
  exact ⟨⟨hs, t.1⟩, by simp; omega, by simp only; omega, by simp only; omega⟩
theorem vq_call {sg : List Sg} {x : Gs} {one : Ps → PR} {k : Int} {y : List Int × Gs} (hx : gsOk sg x) (h : vlQ sg one [41] [k] (gTake sg x [40]) y) : nodP sg x (callR sg one k) (gAddK y.2, gAdd y.2 ⟨5, [], y.1, false⟩) := by
  obtain ⟨l, ⟨h1, h2⟩, rfl⟩ := h
  exact nod_cl h1.1 ⟨by simp, by simp; omega⟩ (call_nod hx ⟨h1, h2⟩)
theorem val_go2 {sg : List Sg} {x y : Gs} {n N : Nat} {ks : List Int} {c w : Int × Gs} (h : valI sg n x y ks N) (hq : isG sg y 4 [46, 46] = true) (hc : nodP sg (gAdv y) (nameR sg) c)
    (h2 : nodP sg c.2 (callR sg (pE sg n .value) c.1) w) : ∃ M, N = M + 1 ∧ valI sg n x w.2 (ks ++ [w.1]) M := by
  obtain ⟨h1, hN, hk, hb⟩ := h
  obtain ⟨hl1, hl⟩ := isG_lt hq (by omega)
  match N with
  | 0 => omega
  | M + 1 =>
    refine ⟨M, rfl, ?_⟩
    have k1 := rest_adv (g' := fun s => ((nameR sg s).bind fun p => (callR sg (pE sg n .value) p.1 p.2).bind fun q => casR sg (pE sg n .value) M (ks ++ [q.1]) q.2).bind fun q => putR ⟨10, [], q.1, false⟩ q.2)
      h1 (by omega) hq (fun s hs ht => by rw [casR, if_pos (show isM sg s [46, 46] = true from ht)])
    have k2 := rest_res (k := fun k s => ((callR sg (pE sg n .value) k s).bind fun q => casR sg (pE sg n .value) M (ks ++ [q.1]) q.2).bind fun q => putR ⟨10, [], q.1, false⟩ q.2) k1 hc.1 (fun s _ => by simp only [Option.bind_assoc])
    have k3 := rest_res (k := fun k s => (casR sg (pE sg n .value) M (ks ++ [k]) s).bind fun q => putR ⟨10, [], q.1, false⟩ q.2) k2 h2.1 (fun s _ => by simp only [Option.bind_assoc])
    have e0 : (gAdv y).pos ≤ c.2.pos := hc.1.2.2.1
    have e1 := nod_dp h2
    have ea : (gAdv y).pos = y.pos + 1 := rfl
    refine ⟨k3, by omega, by simp; omega, fun hb2 => ?_⟩
    have := h1.2.2.1
    omega
theorem arr_S {sg : List Sg} (hm : sgM sg) {s : Ps} (h0 : 0 ≤ s.pos) (h : arrow sg s = true) : arrowS sg s = true := by
  have hp : ∀ (n : Nat) (i : Int), 0 ≤ i → 0 ≤ arrF sg n i := by
    intro n
    induction n with
    | zero => intro i hi; simpa [arrF] using hi
    | succ n ih =>
      intro i hi; rw [arrF]; split
      · split
        · exact ih _ (by omega)
        · omega
      · exact hi
  exact arr_cmp hm _ _ (by omega) (by rw [← arrowU_T hm (hp _ _ (by omega))]; exact h)
theorem arr_N {sg : List Sg} (hm : sgM sg) {s : Ps} (h0 : 0 ≤ s.pos) (h1 : arrowS sg s = true) (h2 : arrow sg s = false) (N : Nat) : listR sg (nameR sg) [41] N [] (adv s) = none := by
  have hp : ∀ (n : Nat) (i : Int), 0 ≤ i → 0 ≤ arrF sg n i := by
    intro n
    induction n with
    | zero => intro i hi; simpa [arrF] using hi
    | succ n ih =>
      intro i hi; rw [arrF]; split
      · split
        · exact ih _ (by omega)
        · omega
      · exact hi
  exact arr_bad hm (sg.length + 1) (s.pos + 1) (by omega) h1 (by rw [← arrowU_T hm (hp _ _ (by omega))]; exact h2) N [] (adv s) rfl
theorem bs_fn {sg : List Sg} {x : Gs} {n : Nat} {z : Int × Gs} (hm : sgM sg) (hx : gsOk sg x) (h1 : (pkG sg x 0).kind ≠ 1) (h2 : (pkG sg x 0).kind ≠ 2) (h3 : (pkG sg x 0).kind ≠ 3) (hn : isG sg x 4 [91] = false) (hq : isG sg x 4 [40] = true)
    (ha : ∀ s, pur x = some s → arrowS sg s = true) (hz : nodP sg x (fnR sg n) z) : nodP sg x (pE sg (n + 1) .base) z := by
  refine nod_eq hz (fun s hs => ?_)
  have h0 : 0 ≤ s.pos := by obtain ⟨_, rfl⟩ := pur_some.1 hs; exact hx.1.1
  cases har : arrow sg s with
  | true => rw [ba_mk hs h1 h2 h3, if_neg (by simp [tst_n hs hn]), if_pos (by simp [tst_y hs hq, har]), fnR, wantM, if_pos (tst_y hs hq)]; rfl
  | false =>
    rw [ba_mk hs h1 h2 h3, if_neg (by simp [tst_n hs hn]), if_neg (by simp [har]), if_pos (tst_y hs hq), arr_val (x := ⟨0, [], [], false⟩) hm h0 (ha s hs) har (fun k => ⟨11, [], [k], false⟩), fnR, wantM, if_pos (tst_y hs hq)]
    simp only [Option.bind_some]
    rw [arr_N hm h0 (ha s hs) har]; rfl
theorem bs_par {sg : List Sg} {x : Gs} {n : Nat} {z : Int × Gs} (hm : sgM sg) (h : gsOk sg x) (h1 : (pkG sg x 0).kind ≠ 1) (h2 : (pkG sg x 0).kind ≠ 2) (h3 : (pkG sg x 0).kind ≠ 3) (hn : isG sg x 4 [91] = false) (hq : isG sg x 4 [40] = true)
    (ha : ∀ s, pur x = some s → arrowS sg s = false) (hz : nodP sg (gAdv x) (pE sg n .value) z) :
    nodP sg x (pE sg (n + 1) .base) (gAddK (gTake sg z.2 [41]), gAdd (gTake sg z.2 [41]) ⟨11, [], [z.1], false⟩) := by
  refine nod_cl (nod_ok hz) ⟨by simp, by simp⟩ (ba_par h h1 h2 h3 hn hq (fun s hs => ?_) hz)
  have h0 : 0 ≤ s.pos := by obtain ⟨_, rfl⟩ := pur_some.1 hs; exact h.1.1
  cases har : arrow sg s with
  | false => rfl
  | true => have := arr_S hm h0 har; rw [ha s hs] at this; cases this
end Go.My
end
