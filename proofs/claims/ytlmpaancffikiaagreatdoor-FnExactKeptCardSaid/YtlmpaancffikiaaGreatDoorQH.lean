/- A part of the proof: the engine and the contracts, joined. -/
import Derived.Test.YtlmpaancffikiaaGreatDoorQG
section
set_option linter.unusedVariables false
set_option linter.unusedSimpArgs false
namespace Go.My
open Go.Eng Go.Proofs
variable {G : GInv}
theorem name_b {sg : List Sg} {f : Ps → PR} {x : Gs} {y : Int × Gs} (h : nodP sg x f y) (hb : x.bad = false → x.deep ≤ 20) : y.2.bad = false → y.2.deep ≤ 20 := fun hy => by
  have := nod_dp h; have h2 := hb (this.2.2.2 hy).1; omega
theorem tk_b {sg : List Sg} {x : Gs} {m : List UInt8} (h : gsOk sg x) : gsOk sg (gTake sg x m) ∧ (gTake sg x m).deep = x.deep ∧ x.pos ≤ (gTake sg x m).pos ∧ ((gTake sg x m).bad = false → x.bad = false) := by
  obtain ⟨a1, a2, a3, a4⟩ := (take_step (m := m) h).1
  refine ⟨a1, a2, a3, fun hb => ?_⟩
  cases hx : x.bad with
  | false => rfl
  | true => rw [pur_t hx, pur_f hb] at a4; cases a4
theorem fn_l {s : ST} {x : Gs} (h : rOk s x) : rOk s (gTake s.sg x [40]) := ⟨h.1, (tk_b h.2).1⟩
theorem fn_1 {s : ST} {x : Gs} {one : Ps → PR} {l : List Int × Gs} (h : rOk s x) (hl : resP s.sg (gTake s.sg x [40]) (listR s.sg one [41] (s.sg.length + 1) []) l ∧ l.1.length ≤ 3001) : rOk s l.2 := ⟨h.1, hl.1.1⟩
theorem fn_2 {s : ST} {x : Gs} {one : Ps → PR} {l : List Int × Gs} (h : rOk s x) (hl : resP s.sg (gTake s.sg x [40]) (listR s.sg one [41] (s.sg.length + 1) []) l ∧ l.1.length ≤ 3001) : rOk s (gTake s.sg l.2 [41]) := ⟨h.1, (tk_b hl.1.1).1⟩
theorem fn_3 {s : ST} {x : Gs} {n : Nat} {one : Ps → PR} {l : List Int × Gs} (h : rOk s x) (hd : x.deep ≤ 20) (hq : isG s.sg x 4 [40] = true) (hn : 12 * ((s.sg.length : Int) - x.pos) ≤ n + 2) (hl : resP s.sg (gTake s.sg x [40]) (listR s.sg one [41] (s.sg.length + 1) []) l ∧ l.1.length ≤ 3001) :
    vP 10 n s (gTake s.sg (gTake s.sg l.2 [41]) [61, 62]) := by
  have a := tk_b (m := [40]) h.2; have b := tk_b (m := [41]) hl.1.1; have c := tk_b (m := [61, 62]) b.1
  have e1 := hl.1.2.1; have e2 := hl.1.2.2.1
  have e3 : (gTake s.sg x [40]).pos = x.pos + 1 := by rw [gTake, if_pos hq]; rfl
  exact ⟨⟨⟨h.1, c.1⟩, by omega⟩, by omega⟩
theorem fn_4 {s : ST} {x y : Gs} {f : Ps → PR} {z : Int × Gs} (h : rOk s x) (hz : nodP s.sg y f z) : rOk s z.2 := ⟨h.1, nod_ok hz⟩
theorem fn_5 {s : ST} {x : Gs} {n : Nat} {l : List Int × Gs} {z : Int × Gs} (h : rOk s x) (hl : resP s.sg (gTake s.sg x [40]) (listR s.sg (nameR s.sg) [41] (s.sg.length + 1) []) l ∧ l.1.length ≤ 3001)
    (hz : nodP s.sg (gTake s.sg (gTake s.sg l.2 [41]) [61, 62]) (pE s.sg n .pick) z) : nodP s.sg x (fnR s.sg n) (gAddK z.2, gAdd z.2 ⟨9, [], l.1 ++ [z.1], false⟩) := fn_all h.2 hl.1 hl.2 hz
theorem mk_at {e : Int} {v : List (List UInt8)} (ha : [[[124, 124]], [[38, 38]], [[61, 61]], [[60]], [[43], [45]], [[42]]][e.toNat]? = some v) (h0 : 0 ≤ e) (h5 : e ≤ 5) : v = marksAt e.toNat := by
  have : e = 0 ∨ e = 1 ∨ e = 2 ∨ e = 3 ∨ e = 4 ∨ e = 5 := by omega
  rcases this with rfl | rfl | rfl | rfl | rfl | rfl <;> (simp at ha; rw [← ha]; rfl)
theorem mk_len {l : Nat} : (marksAt l).length ≤ 2 := by
  unfold marksAt; split <;> simp
def mkI (sg : List Sg) (g : Gs) (l : Nat) (i : Int) : Prop := (0 ≤ i ∧ i ≤ (marksAt l).length) ∧ chMG sg l g = (((marksAt l).drop i.toNat).find? fun m => isG sg g 4 m).getD []
theorem mk_0 {sg : List Sg} {g : Gs} {l : Nat} : mkI sg g l 0 := ⟨by omega, rfl⟩
theorem mk_y {sg : List Sg} {g : Gs} {l : Nat} {i : Int} {m : List UInt8} (h : mkI sg g l i) (ha : (marksAt l)[i.toNat]? = some m) (hg : isG sg g 4 m = true) : m = chMG sg l g := by
  rw [h.2, List.drop_eq_getElem_cons (List.getElem?_eq_some_iff.1 ha).1, (List.getElem?_eq_some_iff.1 ha).2, List.find?_cons_of_pos hg]; rfl
theorem mk_n {sg : List Sg} {g : Gs} {l : Nat} {i : Int} {m : List UInt8} (h : mkI sg g l i) (ha : (marksAt l)[i.toNat]? = some m) (hg : isG sg g 4 m = false) : mkI sg g l (i + 1) := by
  have hlt := (List.getElem?_eq_some_iff.1 ha).1
  obtain ⟨h1, h2⟩ := h
  refine ⟨by omega, ?_⟩
  rw [h2, List.drop_eq_getElem_cons hlt, (List.getElem?_eq_some_iff.1 ha).2, List.find?_cons_of_neg (by simp [hg]), show (i + 1).toNat = i.toNat + 1 by omega]
theorem mk_e {sg : List Sg} {g : Gs} {l : Nat} {i : Int} (h : mkI sg g l i) (hi : ¬ i < ((marksAt l).length : Int)) : [] = chMG sg l g := by
  rw [h.2, List.drop_eq_nil_of_le (by omega)]; rfl
def faI (sg : List Sg) (p : Int) (i : Int) (N : Nat) : Prop := (1 ≤ i ∧ i ≤ sg.length + 2 ∧ (sg.length : Int) - p - i < N) ∧ arrF sg (sg.length + 1) (p + 1) = arrF sg N (p + i)
theorem fa_0 {sg : List Sg} {p : Int} (h : 0 ≤ p) : faI sg p 1 (sg.length + 1) := ⟨by omega, rfl⟩
theorem fa_nm {sg : List Sg} {g : Gs} {i : Int} (hb : g.bad = false) : nmG sg g i = nmAt sg (g.pos + i) := nmG_f (pur_f hb)
theorem fa_s {sg : List Sg} {g : Gs} {i : Int} {N : Nat} (hp : 0 ≤ g.pos) (h : faI sg g.pos i N) (hb : g.bad = false) (hn : nmG sg g i = true) (ht : ((pkG sg g (i + 1)).text == [44]) = true) : faI sg g.pos (i + 1 + 1) (N - 1) ∧ N - 1 < N := by
  have ht : (pkG sg g (i + 1)).text = [44] := by simpa using ht
  obtain ⟨⟨h1, h2, h3⟩, h4⟩ := h
  have hl := (nmG_lt hn).2
  rw [fa_nm hb] at hn
  rw [pkG_f hb] at ht
  match N with
  | 0 => omega
  | N + 1 =>
    refine ⟨⟨⟨by omega, by omega, by simp; omega⟩, ?_⟩, by omega⟩
    rw [h4, arrF, if_pos hn, if_pos (by rw [show g.pos + i + 1 = g.pos + (i + 1) by omega]; exact ht)]
    simp only [Nat.add_sub_cancel]; congr 1; omega
theorem fa_e1 {sg : List Sg} {g : Gs} {i : Int} {N : Nat} (h : faI sg g.pos i N) (hb : g.bad = false) (hn : nmG sg g i = false) : arrow sg ⟨g.pos, g.deep, g.nodes⟩ = (((pkG sg g i).text == [41]) && ((pkG sg g (i + 1)).text == [61, 62])) := by
  rw [fa_nm hb] at hn
  have e : arrF sg (sg.length + 1) (g.pos + 1) = g.pos + i := by
    rw [h.2]
    match N with
    | 0 => rfl
    | N + 1 => rw [arrF, if_neg (by simp [hn])]
  simp only [arrow, e, pkG_f hb, show g.pos + (i + 1) = g.pos + i + 1 by omega]
theorem fa_e2 {sg : List Sg} {g : Gs} {i : Int} {N : Nat} (h : faI sg g.pos i N) (hb : g.bad = false) (hn : nmG sg g i = true) (ht : ((pkG sg g (i + 1)).text == [44]) = false) :
    arrow sg ⟨g.pos, g.deep, g.nodes⟩ = (((pkG sg g (i + 1)).text == [41]) && ((pkG sg g (i + 1 + 1)).text == [61, 62])) := by
  have ht : (pkG sg g (i + 1)).text ≠ [44] := by simpa using ht
  have hl := (nmG_lt hn).2
  rw [fa_nm hb] at hn
  rw [pkG_f hb] at ht
  have e : arrF sg (sg.length + 1) (g.pos + 1) = g.pos + (i + 1) := by
    obtain ⟨⟨h1, h2, h3⟩, h4⟩ := h
    rw [h4]
    match N with
    | 0 => omega
    | N + 1 => rw [arrF, if_pos hn, if_neg (by rw [show g.pos + i + 1 = g.pos + (i + 1) by omega]; exact ht)]; omega
  simp only [arrow, e, pkG_f hb, show g.pos + (i + 1 + 1) = g.pos + (i + 1) + 1 by omega]
attribute [local irreducible] pE listR callR fnR nodP resP gsOk gTake gClose gAdd gPass gLeaf gSkip gNameN gNameK gAddK gCloseK pkG isG nmG
def s_rMark  : Sig := { X := ST × Int × Int × Bool × List Nd × Int, args := fun x => [rdG x.1 (xh x), .int .i64 x.2.2.2.2.2], pre := fun x => rOk x.1 (xh x) ∧ 0 ≤ x.2.2.2.2.2 ∧ x.2.2.2.2.2 ≤ 5, Y := Unit, post := fun x y => True, res := fun x y => .str (chMG x.1.sg x.2.2.2.2.2.toNat (xh x)), outs := fun x y => [rdG x.1 (xh x), .top], keep := true }
def i_rMark  (x : ST × Int × Int × Bool × List Nd × Int) : LS := { ι := Int, inv := fun i => mkI x.1.sg (xh x) x.2.2.2.2.2.toNat i, regs := fun i => [(0, rdG x.1 (xh x)), (18, .sl false 0 1 (List UInt8) strA (marksAt x.2.2.2.2.2.toNat)), (19, .int .i64 (marksAt x.2.2.2.2.2.toNat).length), (20, .int .i64 i)], als := [], meas := fun i => (marksAt x.2.2.2.2.2.toNat).length - i.toNat }
theorem rMark_ok  : Contract G Tryz.prog 194 s_rMark :=
  vcFun_okP [(166, 0, s_rIs)] [(41, ⟨List UInt8,strA⟩), (152, ⟨List (List UInt8),fun l => [.sl false 0 1 (List UInt8) strA l]⟩)] false (fun x => [(3, i_rMark  x)]) Tryz.func194 rfl (by decide) ⟨rIs_ok, trivial⟩ (fun (x : ST × Int × Int × Bool × List Nd × Int) => True ∧ ∃ (x_1 : List UInt8), #[(124 : UInt8), (124 : UInt8)].toList = x_1 ∧ ∃ (x_2 : List UInt8), #[(38 : UInt8), (38 : UInt8)].toList = x_2 ∧ ∃ (x_3 : List UInt8), #[(61 : UInt8), (61 : UInt8)].toList = x_3 ∧ ∃ (x_4 : List UInt8), #[(60 : UInt8)].toList = x_4 ∧ ∃ (x_5 : List UInt8), #[(43 : UInt8)].toList = x_5 ∧ ∃ (x_6 : List UInt8), #[(45 : UInt8)].toList = x_6 ∧ ∃ (x_7 : List UInt8), #[(42 : UInt8)].toList = x_7 ∧ ∃ (x_8 : List (List UInt8)), AV.sl false (0 : Nat) (1 : Nat) (List UInt8) (fun (x : List UInt8) => fzL (strA x)) [x_1] = AV.sl false (0 : Nat) (1 : Nat) (List UInt8) strA x_8 ∧ ∃ (x_9 : List (List UInt8)), AV.sl false (0 : Nat) (1 : Nat) (List UInt8) (fun (x : List UInt8) => fzL (strA x)) [x_2] = AV.sl false (0 : Nat) (1 : Nat) (List UInt8) strA x_9 ∧ ∃ (x_10 : List (List UInt8)), AV.sl false (0 : Nat) (1 : Nat) (List UInt8) (fun (x : List UInt8) => fzL (strA x)) [x_3] = AV.sl false (0 : Nat) (1 : Nat) (List UInt8) strA x_10 ∧ ∃ (x_11 : List (List UInt8)), AV.sl false (0 : Nat) (1 : Nat) (List UInt8) (fun (x : List UInt8) => fzL (strA x)) [x_4] = AV.sl false (0 : Nat) (1 : Nat) (List UInt8) strA x_11 ∧ ∃ (x_12 : List (List UInt8)), AV.sl false (0 : Nat) (1 : Nat) (List UInt8) (fun (x : List UInt8) => fzL (strA x)) [x_5, x_6] = AV.sl false (0 : Nat) (1 : Nat) (List UInt8) strA x_12 ∧ ∃ (x_13 : List (List UInt8)), AV.sl false (0 : Nat) (1 : Nat) (List UInt8) (fun (x : List UInt8) => fzL (strA x)) [x_7] = AV.sl false (0 : Nat) (1 : Nat) (List UInt8) strA x_13 ∧ ((0 : Int) ≤ x.2.2.2.2.2 ∧ x.2.2.2.2.2 < (↑(List.length [x_8, x_9, x_10, x_11, x_12, x_13]) : Int)) ∧ Int.toNat x.2.2.2.2.2 < List.length [x_8, x_9, x_10, x_11, x_12, x_13] ∧ ∀ (x_14 : List (List UInt8)), [x_8, x_9, x_10, x_11, x_12, x_13][Int.toNat x.2.2.2.2.2]? = some x_14 → eA (i_rMark x) [rdG x.1 (xh x), AV.sl false (0 : Nat) (1 : Nat) (List UInt8) strA x_14, .int .i64 (↑(List.length x_14) : Int), .int .i64 (0 : Int)] ∧ ∀ (i : Int), mkI x.1.sg (xh x) (Int.toNat x.2.2.2.2.2) i → bcase (decide (i < (↑(List.length (marksAt (Int.toNat x.2.2.2.2.2))) : Int))) (((0 : Int) ≤ i ∧ i < (↑(List.length (marksAt (Int.toNat x.2.2.2.2.2))) : Int)) ∧ ∀ (e : List UInt8), (marksAt (Int.toNat x.2.2.2.2.2))[Int.toNat i]? = some e → cA s_rIs [rdG x.1 (xh x), .str e] fun x_15 y => bcase (isG x_15.1.sg (xh x_15) (4 : Int) x_15.2.2.2.2.2) (rA s_rMark x [.str e, rdG x_15.1 (xh x_15), .top]) (inR IntKind.i64 (i + (1 : Int)) ∧ eN (i_rMark x) i [rdG x_15.1 (xh x_15), AV.sl false (0 : Nat) (1 : Nat) (List UInt8) strA (marksAt (Int.toNat x.2.2.2.2.2)), .int .i64 (↑(List.length (marksAt (Int.toNat x.2.2.2.2.2))) : Int), .int .i64 (i + (1 : Int))])) (rA s_rMark x [.str #[].toList, rdG x.1 (xh x), .top])) (fun x => by kernel_rfl) fun (x : ST × Int × Int × Bool × List Nd × Int) (hx : rOk x.1 (xh x) ∧ 0 ≤ x.2.2.2.2.2 ∧ x.2.2.2.2.2 ≤ 5) => (by
  dsimp only [cA, eA, eN, i_rMark, mbs, ndA_e, onds, rA, rdG, s_rIs, s_rMark, sgA_e, sgs, hndL, hnd1, mvL, lnL, mvE, lnE, sndL]
  obtain ⟨s, p, d, b, ns, e⟩ := x; dsimp only [xg, xh] at hx ⊢
  obtain ⟨h1, h2, h3⟩ := hx
  (repeat' first | (with_reducible first | rfl | exact True.intro | apply inR_i64 | apply And.intro | ((first | apply bcase_dec | apply bcase_bne | apply bcase_beq | apply bcase_not) <;> intro _)) | (apply bcase_intro <;> intro _) | apply sl_eq | refine ex_flip () ?_ ?_ | ((first | apply ex_flip10 | apply ex_flip9 | apply ex_flip8 | apply ex_flip7 | apply ex_flip6 | apply ex_flip5 | apply ex_flip4 | apply ex_flip3 | apply ex_flip2) <;> try dsimp only) | apply ex_flip | (refine Prod.forall.2 ?_; intro _; try dsimp only) | (intro _; try dsimp only))
  all_goals (try dsimp only [xg, xh, yG, yS, iG] at *)
  all_goals first
    | rfl
    | exact h1
    | exact mk_0
    | exact mk_at (by assumption) h2 h3
    | (rename _ = some _ => ha; rw [mk_at ha h2 h3]; done)
    | exact mk_y (by assumption) (by assumption) (by assumption)
    | exact mk_n (by assumption) (by assumption) (by assumption)
    | exact mk_e (by assumption) (by assumption)
    | ((try simp only [List.length_cons, List.length_nil]); omega)
    | (have hq := And.left (show mkI _ _ _ _ by assumption); have hl := @mk_len e.toNat; (try simp only [i64max]); omega)
    | ((try simp only [room, List.length_cons, List.length_nil]); omega)
    | skip)
def s_rFnN  : Sig := { X := ST × Int × Int × Bool × List Nd, args := fun x => [rdG x.1 (xg x)], pre := fun x => rOk x.1 (xg x) ∧ (xg x).bad = false, Y := Unit, post := fun x y => True, res := fun x y => .bool (arrow x.1.sg ⟨(xg x).pos, (xg x).deep, (xg x).nodes⟩), outs := fun x y => [rdG x.1 (xg x)], keep := true }
def i_rFnN  (x : ST × Int × Int × Bool × List Nd) : LS := { ι := Int × Nat, inv := fun i => faI x.1.sg (xg x).pos i.1 i.2, regs := fun i => [(0, rdG x.1 (xg x)), (3, .int .i64 i.1)], als := [], meas := fun i => i.2 }
theorem rFnN_ok  : Contract G Tryz.prog 197 s_rFnN :=
  vcFun_okP [(167, 0, s_rNmN), (141, 0, s_rPeek)] [] false (fun x => [(2, i_rFnN  x)]) Tryz.func197 rfl (by decide) ⟨rNmN_ok, rPeek_ok, trivial⟩ (fun (x : ST × Int × Int × Bool × List Nd) => True ∧ eA (i_rFnN x) [rdG x.1 (xg x), .int .i64 (1 : Int)] ∧ ∀ (i : Int × Nat), faI x.1.sg (xg x).pos i.1 i.2 → cA s_rNmN [rdG x.1 (xg x), .int .i64 i.1] fun x_1 y => bcase (nmG x_1.1.sg (xh x_1) x_1.2.2.2.2.2) (inR IntKind.i64 (i.1 + (1 : Int)) ∧ cA s_rPeek [rdG x_1.1 (xh x_1), .int .i64 (i.1 + (1 : Int))] fun x_2 y => bcase (!(pkG x_2.1.sg (xh x_2) x_2.2.2.2.2.2).text == #[(44 : UInt8)].toList) (cA s_rPeek [rdG x_2.1 (xh x_2), .int .i64 (i.1 + (1 : Int))] fun x_3 y => bcase ((pkG x_3.1.sg (xh x_3) x_3.2.2.2.2.2).text == #[(41 : UInt8)].toList) (inR IntKind.i64 (i.1 + (1 : Int) + (1 : Int)) ∧ cA s_rPeek [rdG x_3.1 (xh x_3), .int .i64 (i.1 + (1 : Int) + (1 : Int))] fun x_4 y => rA s_rFnN x [.bool ((pkG x_4.1.sg (xh x_4) x_4.2.2.2.2.2).text == #[(61 : UInt8), (62 : UInt8)].toList), rdG x_4.1 (xh x_4)]) (rA s_rFnN x [.bool false, rdG x_3.1 (xh x_3)])) (inR IntKind.i64 (i.1 + (1 : Int) + (1 : Int)) ∧ eN (i_rFnN x) i [rdG x_2.1 (xh x_2), .int .i64 (i.1 + (1 : Int) + (1 : Int))])) (cA s_rPeek [rdG x_1.1 (xh x_1), .int .i64 i.1] fun x_2 y => bcase ((pkG x_2.1.sg (xh x_2) x_2.2.2.2.2.2).text == #[(41 : UInt8)].toList) (inR IntKind.i64 (i.1 + (1 : Int)) ∧ cA s_rPeek [rdG x_2.1 (xh x_2), .int .i64 (i.1 + (1 : Int))] fun x_3 y => rA s_rFnN x [.bool ((pkG x_3.1.sg (xh x_3) x_3.2.2.2.2.2).text == #[(61 : UInt8), (62 : UInt8)].toList), rdG x_3.1 (xh x_3)]) (rA s_rFnN x [.bool false, rdG x_2.1 (xh x_2)]))) (fun x => by kernel_rfl) fun (x : ST × Int × Int × Bool × List Nd) (hx : rOk x.1 (xg x) ∧ (xg x).bad = false) => (by
  dsimp only [cA, eA, eN, i_rFnN, mbs, ndA_e, onds, rA, rdG, s_rFnN, s_rNmN, s_rPeek, sgA_e, sgs, hndL, hnd1, mvL, lnL, mvE, lnE, sndL]
  obtain ⟨s, p, d, b, ns⟩ := x; dsimp only [xg, xh] at hx ⊢
  obtain ⟨h1, h2⟩ := hx; subst h2
  have hs := rOk_n h1; dsimp only at hs
  (repeat' first | (with_reducible first | rfl | exact True.intro | apply inR_i64 | apply And.intro | ((first | apply bcase_dec | apply bcase_bne | apply bcase_beq | apply bcase_not) <;> intro _)) | (apply bcase_intro <;> intro _) | apply sl_eq | refine ex_flip () ?_ ?_ | ((first | apply ex_flip10 | apply ex_flip9 | apply ex_flip8 | apply ex_flip7 | apply ex_flip6 | apply ex_flip5 | apply ex_flip4 | apply ex_flip3 | apply ex_flip2) <;> try dsimp only) | apply ex_flip | (refine Prod.forall.2 ?_; intro _; try dsimp only) | (intro _; try dsimp only))
  all_goals (try dsimp only [xg, xh, yG, yS, iG] at *)
  all_goals first
    | (show Nat; skip)
    | rfl
    | exact h1
    | exact fa_0 hs.1.1.1
    | exact (fa_s (g := ⟨p, d, false, ns⟩) hs.1.1.1 (by assumption) rfl (by assumption) (by assumption)).1
    | (have he := fa_e1 (g := ⟨p, d, false, ns⟩) (by assumption) rfl (by assumption); dsimp only at he; rw [he]; simp [*]; done)
    | (have he := fa_e2 (g := ⟨p, d, false, ns⟩) (by assumption) rfl (by assumption) (by assumption); dsimp only at he; rw [he]; simp [*]; done)
    | (have hq := And.left (show faI _ _ _ _ by assumption); (try simp only [i64max]); omega)
    | skip
  all_goals first
    | exact (fa_s (g := ⟨p, d, false, ns⟩) hs.1.1.1 (by assumption) rfl (by assumption) (by assumption)).2
    | skip)
def s_rFn (n : Nat) : Sig := { X := ST × Int × Int × Bool × List Nd, args := fun x => [rdG x.1 (xg x)], pre := fun x => ((rOk x.1 (xg x) ∧ (xg x).deep ≤ 20) ∧ isG x.1.sg (xg x) 4 [40] = true) ∧ 12 * ((x.1.sg.length : Int) - (xg x).pos) ≤ n + 2, Y := Int × Int × Int × Bool × List Nd, post := fun x y => nodP x.1.sg (xg x) (fnR x.1.sg n) (yS y), res := fun x y => .int .i64 y.1, outs := fun x y => [rdG x.1 (yG y.2)], keep := true }
theorem rFn_ok (n : Nat) (h : rAll G n) : Contract G Tryz.prog 198 (s_rFn n) :=
  vcFun_okP [(137, 0, s_rTake), (138, 139 + 1, s_rListN), (180, 0, (s_rPick n)), (104, 0, s_rAdd)] [(45, ⟨Int,intA⟩)] false (fun x => []) Tryz.func198 rfl (by decide) ⟨rTake_ok, rListN_ok, h.pick, rAdd_ok, trivial⟩ (fun (x : ST × Int × Int × Bool × List Nd) => True ∧ cA s_rTake [rdG x.1 (xg x), .str #[(40 : UInt8)].toList] fun x_1 y => (True ∧ True) ∧ cA s_rListN [rdG x_1.1 (gTake x_1.1.sg (xh x_1) x_1.2.2.2.2.2), .str #[(41 : UInt8)].toList, AV.clo (Fn.yield (139 : Nat)) [AV.al (0 : Nat)]] fun x_2 y => cA s_rTake [rdG x_2.1 (yG y.2), .str #[(41 : UInt8)].toList] fun x_3 y_1 => cA s_rTake [rdG x_3.1 (gTake x_3.1.sg (xh x_3) x_3.2.2.2.2.2), .str #[(61 : UInt8), (62 : UInt8)].toList] fun x_4 y_2 => cA (s_rPick n) [rdG x_4.1 (gTake x_4.1.sg (xh x_4) x_4.2.2.2.2.2)] fun x_5 y_3 => ∃ (x_6 : Int), y_3.1 = x_6 ∧ ∃ (zs : List Int), oints [x_6] = oints zs ∧ leafy intA ∧ room (List.length y.1 + List.length zs) (8 : Nat) ∧ cA s_rAdd [rdG x_5.1 (yG y_3.2), .agg [.int .i64 (9 : Int), .str #[].toList, oints (y.1 ++ zs), .bool false]] fun x_7 y => rA (s_rFn n) x [.int .i64 (gAddK (xh x_7)), rdG x_7.1 (gAdd (xh x_7) { kind := x_7.2.2.2.2.2.1, text := x_7.2.2.2.2.2.2.1, kids := x_7.2.2.2.2.2.2.2.1, blank := x_7.2.2.2.2.2.2.2.2 })]) (fun x => by kernel_rfl) fun (x : ST × Int × Int × Bool × List Nd) (hx : ((rOk x.1 (xg x) ∧ (xg x).deep ≤ 20) ∧ isG x.1.sg (xg x) 4 [40] = true) ∧ 12 * ((x.1.sg.length : Int) - (xg x).pos) ≤ n + 2) => (by
  dsimp only [cA, mbs, ndA_e, oints, onds, rA, rdG, s_rAdd, s_rFn, s_rListN, s_rPick, s_rTake, sgA_e, sgs, hndL, hnd1, mvL, lnL, mvE, lnE]
  obtain ⟨s, p, d, b, ns⟩ := x; dsimp only [xg, xh] at hx ⊢
  obtain ⟨⟨⟨h1, h2⟩, hq⟩, h3⟩ := hx
  (repeat' first | (with_reducible first | rfl | exact True.intro | apply inR_i64 | apply And.intro | ((first | apply bcase_dec | apply bcase_bne | apply bcase_beq | apply bcase_not) <;> intro _)) | (apply bcase_intro <;> intro _) | apply sl_eq | refine ex_flip () ?_ ?_ | ((first | apply ex_flip10 | apply ex_flip9 | apply ex_flip8 | apply ex_flip7 | apply ex_flip6 | apply ex_flip5 | apply ex_flip4 | apply ex_flip3 | apply ex_flip2) <;> try dsimp only) | apply ex_flip | (refine Prod.forall.2 ?_; intro _; try dsimp only) | (intro _; try dsimp only))
  all_goals (try dsimp only [xg, xh, yG, yS, iG] at *)
  all_goals (try simp only [gs_eta] at *)
  all_goals first
    | rfl
    | exact h1
    | exact fn_l h1
    | exact fn_1 h1 (by assumption)
    | exact fn_2 h1 (by assumption)
    | exact fn_3 h1 h2 hq h3 (by assumption)
    | exact fn_4 h1 (by assumption)
    | exact fn_5 h1 (by assumption) (by assumption)
    | (have hq2 := And.right (show resP _ _ _ _ ∧ _ by assumption); (try simp only [room, List.length_append, List.length_cons, List.length_nil]); omega)
    | skip)
end Go.My
end
section
set_option linter.unusedVariables false
set_option linter.unusedSimpArgs false
namespace Go.My
open Go.Eng Go.Proofs
variable {G : GInv}
theorem arr_of {sg : List Sg} {x : Gs} {a : Bool} (h : arrow sg ⟨x.pos, x.deep, x.nodes⟩ = a) : ∀ s, pur x = some s → arrow sg s = a := fun s hs => by
  obtain ⟨_, rfl⟩ := pur_some.1 hs; exact h
theorem adv_wP {s : ST} {x : Gs} {n r : Nat} {k : Int} {m : List UInt8} (hq : isG s.sg x k m = true) (hk : k ≠ 0) (h1 : rOk s x) (h2 : x.bad = false → x.deep ≤ 20) (h3 : 12 * ((s.sg.length : Int) - x.pos) + 1 ≤ (n + 1 : Nat)) (hr : r ≤ 12) : wP r n s (gAdv x) ∧ vP r n s (gAdv x) := by
  have hl := isG_lt hq hk
  have ha := adv_ok h1.2 hl.2
  have hd := h2 hl.1
  have e : (gAdv x).pos = x.pos + 1 := rfl
  have e2 : (gAdv x).deep = x.deep := rfl
  have a : 12 * ((s.sg.length : Int) - (gAdv x).pos) + r ≤ n := by omega
  exact ⟨⟨⟨⟨h1.1, ha⟩, fun _ => by omega⟩, a⟩, ⟨⟨⟨h1.1, ha⟩, by omega⟩, a⟩⟩
theorem bq_fnP {s : ST} {x : Gs} {n : Nat} (hq : isG s.sg x 4 [40] = true) (h1 : rOk s x) (h2 : x.bad = false → x.deep ≤ 20) (h3 : 12 * ((s.sg.length : Int) - x.pos) + 1 ≤ (n + 1 : Nat)) :
    x.deep ≤ 20 ∧ 12 * ((s.sg.length : Int) - x.pos) ≤ n + 2 := ⟨h2 (isG_lt hq (by omega)).1, by omega⟩
theorem ls_ok {s : ST} {x y : Gs} {f : Ps → PL} {l : List Int × Gs} {k : Int} (h1 : rOk s x) (hl : resP s.sg y f l ∧ l.1.length ≤ 3001) : rOk s l.2 ∧ nodB ⟨k, [], l.1, false⟩ := ⟨⟨h1.1, hl.1.1⟩, by simp, by have := hl.2; simp only; omega⟩
theorem bq_list {s : ST} {x : Gs} {n : Nat} {l : List Int × Gs} (h : rOk s x) (h1 : (pkG s.sg x 0).kind ≠ 1) (h2 : (pkG s.sg x 0).kind ≠ 2) (h3 : (pkG s.sg x 0).kind ≠ 3) (hq : isG s.sg x 4 [91] = true)
    (hl : resP s.sg (gAdv x) (listR s.sg (pE s.sg n .value) [93] (s.sg.length + 1) []) l ∧ l.1.length ≤ 3001) :
    nodP s.sg x (pE s.sg (n + 1) .base) (gCloseK s.sg l.2 [93], gClose s.sg l.2 [93] ⟨4, [], l.1, false⟩) := ba_list h.2 h1 h2 h3 hq hl.1 hl.2
theorem bq_par {s : ST} {x : Gs} {n : Nat} {z : Int × Gs} (h : rOk s x) (h1 : (pkG s.sg x 0).kind ≠ 1) (h2 : (pkG s.sg x 0).kind ≠ 2) (h3 : (pkG s.sg x 0).kind ≠ 3) (hn : isG s.sg x 4 [91] = false) (hq : isG s.sg x 4 [40] = true)
    (ha : arrow s.sg ⟨x.pos, x.deep, x.nodes⟩ = false) (hz : nodP s.sg (gAdv x) (pE s.sg n .value) z) :
    nodP s.sg x (pE s.sg (n + 1) .base) (gCloseK s.sg z.2 [41], gClose s.sg z.2 [41] ⟨11, [], [z.1], false⟩) := ba_par h.2 h1 h2 h3 hn hq (arr_of ha) hz
theorem bq_fn {s : ST} {x : Gs} {n : Nat} {z : Int × Gs} (h1 : (pkG s.sg x 0).kind ≠ 1) (h2 : (pkG s.sg x 0).kind ≠ 2) (h3 : (pkG s.sg x 0).kind ≠ 3) (hn : isG s.sg x 4 [91] = false) (hq : isG s.sg x 4 [40] = true)
    (ha : arrow s.sg ⟨x.pos, x.deep, x.nodes⟩ = true) (hz : nodP s.sg x (fnR s.sg n) z) : nodP s.sg x (pE s.sg (n + 1) .base) z := ba_fn h1 h2 h3 hn hq (arr_of ha) hz
theorem pos_k {s : ST} {x : Gs} {k : Int} (h : (pkG s.sg x 0).kind = k) (hk : k = 2 ∨ k = 3) : x.pos < s.sg.length := (kd_lt (by rw [h]; omega)).2
theorem lt_bad {s : ST} {x : Gs} {k : Int} {m : List UInt8} (hq : isG s.sg x k m = true) (hk : k ≠ 0) : x.bad = false := (isG_lt hq hk).1
abbrev enJ (sg : List Sg) (n : Nat) (x y : Gs) (k : Int) (N : Nat) : Prop := enI sg n x y k N ∧ (y.bad = false → y.deep ≤ 20)
theorem en_j0 {s : ST} {x : Gs} {n : Nat} {z : Int × Gs} (h1 : rOk s x) (h2 : x.bad = false → x.deep ≤ 20) (hz : nodP s.sg x (pE s.sg n .base) z) : enJ s.sg n x z.2 z.1 (s.sg.length + 1) := ⟨en_0 h1.2 hz, name_b hz h2⟩
theorem en_ok {s : ST} {x y : Gs} {n : Nat} {k : Int} {N : Nat} (h1 : rOk s x) (h : enJ s.sg n x y k N) : rOk s y := ⟨h1.1, h.1.1.1⟩
theorem en_wP {s : ST} {x y : Gs} {n : Nat} {k : Int} {N : Nat} (h1 : rOk s x) (h3 : 12 * ((s.sg.length : Int) - x.pos) + 2 ≤ (n + 1 : Nat)) (h : enJ s.sg n x y k N) (hq : isG s.sg y 4 [40] = true) : wP 11 n s y := by
  have hb := (isG_lt hq (by omega)).1
  have := h.1.2.2 hb
  exact ⟨⟨⟨h1.1, h.1.1.1⟩, h.2⟩, by omega⟩
theorem en_c {sg : List Sg} {n : Nat} {x y : Gs} {k : Int} {N : Nat} {w : Int × Gs} (h : enJ sg n x y k N) (hw : nodP sg y (callR sg (pE sg n .value) k) w) (hq : isG sg y 4 [40] = true) : enJ sg n x w.2 w.1 (N - 1) ∧ N - 1 < N := by
  obtain ⟨a, b⟩ := ex_pred (en_call h.1 hq hw)
  exact ⟨⟨a, name_b hw h.2⟩, b⟩
theorem en_d {sg : List Sg} {n : Nat} {x y : Gs} {k : Int} {N : Nat} (hs : sgB sg) (h : enJ sg n x y k N) (hp : isG sg y 4 [40] = false) (hq : isG sg y 4 [46] = true) (hn : nmG sg (gSkip sg y [46]) 0 = true) :
    enJ sg n x (gPass (gAdd (gSkip sg y [46]) ⟨6, (pkG sg (gSkip sg y [46]) 0).text, [k], false⟩)) (gAddK (gSkip sg y [46])) (N - 1) ∧ N - 1 < N := by
  rw [skip_yG hq] at hn ⊢
  obtain ⟨a, b⟩ := ex_pred (en_dot hs h.1 hp hq hn)
  have hl := isG_lt hq (by omega)
  have hl2 := nmG_lt hn
  have e : (gPass (gAdd (gAdv y) ⟨6, (pkG sg (gAdv y) 0).text, [k], false⟩)).deep = y.deep := by
    have := (@add_dp (gAdv y) ⟨6, (pkG sg (gAdv y) 0).text, [k], false⟩).1
    unfold gPass; split
    · exact this
    · exact this
  exact ⟨⟨a, fun _ => by rw [e]; exact h.2 hl.1⟩, b⟩
theorem en_dP {s : ST} {x y : Gs} {n : Nat} {k : Int} {N : Nat} {t : List UInt8} (h1 : rOk s x) (h : enJ s.sg n x y k N) (hq : isG s.sg y 4 [46] = true) : rOk s (gSkip s.sg y [46]) ∧ rOk s (gAdd (gSkip s.sg y [46]) ⟨6, (pkG s.sg (gSkip s.sg y [46]) 0).text, [k], false⟩) := by
  rw [skip_yG hq]
  have hl := isG_lt hq (by omega)
  have ha := adv_ok h.1.1.1 hl.2
  exact ⟨⟨h1.1, ha⟩, h1.1, add_ok ha ⟨pkG_text h1.1, by simp⟩⟩
theorem en_dB {sg : List Sg} {n : Nat} {x y : Gs} {k a : Int} {N : Nat} (h : enJ sg n x y k N) (hp : isG sg y 4 [40] = false) (hq : isG sg y 4 [46] = true) (hn : nmG sg (gSkip sg y [46]) 0 = false) :
    nodP sg x (pE sg (n + 1) .fin) (a, gBad (gSkip sg y [46])) := by
  rw [skip_yG hq] at hn ⊢
  exact en_dotB h.1 hp hq hn
theorem en_e {sg : List Sg} {n : Nat} {x y : Gs} {k : Int} {N : Nat} (h : enJ sg n x y k N) (hb : y.bad = false) (hp : isG sg y 4 [40] = false) (hq : isG sg y 4 [46] = false) : nodP sg x (pE sg (n + 1) .fin) (k, gSkip sg y [46]) := by
  rw [skip_n hq]; exact en_end h.1 hb hp hq
theorem ba_wP {s : ST} {x : Gs} {n : Nat} (h1 : rOk s x) (h2 : x.bad = false → x.deep ≤ 20) (h3 : 12 * ((s.sg.length : Int) - x.pos) + 2 ≤ (n + 1 : Nat)) : wP 1 n s x := ⟨⟨h1, h2⟩, by omega⟩
attribute [local irreducible] pE listR callR fnR nodP resP gsOk gTake gClose gAdd gPass gLeaf gSkip gNameN gNameK gAddK gCloseK pkG isG nmG
def s_rBaseS (n : Nat) : Sig := { X := ST × Int × Int × Bool × List Nd, args := fun x => [rdG x.1 (xg x)], pre := fun x => wP 1 (n + 1) x.1 (xg x), Y := Int × Int × Int × Bool × List Nd, post := fun x y => nodP x.1.sg (xg x) (pE x.1.sg (n + 1) .base) (yS y), res := fun x y => .int .i64 y.1, outs := fun x y => [rdG x.1 (yG y.2)], keep := true }
theorem rBaseS_ok (n : Nat) (h : rAll G n) : Contract G Tryz.prog 196 (s_rBaseS n) :=
  vcFun_okP [(103, 0, s_rNext), (139, 0, s_rNameN), (168, 0, s_rLeaf), (163, 0, s_rSkip), (166, 0, s_rIs), (197, 0, s_rFnN), (198, 0, (s_rFn n)), (164, 0, (s_rVal n)), (138, 164 + 1, (s_rListV n)), (165, 0, s_rClose)] [(45, ⟨Int,intA⟩)] false (fun x => []) Tryz.func196 rfl (by decide) ⟨rNext_ok, rNameN_ok, rLeaf_ok, rSkip_ok, rIs_ok, rFnN_ok, (rFn_ok n h), h.val, (rListV_ok n h), rClose_ok, trivial⟩ (fun (x : ST × Int × Int × Bool × List Nd) => True ∧ cA s_rNext [rdG x.1 (xg x)] fun x_1 y => bcase ((pkG x_1.1.sg (xg x_1) (0 : Int)).kind == (1 : Int)) (cA s_rNameN [rdG x_1.1 (xg x_1)] fun x_2 y => rA (s_rBaseS n) x [.int .i64 (gNameK x_2.1.sg (xg x_2)), rdG x_2.1 (gNameN x_2.1.sg (xg x_2))]) (bcase ((pkG x_1.1.sg (xg x_1) (0 : Int)).kind == (2 : Int)) (cA s_rLeaf [rdG x_1.1 (xg x_1), .int .i64 (2 : Int)] fun x_2 y => rA (s_rBaseS n) x [.int .i64 (gAddK (xh x_2)), rdG x_2.1 (gLeaf x_2.1.sg (xh x_2) x_2.2.2.2.2.2 false)]) (bcase ((pkG x_1.1.sg (xg x_1) (0 : Int)).kind == (3 : Int)) (cA s_rLeaf [rdG x_1.1 (xg x_1), .int .i64 (3 : Int)] fun x_2 y => rA (s_rBaseS n) x [.int .i64 (gAddK (xh x_2)), rdG x_2.1 (gLeaf x_2.1.sg (xh x_2) x_2.2.2.2.2.2 false)]) (cA s_rSkip [rdG x_1.1 (xg x_1), .str #[(91 : UInt8)].toList] fun x_2 y => bcase (isG x_2.1.sg (xh x_2) (4 : Int) x_2.2.2.2.2.2) ((True ∧ True) ∧ cA (s_rListV n) [rdG x_2.1 (gSkip x_2.1.sg (xh x_2) x_2.2.2.2.2.2), .str #[(93 : UInt8)].toList, AV.clo (Fn.yield (164 : Nat)) [AV.al (0 : Nat)]] fun x_3 y => cA s_rClose [rdG x_3.1 (yG y.2), .str #[(93 : UInt8)].toList, .agg [.int .i64 (4 : Int), .str #[].toList, oints y.1, .bool false]] fun x_4 y => rA (s_rBaseS n) x [.int .i64 (gCloseK x_4.1.sg (xh x_4) x_4.2.2.2.2.2.1), rdG x_4.1 (gClose x_4.1.sg (xh x_4) x_4.2.2.2.2.2.1 { kind := x_4.2.2.2.2.2.2.1, text := x_4.2.2.2.2.2.2.2.1, kids := x_4.2.2.2.2.2.2.2.2.1, blank := x_4.2.2.2.2.2.2.2.2.2 })]) (cA s_rIs [rdG x_2.1 (gSkip x_2.1.sg (xh x_2) x_2.2.2.2.2.2), .str #[(40 : UInt8)].toList] fun x_3 y => bcase (isG x_3.1.sg (xh x_3) (4 : Int) x_3.2.2.2.2.2) (cA s_rFnN [rdG x_3.1 (xh x_3)] fun x_4 y => bcase (arrow x_4.1.sg { pos := (xg x_4).pos, deep := (xg x_4).deep, nodes := (xg x_4).nodes }) (cA (s_rFn n) [rdG x_4.1 (xg x_4)] fun x_5 y => rA (s_rBaseS n) x [.int .i64 y.1, rdG x_5.1 (yG y.2)]) (cA s_rSkip [rdG x_4.1 (xg x_4), .str #[(40 : UInt8)].toList] fun x_5 y => bcase (isG x_5.1.sg (xh x_5) (4 : Int) x_5.2.2.2.2.2) (cA (s_rVal n) [rdG x_5.1 (gSkip x_5.1.sg (xh x_5) x_5.2.2.2.2.2)] fun x_6 y => ∃ (x_7 : Int), y.1 = x_7 ∧ cA s_rClose [rdG x_6.1 (yG y.2), .str #[(41 : UInt8)].toList, .agg [.int .i64 (11 : Int), .str #[].toList, oints [x_7], .bool false]] fun x_8 y => rA (s_rBaseS n) x [.int .i64 (gCloseK x_8.1.sg (xh x_8) x_8.2.2.2.2.2.1), rdG x_8.1 (gClose x_8.1.sg (xh x_8) x_8.2.2.2.2.2.1 { kind := x_8.2.2.2.2.2.2.1, text := x_8.2.2.2.2.2.2.2.1, kids := x_8.2.2.2.2.2.2.2.2.1, blank := x_8.2.2.2.2.2.2.2.2.2 })]) (rA (s_rBaseS n) x [.int .i64 (0 : Int), .box 0 [sgs x_5.1.sg, .int .i64 x_5.1.z, .int .i64 (gSkip x_5.1.sg (xh x_5) x_5.2.2.2.2.2).pos, .int .i64 (gSkip x_5.1.sg (xh x_5) x_5.2.2.2.2.2).deep, .bool true, onds (gSkip x_5.1.sg (xh x_5) x_5.2.2.2.2.2).nodes, mbs x_5.1.ms]]))) (cA s_rSkip [rdG x_3.1 (xh x_3), .str #[(40 : UInt8)].toList] fun x_4 y => bcase (isG x_4.1.sg (xh x_4) (4 : Int) x_4.2.2.2.2.2) (cA (s_rVal n) [rdG x_4.1 (gSkip x_4.1.sg (xh x_4) x_4.2.2.2.2.2)] fun x_5 y => ∃ (x_6 : Int), y.1 = x_6 ∧ cA s_rClose [rdG x_5.1 (yG y.2), .str #[(41 : UInt8)].toList, .agg [.int .i64 (11 : Int), .str #[].toList, oints [x_6], .bool false]] fun x_7 y => rA (s_rBaseS n) x [.int .i64 (gCloseK x_7.1.sg (xh x_7) x_7.2.2.2.2.2.1), rdG x_7.1 (gClose x_7.1.sg (xh x_7) x_7.2.2.2.2.2.1 { kind := x_7.2.2.2.2.2.2.1, text := x_7.2.2.2.2.2.2.2.1, kids := x_7.2.2.2.2.2.2.2.2.1, blank := x_7.2.2.2.2.2.2.2.2.2 })]) (rA (s_rBaseS n) x [.int .i64 (0 : Int), .box 0 [sgs x_4.1.sg, .int .i64 x_4.1.z, .int .i64 (gSkip x_4.1.sg (xh x_4) x_4.2.2.2.2.2).pos, .int .i64 (gSkip x_4.1.sg (xh x_4) x_4.2.2.2.2.2).deep, .bool true, onds (gSkip x_4.1.sg (xh x_4) x_4.2.2.2.2.2).nodes, mbs x_4.1.ms]]))))))) (fun x => by kernel_rfl) fun (x : ST × Int × Int × Bool × List Nd) (hx : wP 1 (n + 1) x.1 (xg x)) => (by
  dsimp only [cA, mbs, ndA_e, oints, onds, rA, rdG, s_rBaseS, s_rClose, s_rFn, s_rFnN, s_rIs, s_rLeaf, s_rListV, s_rNameN, s_rNext, s_rSkip, s_rVal, sgA_e, sgs, hndL, hnd1, mvL, lnL, mvE, lnE]
  obtain ⟨s, p, d, b, ns⟩ := x; dsimp only [xg, xh] at hx ⊢
  obtain ⟨⟨h1, h2⟩, h3⟩ := hx
  (repeat' first | (with_reducible first | rfl | exact True.intro | apply inR_i64 | apply And.intro | ((first | apply bcase_dec | apply bcase_bne | apply bcase_beq | apply bcase_not) <;> intro _)) | (apply bcase_intro <;> intro _) | apply sl_eq | refine ex_flip () ?_ ?_ | ((first | apply ex_flip10 | apply ex_flip9 | apply ex_flip8 | apply ex_flip7 | apply ex_flip6 | apply ex_flip5 | apply ex_flip4 | apply ex_flip3 | apply ex_flip2) <;> try dsimp only) | apply ex_flip | (refine Prod.forall.2 ?_; intro _; try dsimp only) | (intro _; try dsimp only))
  all_goals (try dsimp only [xg, xh, yG, yS, iG] at *)
  all_goals (try simp only [gs_eta] at *)
  all_goals (try (have e := skip_n (show isG s.sg ⟨p, d, b, ns⟩ 4 [91] = false by assumption); simp only [e] at *))
  all_goals (try (have e := skip_yG (show isG s.sg ⟨p, d, b, ns⟩ 4 [91] = true by assumption); simp only [e] at *))
  all_goals (try (have e := skip_n (show isG s.sg ⟨p, d, b, ns⟩ 4 [40] = false by assumption); simp only [e] at *))
  all_goals (try (have e := skip_yG (show isG s.sg ⟨p, d, b, ns⟩ 4 [40] = true by assumption); simp only [e] at *))
  all_goals first
    | rfl
    | assumption
    | (exfalso; have q1 := (show isG s.sg ⟨p, d, b, ns⟩ 4 [40] = false by assumption); have q2 := (show isG s.sg ⟨p, d, b, ns⟩ 4 [40] = true by assumption); rw [q1] at q2; cases q2)
    | exact ba_name h1.1 h1.2 (by assumption)
    | exact ba_leaf h1.1 h1.2 (by assumption) (.inl rfl)
    | exact ba_leaf h1.1 h1.2 (by assumption) (.inr rfl)
    | exact pos_k (x := ⟨p, d, b, ns⟩) (by assumption) (.inl rfl)
    | exact pos_k (x := ⟨p, d, b, ns⟩) (by assumption) (.inr rfl)
    | exact (adv_wP (k := 4) (m := [91]) (x := ⟨p, d, b, ns⟩) (by assumption) (by omega) h1 h2 h3 (by omega)).1
    | exact (adv_wP (k := 4) (m := [40]) (x := ⟨p, d, b, ns⟩) (by assumption) (by omega) h1 h2 h3 (by omega)).2
    | exact (ls_ok (k := 4) h1 (by assumption)).1
    | exact (ls_ok h1 (by assumption)).2
    | exact bq_list h1 (by assumption) (by assumption) (by assumption) (by assumption) (by assumption)
    | exact lt_bad (x := ⟨p, d, b, ns⟩) (k := 4) (m := [40]) (by assumption) (by omega)
    | exact (bq_fnP (x := ⟨p, d, b, ns⟩) (by assumption) h1 h2 h3).1
    | exact (bq_fnP (x := ⟨p, d, b, ns⟩) (by assumption) h1 h2 h3).2
    | exact bq_fn (by assumption) (by assumption) (by assumption) (by assumption) (by assumption) (by assumption) (by assumption)
    | exact bq_par h1 (by assumption) (by assumption) (by assumption) (by assumption) (by assumption) (by assumption) (by assumption)
    | exact fn_4 h1 (by assumption)
    | exact ⟨by simp, by simp⟩
    | exact ba_none h1.2 (by assumption) (by assumption) (by assumption) (by assumption) (by assumption)
    | skip)
def s_rEndS (n : Nat) : Sig := { X := ST × Int × Int × Bool × List Nd, args := fun x => [rdG x.1 (xg x)], pre := fun x => wP 2 (n + 1) x.1 (xg x), Y := Int × Int × Int × Bool × List Nd, post := fun x y => nodP x.1.sg (xg x) (pE x.1.sg (n + 1) .fin) (yS y), res := fun x y => .int .i64 y.1, outs := fun x y => [rdG x.1 (yG y.2)], keep := true }
def i_rEndS (n : Nat) (x : ST × Int × Int × Bool × List Nd) : LS := { ι := Int × Int × Bool × List Nd × Int × Nat, inv := fun i => enJ x.1.sg n (xg x) (iG i) i.2.2.2.2.1 i.2.2.2.2.2, regs := fun i => [(0, rdG x.1 (iG i)), (3, .int .i64 i.2.2.2.2.1)], als := [], meas := fun i => i.2.2.2.2.2 }
theorem rEndS_ok (n : Nat) (h : rAll G n) : Contract G Tryz.prog 193 (s_rEndS n) :=
  vcFun_okP [(196, 0, (s_rBase n)), (166, 0, s_rIs), (181, 0, (s_rCall n)), (163, 0, s_rSkip), (167, 0, s_rNmN), (103, 0, s_rNext), (104, 0, s_rAdd), (162, 0, s_rPass)] [(45, ⟨Int,intA⟩)] false (fun x => [(2, i_rEndS n x)]) Tryz.func193 rfl (by decide) ⟨h.base, rIs_ok, (rCall_ok n h), rSkip_ok, rNmN_ok, rNext_ok, rAdd_ok, rPass_ok, trivial⟩ (fun (x : ST × Int × Int × Bool × List Nd) => True ∧ cA (s_rBase n) [rdG x.1 (xg x)] fun x_1 y => eA (i_rEndS n x) [rdG x_1.1 (yG y.2), .int .i64 y.1] ∧ ∀ (i : Int × Int × Bool × List Nd × Int × Nat), enJ x.1.sg n (xg x) (iG i) i.2.2.2.2.1 i.2.2.2.2.2 → bcase (!(iG i).bad) (cA s_rIs [rdG x.1 (iG i), .str #[(40 : UInt8)].toList] fun x_2 y => bcase (isG x_2.1.sg (xh x_2) (4 : Int) x_2.2.2.2.2.2) (cA (s_rCall n) [rdG x_2.1 (xh x_2), .int .i64 i.2.2.2.2.1] fun x_3 y => eN (i_rEndS n x) i [rdG x_3.1 (yG y.2), .int .i64 y.1]) (cA s_rSkip [rdG x_2.1 (xh x_2), .str #[(46 : UInt8)].toList] fun x_3 y => bcase (isG x_3.1.sg (xh x_3) (4 : Int) x_3.2.2.2.2.2) (cA s_rNmN [rdG x_3.1 (gSkip x_3.1.sg (xh x_3) x_3.2.2.2.2.2), .int .i64 (0 : Int)] fun x_4 y => bcase (!nmG x_4.1.sg (xh x_4) x_4.2.2.2.2.2) (rA (s_rEndS n) x [.int .i64 (0 : Int), .box 0 [sgs x_4.1.sg, .int .i64 x_4.1.z, .int .i64 (xh x_4).pos, .int .i64 (xh x_4).deep, .bool true, onds (xh x_4).nodes, mbs x_4.1.ms]]) (cA s_rNext [rdG x_4.1 (xh x_4)] fun x_5 y => ∃ (x_6 : Int), i.2.2.2.2.1 = x_6 ∧ cA s_rAdd [rdG x_5.1 (xg x_5), .agg [.int .i64 (6 : Int), .str (pkG x_5.1.sg (xg x_5) (0 : Int)).text, oints [x_6], .bool false]] fun x_7 y => cA s_rPass [rdG x_7.1 (gAdd (xh x_7) { kind := x_7.2.2.2.2.2.1, text := x_7.2.2.2.2.2.2.1, kids := x_7.2.2.2.2.2.2.2.1, blank := x_7.2.2.2.2.2.2.2.2 })] fun x_8 y => eN (i_rEndS n x) i [rdG x_8.1 (gPass (xg x_8)), .int .i64 (gAddK (xh x_7))])) (rA (s_rEndS n) x [.int .i64 i.2.2.2.2.1, rdG x_3.1 (gSkip x_3.1.sg (xh x_3) x_3.2.2.2.2.2)]))) (rA (s_rEndS n) x [.int .i64 i.2.2.2.2.1, rdG x.1 (iG i)])) (fun x => by kernel_rfl) fun (x : ST × Int × Int × Bool × List Nd) (hx : wP 2 (n + 1) x.1 (xg x)) => (by
  dsimp only [cA, eA, eN, i_rEndS, mbs, ndA_e, oints, onds, rA, rdG, s_rAdd, s_rBase, s_rCall, s_rEndS, s_rIs, s_rNext, s_rNmN, s_rPass, s_rSkip, sgA_e, sgs, hndL, hnd1, mvL, lnL, mvE, lnE, sndL]
  obtain ⟨s, p, d, b, ns⟩ := x; dsimp only [xg, xh] at hx ⊢
  obtain ⟨⟨h1, h2⟩, h3⟩ := hx
  (repeat' first | (with_reducible first | rfl | exact True.intro | apply inR_i64 | apply And.intro | ((first | apply bcase_dec | apply bcase_bne | apply bcase_beq | apply bcase_not) <;> intro _)) | (apply bcase_intro <;> intro _) | apply sl_eq | refine ex_flip () ?_ ?_ | ((first | apply ex_flip10 | apply ex_flip9 | apply ex_flip8 | apply ex_flip7 | apply ex_flip6 | apply ex_flip5 | apply ex_flip4 | apply ex_flip3 | apply ex_flip2) <;> try dsimp only) | apply ex_flip | (refine Prod.forall.2 ?_; intro _; try dsimp only) | (intro _; try dsimp only))
  all_goals (try dsimp only [xg, xh, yG, yS, iG] at *)
  all_goals (try simp only [gs_eta] at *)
  all_goals first
    | (show Nat; skip)
    | rfl
    | assumption
    | exact ba_wP h1 h2 h3
    | exact (en_j0 h1 h2 (by assumption)).1
    | exact (en_j0 h1 h2 (by assumption)).2 (by assumption)
    | exact en_ok h1 (by assumption)
    | exact en_bad (And.left (by assumption)) (by assumption)
    | exact en_wP (x := ⟨p, d, b, ns⟩) h1 h3 (by assumption) (by assumption)
    | exact (en_c (by assumption) (by assumption) (by assumption)).1.1
    | exact (en_c (by assumption) (by assumption) (by assumption)).1.2 (by assumption)
    | exact (en_d h1.1 (by assumption) (by assumption) (by assumption) (by assumption)).1.1
    | exact (en_d h1.1 (by assumption) (by assumption) (by assumption) (by assumption)).1.2 (by assumption)
    | exact (en_dP (t := []) h1 (by assumption) (by assumption)).1
    | exact (en_dP (t := []) h1 (by assumption) (by assumption)).2
    | exact en_dB (by assumption) (by assumption) (by assumption) (by assumption)
    | exact en_e (by assumption) (by assumption) (by assumption) (by assumption)
    | omega
    | skip
  all_goals first
    | exact (en_c (by assumption) (by assumption) (by assumption)).2
    | exact (en_d h1.1 (by assumption) (by assumption) (by assumption) (by assumption)).2
    | skip)
end Go.My
end
section
set_option linter.unusedVariables false
set_option linter.unusedSimpArgs false
namespace Go.My
open Go.Eng Go.Proofs
variable {G : GInv}
def chOJ (sg : List Sg) (n l : Nat) (x y : Gs) (k : Int) (N : Nat) : Prop := chO sg n l x y k N ∧ (y.bad = false → y.deep ≤ 20)
theorem chOJ_mk {sg : List Sg} {n l : Nat} {x y : Gs} {k : Int} {N : Nat} (h : chO sg n l x y k N ∧ (y.bad = false → y.deep ≤ 20)) : chOJ sg n l x y k N := h
def chNJ (sg : List Sg) (n l : Nat) (m : List UInt8) (x y : Gs) (ks : List Int) (N M : Nat) : Prop := (chN sg n l m x y ks N ∧ N ≤ M) ∧ (y.bad = false → y.deep ≤ 20)
theorem chNJ_mk {sg : List Sg} {n l : Nat} {m : List UInt8} {x y : Gs} {ks : List Int} {N M : Nat} (h : (chN sg n l m x y ks N ∧ N ≤ M) ∧ (y.bad = false → y.deep ≤ 20)) : chNJ sg n l m x y ks N M := h
theorem ch_j0 {s : ST} {x : Gs} {n : Nat} {l : Int} {z : Int × Gs} (h1 : rOk s x) (h2 : x.bad = false → x.deep ≤ 20) (hl : l ≠ 6) (h0 : 0 ≤ l) (h1z : nodP s.sg x (pE s.sg n (.chain (l + 1).toNat)) z) : chOJ s.sg n l.toNat x z.2 z.1 (2 * s.sg.length + 4) := by
  rw [show (l + 1).toNat = l.toNat + 1 by omega] at h1z
  exact chOJ_mk ⟨ch_0 h1.2 (by omega) h1z, name_b h1z h2⟩
theorem ch_wP {s : ST} {x : Gs} {n : Nat} {l : Int} (h1 : rOk s x) (h2 : x.bad = false → x.deep ≤ 20) (h3 : 12 * ((s.sg.length : Int) - x.pos) + (9 - l.toNat : Nat) ≤ (n + 1 : Nat)) (h0 : 0 ≤ l) (h6 : l ≤ 6) (hl : l ≠ 6) : wP (9 - (l + 1).toNat) n s x := ⟨⟨h1, h2⟩, by omega⟩
theorem ch_fP {s : ST} {x : Gs} {n : Nat} {l : Int} (h1 : rOk s x) (h2 : x.bad = false → x.deep ≤ 20) (h3 : 12 * ((s.sg.length : Int) - x.pos) + (9 - l.toNat : Nat) ≤ (n + 1 : Nat)) (hl : l = 6) : wP 2 n s x := by
  subst hl; exact ⟨⟨h1, h2⟩, by simp at h3; omega⟩
theorem ch_66 {s : ST} {x : Gs} {n : Nat} {l : Int} {z : Int × Gs} (hl : l = 6) (h : nodP s.sg x (pE s.sg n .fin) z) : nodP s.sg x (pE s.sg (n + 1) (.chain l.toNat)) z := by subst hl; exact ch_6 h
theorem ch_ok {s : ST} {x y : Gs} {n l : Nat} {k : Int} {N : Nat} (h1 : rOk s x) (h : chOJ s.sg n l x y k N) : rOk s y := ⟨h1.1, h.1.1.1⟩
theorem ch_okN {s : ST} {x y : Gs} {n l : Nat} {m : List UInt8} {ks : List Int} {N M : Nat} (h1 : rOk s x) (h : chNJ s.sg n l m x y ks N M) : rOk s y := ⟨h1.1, h.1.1.1.1⟩
theorem ch_e {sg : List Sg} {n l : Nat} {x y : Gs} {k : Int} {N : Nat} (h : chOJ sg n l x y k N) (hm : chMG sg l y = []) : nodP sg x (pE sg (n + 1) (.chain l)) (k, y) := ch_end h.1 hm
theorem ch_i {sg : List Sg} {n l : Nat} {x y : Gs} {k : Int} {N : Nat} (h : chOJ sg n l x y k N) (hm : chMG sg l y ≠ []) : chNJ sg n l (chMG sg l y) x y [k] N N := chNJ_mk ⟨⟨ch_in h.1 hm, Nat.le_refl _⟩, h.2⟩
theorem ch_gP {s : ST} {x y : Gs} {n : Nat} {l : Int} {m : List UInt8} {ks : List Int} {N M : Nat} (h1 : rOk s x) (h3 : 12 * ((s.sg.length : Int) - x.pos) + (9 - l.toNat : Nat) ≤ (n + 1 : Nat)) (h0 : 0 ≤ l) (h6 : l ≤ 6) (hl : l ≠ 6)
    (h : chNJ s.sg n l.toNat m x y ks N M) (hq : isG s.sg y 4 m = true) : wP (9 - (l + 1).toNat) n s (gSkip s.sg y m) := by
  rw [skip_yG hq]
  have hl2 := isG_lt hq (by omega)
  have ha := adv_ok h.1.1.1.1 hl2.2
  have hd := h.2 hl2.1
  have hp := h.1.1.2.2.2 hl2.1
  have e : (gAdv y).pos = y.pos + 1 := rfl
  have e2 : (gAdv y).deep = y.deep := rfl
  exact ⟨⟨⟨h1.1, ha⟩, fun _ => by omega⟩, by omega⟩
theorem ch_g {sg : List Sg} {n : Nat} {l : Int} {x y y0 : Gs} {ks : List Int} {N M : Nat} {z : Int × Gs} (h0 : 0 ≤ l) (hm : chMG sg l.toNat y0 ≠ []) (h : chNJ sg n l.toNat (chMG sg l.toNat y0) x y ks N M)
    (hz : nodP sg (gSkip sg y (chMG sg l.toNat y0)) (pE sg n (.chain (l + 1).toNat)) z) (hq : isG sg y 4 (chMG sg l.toNat y0) = true) : chNJ sg n l.toNat (chMG sg l.toNat y0) x z.2 (ks ++ [z.1]) (N - 1) M ∧ N - 1 < N := by
  rw [skip_yG hq] at hz
  rw [show (l + 1).toNat = l.toNat + 1 by omega] at hz
  obtain ⟨a, b⟩ := ex_pred (ch_go (chMG_is hm).2 h.1.1 hq hz)
  have hl2 := isG_lt hq (by omega)
  exact ⟨chNJ_mk ⟨⟨a, by have := h.1.2; omega⟩, name_b hz (fun _ => h.2 hl2.1)⟩, b⟩
theorem ch_p {s : ST} {n l : Nat} {x y y0 : Gs} {ks : List Int} {N M : Nat} (hs : sgB s.sg) (hm : chMG s.sg l y0 ≠ []) (h : chNJ s.sg n l (chMG s.sg l y0) x y ks N M) (hq : isG s.sg y 4 (chMG s.sg l y0) = false) :
    chOJ s.sg n l x (gAdd (gSkip s.sg y (chMG s.sg l y0)) ⟨7, chMG s.sg l y0, ks, false⟩) (gAddK (gSkip s.sg y (chMG s.sg l y0))) (N - 1) ∧ N - 1 < M := by
  rw [skip_n hq]
  obtain ⟨a, b⟩ := ex_pred (ch_put (chMG_is hm).2 hs h.1.1 hq)
  obtain ⟨d1, d2, d3⟩ := @add_dp y ⟨7, chMG s.sg l y0, ks, false⟩
  exact ⟨chOJ_mk ⟨a, fun hb => by rw [d1]; exact h.2 (d3 hb)⟩, by have := h.1.2; omega⟩
theorem ch_pP {s : ST} {n l : Nat} {x y : Gs} {m : List UInt8} {ks : List Int} {N M : Nat} (h1 : rOk s x) (h : chNJ s.sg n l m x y ks N M) (hq : isG s.sg y 4 m = false) : rOk s (gSkip s.sg y m) := by
  rw [skip_n hq]; exact ⟨h1.1, h.1.1.1.1⟩
theorem ch_ks {s : ST} {n l : Nat} {x y : Gs} {m : List UInt8} {ks : List Int} {N M : Nat} (hs : sgB s.sg) (h : chNJ s.sg n l m x y ks N M) : ks.length ≤ 3001 := by
  have := h.1.1.2.2.1; have := h.1.1.1.1.1.2; have := hs.1; omega
abbrev pkX (x : Gs) : Gs := gDp (if x.deep = 20 then gBad x else x) 1
theorem pk_ok {s : ST} {x : Gs} {n : Nat} (h1 : rOk s x) (h2 : x.deep ≤ 20) (h3 : 12 * ((s.sg.length : Int) - x.pos) + 10 ≤ (n + 1 : Nat)) : wP (9 - (0 : Int).toNat) n s (pkX x) ∧ rOk s (pkX x) := by
  obtain ⟨p1, p2, p3⟩ := @pick_pos x
  have hok : gsOk s.sg (pkX x) := by
    unfold pkX; split
    · exact ⟨h1.2.1, by simp only [gDp, gBad]; have := h1.2.2.1; omega, h1.2.2.2⟩
    · exact ⟨h1.2.1, by simp only [gDp]; have := h1.2.2.1; omega, h1.2.2.2⟩
  exact ⟨⟨⟨⟨h1.1, hok⟩, fun hb => by have := p3 hb; simp only [pkX] at *; omega⟩, by simp only [pkX] at *; simp; omega⟩, h1.1, hok⟩
theorem pk_aP {s : ST} {x : Gs} {n : Nat} {z : Int × Gs} (h1 : rOk s x) (h2 : x.deep ≤ 20) (h3 : 12 * ((s.sg.length : Int) - x.pos) + 10 ≤ (n + 1 : Nat)) (hz : nodP s.sg (pkX x) (pE s.sg n (.chain 0)) z) (hq : isG s.sg z.2 4 [63] = true) : vP 10 n s (gSkip s.sg z.2 [63]) := by
  rw [skip_yG hq]
  have hl := isG_lt hq (by omega)
  have e := nod_dp hz
  obtain ⟨p1, p2, p3⟩ := @pick_pos x
  have e1 : (gAdv z.2).pos = z.2.pos + 1 := rfl
  have e2 : (gAdv z.2).deep = z.2.deep := rfl
  have e3 := p3 (e.2.2.2 hl.1).1
  simp only [pkX] at *
  exact ⟨⟨⟨h1.1, adv_ok (nod_ok hz) hl.2⟩, by omega⟩, by omega⟩
theorem pk_bP {s : ST} {x : Gs} {n : Nat} {z a : Int × Gs} (h1 : rOk s x) (h2 : x.deep ≤ 20) (h3 : 12 * ((s.sg.length : Int) - x.pos) + 10 ≤ (n + 1 : Nat)) (hz : nodP s.sg (pkX x) (pE s.sg n (.chain 0)) z) (hq : isG s.sg z.2 4 [63] = true)
    (ha : nodP s.sg (gSkip s.sg z.2 [63]) (pE s.sg n .pick) a) : vP 10 n s (gTake s.sg a.2 [58]) := by
  have hv := pk_aP h1 h2 h3 hz hq
  have e := nod_dp ha
  have t := tk_b (m := [58]) (nod_ok ha)
  have := hv.2; have := hv.1.2
  exact ⟨⟨⟨h1.1, t.1⟩, by omega⟩, by omega⟩
theorem pk_y {s : ST} {x : Gs} {n : Nat} {z a b : Int × Gs} (h1 : rOk s x) (h2 : x.deep ≤ 20) (hz : nodP s.sg (pkX x) (pE s.sg n (.chain 0)) z) (hq : isG s.sg z.2 4 [63] = true)
    (ha : nodP s.sg (gSkip s.sg z.2 [63]) (pE s.sg n .pick) a) (hb : nodP s.sg (gTake s.sg a.2 [58]) (pE s.sg n .pick) b) :
    nodP s.sg x (pE s.sg (n + 1) .pick) (gAddK b.2, gDp (gAdd b.2 ⟨8, [], [z.1, a.1, b.1], false⟩) (-1)) := by
  rw [skip_yG hq] at ha
  exact pick_yes h1.2 h2 hz hq ha hb
theorem pk_n {s : ST} {x : Gs} {n : Nat} {z : Int × Gs} (h1 : rOk s x) (h2 : x.deep ≤ 20) (hz : nodP s.sg (pkX x) (pE s.sg n (.chain 0)) z) (hq : isG s.sg z.2 4 [63] = false) : nodP s.sg x (pE s.sg (n + 1) .pick) (z.1, gDp (gSkip s.sg z.2 [63]) (-1)) := by
  rw [skip_n hq]; exact pick_no h1.2 h2 hz hq
theorem pk_dN {s : ST} {x : Gs} {n : Nat} {z : Int × Gs} (h1 : rOk s x) (hz : nodP s.sg (pkX x) (pE s.sg n (.chain 0)) z) (hq : isG s.sg z.2 4 [63] = false) : 0 ≤ (gSkip s.sg z.2 [63]).deep ∧ (gSkip s.sg z.2 [63]).deep ≤ 21 := by
  rw [skip_n hq]; exact (nod_ok hz).2.1
theorem add_dp1 {g : Gs} {x : Nd} : (gAdd g x).deep = g.deep := add_dp.1
theorem nd_d {α : Type} {sg : List Sg} {x : Gs} {f : Ps → Option (α × Ps)} {y : α × Gs} (h : nodP sg x f y) : 0 ≤ y.2.deep ∧ y.2.deep ≤ 21 := (nod_ok h).2.1
theorem vl_P {s : ST} {x : Gs} {n : Nat} (h1 : rOk s x) (h2 : x.deep ≤ 20) (h3 : 12 * ((s.sg.length : Int) - x.pos) + 11 ≤ (n + 1 : Nat)) : vP 10 n s x := ⟨⟨h1, h2⟩, by omega⟩
def vaJ (sg : List Sg) (n : Nat) (x y : Gs) (ks : List Int) (N : Nat) : Prop := valI sg n x y ks N ∧ y.deep ≤ 20
theorem vaJ_mk {sg : List Sg} {n : Nat} {x y : Gs} {ks : List Int} {N : Nat} (h : valI sg n x y ks N ∧ y.deep ≤ 20) : vaJ sg n x y ks N := h
theorem vl_n {s : ST} {x : Gs} {n : Nat} {z : Int × Gs} (h1 : rOk s x) (hz : nodP s.sg x (pE s.sg n .pick) z) (hq : isG s.sg z.2 4 [46, 46] = false) : nodP s.sg x (pE s.sg (n + 1) .value) z := val_no h1.2 hz hq
theorem vl_0 {s : ST} {x : Gs} {n : Nat} {z : Int × Gs} (h1 : rOk s x) (h2 : x.deep ≤ 20) (hz : nodP s.sg x (pE s.sg n .pick) z) (hq : isG s.sg z.2 4 [46, 46] = true) : vaJ s.sg n x z.2 [z.1] (s.sg.length + 1) := vaJ_mk ⟨val_0 h1.2 hz hq, by have := (nod_dp hz).1; omega⟩
theorem vl_ok {s : ST} {x y : Gs} {n : Nat} {ks : List Int} {N : Nat} (h1 : rOk s x) (h : vaJ s.sg n x y ks N) : rOk s y := ⟨h1.1, h.1.1.1⟩
theorem vl_ks {s : ST} {x y : Gs} {n : Nat} {ks : List Int} {N : Nat} (hs : sgB s.sg) (h : vaJ s.sg n x y ks N) : ks.length ≤ 3001 := by
  have := h.1.2.2.1; have := h.1.1.1.1.2; have := hs.1; omega
theorem vl_sk {s : ST} {x y : Gs} {n : Nat} {ks : List Int} {N : Nat} (h1 : rOk s x) (h : vaJ s.sg n x y ks N) (hq : isG s.sg y 4 [46, 46] = true) : rOk s (gSkip s.sg y [46, 46]) := by
  rw [skip_yG hq]; exact ⟨h1.1, adv_ok h.1.1.1 (isG_lt hq (by omega)).2⟩
theorem vl_cP {s : ST} {x y : Gs} {n : Nat} {ks : List Int} {N : Nat} (h1 : rOk s x) (h3 : 12 * ((s.sg.length : Int) - x.pos) + 11 ≤ (n + 1 : Nat)) (h : vaJ s.sg n x y ks N) (hq : isG s.sg y 4 [46, 46] = true) : wP 11 n s (gNameN s.sg (gSkip s.sg y [46, 46])) := by
  have hk := vl_sk h1 h hq
  rw [skip_yG hq] at hk ⊢
  have hl := isG_lt hq (by omega)
  have e := nameN_nod h1.1 hk.2
  have e1 : (gNameN s.sg (gAdv y)).deep = (gAdv y).deep := e.1.2.1
  have e2 : (gAdv y).pos ≤ (gNameN s.sg (gAdv y)).pos := e.1.2.2.1
  have e3 : (gAdv y).pos = y.pos + 1 := rfl
  have e4 : (gAdv y).deep = y.deep := rfl
  have := h.1.1.2.2.1; have := h.2
  exact ⟨⟨⟨h1.1, nod_ok e⟩, fun _ => by omega⟩, by omega⟩
theorem vl_g {s : ST} {x y : Gs} {n N : Nat} {ks : List Int} {w : Int × Gs} (h1 : rOk s x) (h : vaJ s.sg n x y ks N) (hq : isG s.sg y 4 [46, 46] = true)
    (hw : nodP s.sg (gNameN s.sg (gSkip s.sg y [46, 46])) (callR s.sg (pE s.sg n .value) (gNameK s.sg (gSkip s.sg y [46, 46]))) w) : vaJ s.sg n x w.2 (ks ++ [w.1]) (N - 1) ∧ N - 1 < N := by
  have hk := vl_sk h1 h hq
  rw [skip_yG hq] at hw hk
  obtain ⟨a, b⟩ := ex_pred (val_go h1.1 h.1 hq hw)
  have e := nameN_nod h1.1 hk.2
  have e1 : (gNameN s.sg (gAdv y)).deep = (gAdv y).deep := e.1.2.1
  have e4 : (gAdv y).deep = y.deep := rfl
  have := (nod_dp hw).1; have := h.2
  exact ⟨vaJ_mk ⟨a, by omega⟩, b⟩
theorem vl_e {s : ST} {x y : Gs} {n N : Nat} {ks : List Int} (h1 : rOk s x) (h : vaJ s.sg n x y ks N) (hq : isG s.sg y 4 [46, 46] = false) : nodP s.sg x (pE s.sg (n + 1) .value) (gAddK (gSkip s.sg y [46, 46]), gAdd (gSkip s.sg y [46, 46]) ⟨10, [], ks, false⟩) := by
  rw [skip_n hq]; exact val_end h.1 hq h1.1
theorem vl_eP {s : ST} {x y : Gs} {n N : Nat} {ks : List Int} (h1 : rOk s x) (h : vaJ s.sg n x y ks N) (hq : isG s.sg y 4 [46, 46] = false) : rOk s (gSkip s.sg y [46, 46]) := by
  rw [skip_n hq]; exact vl_ok h1 h
attribute [local irreducible] pE listR callR fnR nodP resP gsOk gTake gClose gAdd gPass gLeaf gSkip gNameN gNameK gAddK gCloseK pkG isG nmG
def lChI (n : Nat) (x : ST × Int × Int × Bool × List Nd × Int) (j : Int × Int × Bool × List Nd × Int × Nat) : LS := {
  ι := Int × Int × Bool × List Nd × List Int × Nat, inv := fun i => chNJ x.1.sg n x.2.2.2.2.2.toNat (chMG x.1.sg x.2.2.2.2.2.toNat (iG j)) (xh x) (iG i) i.2.2.2.2.1 i.2.2.2.2.2 j.2.2.2.2.2,
  regs := fun i => [(0, rdG x.1 (iG i)), (1, .int .i64 x.2.2.2.2.2), (6, .str (chMG x.1.sg x.2.2.2.2.2.toNat (iG j))), (7, oints i.2.2.2.2.1)], als := [], meas := fun i => i.2.2.2.2.2 }
def lChO (n : Nat) (x : ST × Int × Int × Bool × List Nd × Int) : LS := {
  ι := Int × Int × Bool × List Nd × Int × Nat, inv := fun i => chOJ x.1.sg n x.2.2.2.2.2.toNat (xh x) (iG i) i.2.2.2.2.1 i.2.2.2.2.2, regs := fun i => [(0, rdG x.1 (iG i)), (1, .int .i64 x.2.2.2.2.2), (5, .int .i64 i.2.2.2.2.1)], als := [], meas := fun i => i.2.2.2.2.2,
  sub := fun j => [(8, lChI n x j)] }
def s_rChS (n : Nat) : Sig := { X := ST × Int × Int × Bool × List Nd × Int, args := fun x => [rdG x.1 (xh x), .int .i64 x.2.2.2.2.2], pre := fun x => wP (9 - x.2.2.2.2.2.toNat) (n + 1) x.1 (xh x) ∧ 0 ≤ x.2.2.2.2.2 ∧ x.2.2.2.2.2 ≤ 6, Y := Int × Int × Int × Bool × List Nd, post := fun x y => nodP x.1.sg (xh x) (pE x.1.sg (n + 1) (.chain x.2.2.2.2.2.toNat)) (yS y), res := fun x y => .int .i64 y.1, outs := fun x y => [rdG x.1 (yG y.2), .top], keep := true }
theorem rChS_ok (n : Nat) (h : rAll G n) : Contract G Tryz.prog 190 (s_rChS n) :=
  vcFun_okP [(193, 0, (s_rEnd n)), (190, 0, (s_rCh n)), (194, 0, s_rMark), (163, 0, s_rSkip), (104, 0, s_rAdd)] [(45, ⟨Int,intA⟩)] false (fun x => [(4, lChO n x)]) Tryz.func190 rfl (by decide) ⟨h.fin, h.chain, rMark_ok, rSkip_ok, rAdd_ok, trivial⟩ (fun (x : ST × Int × Int × Bool × List Nd × Int) => True ∧ bcase (x.2.2.2.2.2 == (6 : Int)) (cA (s_rEnd n) [rdG x.1 (xh x)] fun x_1 y => rA (s_rChS n) x [.int .i64 y.1, rdG x_1.1 (yG y.2), .top]) (inR IntKind.i64 (x.2.2.2.2.2 + (1 : Int)) ∧ cA (s_rCh n) [rdG x.1 (xh x), .int .i64 (x.2.2.2.2.2 + (1 : Int))] fun x_1 y => eA (lChO n x) [rdG x_1.1 (yG y.2), .int .i64 x.2.2.2.2.2, .int .i64 y.1] ∧ ∀ (i : Int × Int × Bool × List Nd × Int × Nat), chOJ x.1.sg n (Int.toNat x.2.2.2.2.2) (xh x) (iG i) i.2.2.2.2.1 i.2.2.2.2.2 → cA s_rMark [rdG x.1 (iG i), .int .i64 x.2.2.2.2.2] fun x_2 y => bcase (chMG x_2.1.sg (Int.toNat x_2.2.2.2.2.2) (xh x_2) == #[].toList) (rA (s_rChS n) x [.int .i64 i.2.2.2.2.1, rdG x_2.1 (xh x_2), .top]) (∃ (x_3 : Int), i.2.2.2.2.1 = x_3 ∧ eA (lChI n x i) [rdG x_2.1 (xh x_2), .int .i64 x.2.2.2.2.2, .str (chMG x_2.1.sg (Int.toNat x_2.2.2.2.2.2) (xh x_2)), oints [x_3]] ∧ ∀ (i_1 : Int × Int × Bool × List Nd × List Int × Nat), chNJ x.1.sg n (Int.toNat x.2.2.2.2.2) (chMG x.1.sg (Int.toNat x.2.2.2.2.2) (iG i)) (xh x) (iG i_1) i_1.2.2.2.2.1 i_1.2.2.2.2.2 i.2.2.2.2.2 → cA s_rSkip [rdG x.1 (iG i_1), .str (chMG x.1.sg (Int.toNat x.2.2.2.2.2) (iG i))] fun x_4 y => bcase (isG x_4.1.sg (xh x_4) (4 : Int) x_4.2.2.2.2.2) (inR IntKind.i64 (x.2.2.2.2.2 + (1 : Int)) ∧ cA (s_rCh n) [rdG x_4.1 (gSkip x_4.1.sg (xh x_4) x_4.2.2.2.2.2), .int .i64 (x.2.2.2.2.2 + (1 : Int))] fun x_5 y => ∃ (x_6 : Int), y.1 = x_6 ∧ ∃ (zs : List Int), oints [x_6] = oints zs ∧ leafy intA ∧ room (List.length i_1.2.2.2.2.1 + List.length zs) (8 : Nat) ∧ eN (lChI n x i) i_1 [rdG x_5.1 (yG y.2), .int .i64 x.2.2.2.2.2, .str (chMG x.1.sg (Int.toNat x.2.2.2.2.2) (iG i)), oints (i_1.2.2.2.2.1 ++ zs)]) (cA s_rAdd [rdG x_4.1 (gSkip x_4.1.sg (xh x_4) x_4.2.2.2.2.2), .agg [.int .i64 (7 : Int), .str (chMG x.1.sg (Int.toNat x.2.2.2.2.2) (iG i)), oints i_1.2.2.2.2.1, .bool false]] fun x_5 y => eN (lChO n x) i [rdG x_5.1 (gAdd (xh x_5) { kind := x_5.2.2.2.2.2.1, text := x_5.2.2.2.2.2.2.1, kids := x_5.2.2.2.2.2.2.2.1, blank := x_5.2.2.2.2.2.2.2.2 }), .int .i64 x.2.2.2.2.2, .int .i64 (gAddK (xh x_5))])))) (fun x => by kernel_rfl) fun (x : ST × Int × Int × Bool × List Nd × Int) (hx : wP (9 - x.2.2.2.2.2.toNat) (n + 1) x.1 (xh x) ∧ 0 ≤ x.2.2.2.2.2 ∧ x.2.2.2.2.2 ≤ 6) => (by
  dsimp only [cA, eA, eN, lChI, lChO, mbs, ndA_e, oints, onds, rA, rdG, s_rAdd, s_rCh, s_rChS, s_rEnd, s_rMark, s_rSkip, sgA_e, sgs, hndL, hnd1, mvL, lnL, mvE, lnE, sndL]
  obtain ⟨s, p, d, b, ns, e⟩ := x; dsimp only [xg, xh] at hx ⊢
  obtain ⟨⟨⟨h1, h2⟩, h3⟩, h4, h5⟩ := hx
  (repeat' first | (with_reducible first | rfl | exact True.intro | apply inR_i64 | apply And.intro | ((first | apply bcase_dec | apply bcase_bne | apply bcase_beq | apply bcase_not) <;> intro _)) | (apply bcase_intro <;> intro _) | apply sl_eq | refine ex_flip () ?_ ?_ | ((first | apply ex_flip10 | apply ex_flip9 | apply ex_flip8 | apply ex_flip7 | apply ex_flip6 | apply ex_flip5 | apply ex_flip4 | apply ex_flip3 | apply ex_flip2) <;> try dsimp only) | apply ex_flip | (refine Prod.forall.2 ?_; intro _; try dsimp only) | (intro _; try dsimp only))
  all_goals (try dsimp only [xg, xh, yG, yS, iG] at *)
  all_goals (try simp only [gs_eta] at *)
  all_goals first
    | (show Nat; skip)
    | rfl
    | assumption
    | exact ch_fP (x := ⟨p, d, b, ns⟩) h1 h2 h3 (by assumption)
    | exact ch_66 (by assumption) (by assumption)
    | exact ch_wP (x := ⟨p, d, b, ns⟩) h1 h2 h3 h4 h5 (by assumption)
    | exact ch_j0 (x := ⟨p, d, b, ns⟩) h1 h2 (by assumption) h4 (by assumption)
    | exact ch_ok h1 (by assumption)
    | exact ch_okN h1 (by assumption)
    | exact ch_e (by assumption) (by assumption)
    | exact ch_i (by assumption) (by assumption)
    | exact ch_gP (x := ⟨p, d, b, ns⟩) h1 h3 h4 h5 (by assumption) (by assumption) (by assumption)
    | exact (ch_g h4 (by assumption) (by assumption) (by assumption) (by assumption)).1
    | exact (ch_p h1.1 (by assumption) (by assumption) (by assumption)).1
    | exact ch_pP h1 (by assumption) (by assumption)
    | omega
    | (have hq := ch_ks h1.1 (show chNJ _ _ _ _ _ _ _ _ _ by assumption); (try simp only [room, List.length_append, List.length_cons, List.length_nil]); omega)
    | ((try simp only [room, i64max, List.length_append, List.length_cons, List.length_nil]); omega)
    | skip
  all_goals first
    | exact (ch_g h4 (by assumption) (by assumption) (by assumption) (by assumption)).2
    | exact (ch_p h1.1 (by assumption) (by assumption) (by assumption)).2
    | skip)
def s_rPickS (n : Nat) : Sig := { X := ST × Int × Int × Bool × List Nd, args := fun x => [rdG x.1 (xg x)], pre := fun x => vP 10 (n + 1) x.1 (xg x), Y := Int × Int × Int × Bool × List Nd, post := fun x y => nodP x.1.sg (xg x) (pE x.1.sg (n + 1) .pick) (yS y), res := fun x y => .int .i64 y.1, outs := fun x y => [rdG x.1 (yG y.2)], keep := true }
theorem rPickS_ok (n : Nat) (h : rAll G n) : Contract G Tryz.prog 180 (s_rPickS n) :=
  vcFun_okP [(169, 0, s_rEnter), (190, 0, (s_rCh n)), (163, 0, s_rSkip), (180, 0, (s_rPick n)), (137, 0, s_rTake), (104, 0, s_rAdd)] [(45, ⟨Int,intA⟩)] false (fun x => []) Tryz.func180 rfl (by decide) ⟨rEnter_ok, h.chain, rSkip_ok, h.pick, rTake_ok, rAdd_ok, trivial⟩ (fun (x : ST × Int × Int × Bool × List Nd) => True ∧ cA s_rEnter [rdG x.1 (xg x)] fun x_1 y => cA (s_rCh n) [.box 0 [sgs x_1.1.sg, .int .i64 x_1.1.z, .int .i64 (gDp (if (xg x_1).deep = (20 : Int) then gBad (xg x_1) else xg x_1) (1 : Int)).pos, .int .i64 (gDp (if (xg x_1).deep = (20 : Int) then gBad (xg x_1) else xg x_1) (1 : Int)).deep, .bool (gDp (if (xg x_1).deep = (20 : Int) then gBad (xg x_1) else xg x_1) (1 : Int)).bad, onds (gDp (if (xg x_1).deep = (20 : Int) then gBad (xg x_1) else xg x_1) (1 : Int)).nodes, mbs x_1.1.ms], .int .i64 (0 : Int)] fun x_2 y => cA s_rSkip [rdG x_2.1 (yG y.2), .str #[(63 : UInt8)].toList] fun x_3 y_1 => bcase (isG x_3.1.sg (xh x_3) (4 : Int) x_3.2.2.2.2.2) (cA (s_rPick n) [rdG x_3.1 (gSkip x_3.1.sg (xh x_3) x_3.2.2.2.2.2)] fun x_4 y_2 => cA s_rTake [rdG x_4.1 (yG y_2.2), .str #[(58 : UInt8)].toList] fun x_5 y_3 => cA (s_rPick n) [rdG x_5.1 (gTake x_5.1.sg (xh x_5) x_5.2.2.2.2.2)] fun x_6 y_4 => ∃ (x_7 : Int), y.1 = x_7 ∧ ∃ (x_8 : Int), y_2.1 = x_8 ∧ ∃ (x_9 : Int), y_4.1 = x_9 ∧ cA s_rAdd [rdG x_6.1 (yG y_4.2), .agg [.int .i64 (8 : Int), .str #[].toList, oints [x_7, x_8, x_9], .bool false]] fun x_10 y => inR IntKind.i64 ((gAdd (xh x_10) { kind := x_10.2.2.2.2.2.1, text := x_10.2.2.2.2.2.2.1, kids := x_10.2.2.2.2.2.2.2.1, blank := x_10.2.2.2.2.2.2.2.2 }).deep - (1 : Int)) ∧ rA (s_rPickS n) x [.int .i64 (gAddK (xh x_10)), .box 0 [sgs x_10.1.sg, .int .i64 x_10.1.z, .int .i64 (gAdd (xh x_10) { kind := x_10.2.2.2.2.2.1, text := x_10.2.2.2.2.2.2.1, kids := x_10.2.2.2.2.2.2.2.1, blank := x_10.2.2.2.2.2.2.2.2 }).pos, .int .i64 ((gAdd (xh x_10) { kind := x_10.2.2.2.2.2.1, text := x_10.2.2.2.2.2.2.1, kids := x_10.2.2.2.2.2.2.2.1, blank := x_10.2.2.2.2.2.2.2.2 }).deep - (1 : Int)), .bool (gAdd (xh x_10) { kind := x_10.2.2.2.2.2.1, text := x_10.2.2.2.2.2.2.1, kids := x_10.2.2.2.2.2.2.2.1, blank := x_10.2.2.2.2.2.2.2.2 }).bad, onds (gAdd (xh x_10) { kind := x_10.2.2.2.2.2.1, text := x_10.2.2.2.2.2.2.1, kids := x_10.2.2.2.2.2.2.2.1, blank := x_10.2.2.2.2.2.2.2.2 }).nodes, mbs x_10.1.ms]]) (inR IntKind.i64 ((gSkip x_3.1.sg (xh x_3) x_3.2.2.2.2.2).deep - (1 : Int)) ∧ rA (s_rPickS n) x [.int .i64 y.1, .box 0 [sgs x_3.1.sg, .int .i64 x_3.1.z, .int .i64 (gSkip x_3.1.sg (xh x_3) x_3.2.2.2.2.2).pos, .int .i64 ((gSkip x_3.1.sg (xh x_3) x_3.2.2.2.2.2).deep - (1 : Int)), .bool (gSkip x_3.1.sg (xh x_3) x_3.2.2.2.2.2).bad, onds (gSkip x_3.1.sg (xh x_3) x_3.2.2.2.2.2).nodes, mbs x_3.1.ms]])) (fun x => by kernel_rfl) fun (x : ST × Int × Int × Bool × List Nd) (hx : vP 10 (n + 1) x.1 (xg x)) => (by
  dsimp only [cA, mbs, ndA_e, oints, onds, rA, rdG, s_rAdd, s_rCh, s_rEnter, s_rPick, s_rPickS, s_rSkip, s_rTake, sgA_e, sgs, hndL, hnd1, mvL, lnL, mvE, lnE]
  obtain ⟨s, p, d, b, ns⟩ := x; dsimp only [xg, xh] at hx ⊢
  obtain ⟨⟨h1, h2⟩, h3⟩ := hx
  (repeat' first | (with_reducible first | rfl | exact True.intro | apply inR_i64 | apply And.intro | ((first | apply bcase_dec | apply bcase_bne | apply bcase_beq | apply bcase_not) <;> intro _)) | (apply bcase_intro <;> intro _) | apply sl_eq | refine ex_flip () ?_ ?_ | ((first | apply ex_flip10 | apply ex_flip9 | apply ex_flip8 | apply ex_flip7 | apply ex_flip6 | apply ex_flip5 | apply ex_flip4 | apply ex_flip3 | apply ex_flip2) <;> try dsimp only) | apply ex_flip | (refine Prod.forall.2 ?_; intro _; try dsimp only) | (intro _; try dsimp only))
  all_goals (try dsimp only [xg, xh, yG, yS, iG] at *)
  all_goals (try simp only [gs_eta] at *)
  all_goals first
    | rfl
    | assumption
    | exact (pk_ok (x := ⟨p, d, b, ns⟩) h1 h2 h3).1
    | exact (pk_ok (x := ⟨p, d, b, ns⟩) h1 h2 h3).2
    | exact fn_4 h1 (by assumption)
    | exact pk_aP (x := ⟨p, d, b, ns⟩) h1 h2 h3 (by assumption) (by assumption)
    | exact pk_bP (x := ⟨p, d, b, ns⟩) h1 h2 h3 (by assumption) (by assumption) (by assumption)
    | exact pk_y (x := ⟨p, d, b, ns⟩) h1 h2 (by assumption) (by assumption) (by assumption) (by assumption)
    | exact pk_n (x := ⟨p, d, b, ns⟩) h1 h2 (by assumption) (by assumption)
    | (have hq := pk_dN (x := ⟨p, d, b, ns⟩) h1 (by assumption) (by assumption); (try dsimp only at hq); (try simp only [i64max]); omega)
    | (have hq := nd_d (show nodP s.sg (gTake s.sg _ _) _ _ by assumption); (try dsimp only at hq); (try simp only [i64max, add_dp1]); omega)
    | omega
    | skip)
def s_rValS (n : Nat) : Sig := { X := ST × Int × Int × Bool × List Nd, args := fun x => [rdG x.1 (xg x)], pre := fun x => vP 11 (n + 1) x.1 (xg x), Y := Int × Int × Int × Bool × List Nd, post := fun x y => nodP x.1.sg (xg x) (pE x.1.sg (n + 1) .value) (yS y), res := fun x y => .int .i64 y.1, outs := fun x y => [rdG x.1 (yG y.2)], keep := true }
def i_rValS (n : Nat) (x : ST × Int × Int × Bool × List Nd) : LS := { ι := Int × Int × Bool × List Nd × List Int × Nat, inv := fun i => vaJ x.1.sg n (xg x) (iG i) i.2.2.2.2.1 i.2.2.2.2.2, regs := fun i => [(0, rdG x.1 (iG i)), (4, oints i.2.2.2.2.1)], als := [], meas := fun i => i.2.2.2.2.2 }
theorem rValS_ok (n : Nat) (h : rAll G n) : Contract G Tryz.prog 164 (s_rValS n) :=
  vcFun_okP [(180, 0, (s_rPick n)), (166, 0, s_rIs), (163, 0, s_rSkip), (139, 0, s_rNameN), (181, 0, (s_rCall n)), (104, 0, s_rAdd)] [(45, ⟨Int,intA⟩)] false (fun x => [(5, i_rValS n x)]) Tryz.func164 rfl (by decide) ⟨h.pick, rIs_ok, rSkip_ok, rNameN_ok, (rCall_ok n h), rAdd_ok, trivial⟩ (fun (x : ST × Int × Int × Bool × List Nd) => True ∧ cA (s_rPick n) [rdG x.1 (xg x)] fun x_1 y => cA s_rIs [rdG x_1.1 (yG y.2), .str #[(46 : UInt8), (46 : UInt8)].toList] fun x_2 y_1 => bcase (!isG x_2.1.sg (xh x_2) (4 : Int) x_2.2.2.2.2.2) (rA (s_rValS n) x [.int .i64 y.1, rdG x_2.1 (xh x_2)]) (∃ (x_3 : Int), y.1 = x_3 ∧ eA (i_rValS n x) [rdG x_2.1 (xh x_2), oints [x_3]] ∧ ∀ (i : Int × Int × Bool × List Nd × List Int × Nat), vaJ x.1.sg n (xg x) (iG i) i.2.2.2.2.1 i.2.2.2.2.2 → cA s_rSkip [rdG x.1 (iG i), .str #[(46 : UInt8), (46 : UInt8)].toList] fun x_4 y => bcase (isG x_4.1.sg (xh x_4) (4 : Int) x_4.2.2.2.2.2) (cA s_rNameN [rdG x_4.1 (gSkip x_4.1.sg (xh x_4) x_4.2.2.2.2.2)] fun x_5 y => cA (s_rCall n) [rdG x_5.1 (gNameN x_5.1.sg (xg x_5)), .int .i64 (gNameK x_5.1.sg (xg x_5))] fun x_6 y => ∃ (x_7 : Int), y.1 = x_7 ∧ ∃ (zs : List Int), oints [x_7] = oints zs ∧ leafy intA ∧ room (List.length i.2.2.2.2.1 + List.length zs) (8 : Nat) ∧ eN (i_rValS n x) i [rdG x_6.1 (yG y.2), oints (i.2.2.2.2.1 ++ zs)]) (cA s_rAdd [rdG x_4.1 (gSkip x_4.1.sg (xh x_4) x_4.2.2.2.2.2), .agg [.int .i64 (10 : Int), .str #[].toList, oints i.2.2.2.2.1, .bool false]] fun x_5 y => rA (s_rValS n) x [.int .i64 (gAddK (xh x_5)), rdG x_5.1 (gAdd (xh x_5) { kind := x_5.2.2.2.2.2.1, text := x_5.2.2.2.2.2.2.1, kids := x_5.2.2.2.2.2.2.2.1, blank := x_5.2.2.2.2.2.2.2.2 })]))) (fun x => by kernel_rfl) fun (x : ST × Int × Int × Bool × List Nd) (hx : vP 11 (n + 1) x.1 (xg x)) => (by
  dsimp only [cA, eA, eN, i_rValS, mbs, ndA_e, oints, onds, rA, rdG, s_rAdd, s_rCall, s_rIs, s_rNameN, s_rPick, s_rSkip, s_rValS, sgA_e, sgs, hndL, hnd1, mvL, lnL, mvE, lnE, sndL]
  obtain ⟨s, p, d, b, ns⟩ := x; dsimp only [xg, xh] at hx ⊢
  obtain ⟨⟨h1, h2⟩, h3⟩ := hx
  (repeat' first | (with_reducible first | rfl | exact True.intro | apply inR_i64 | apply And.intro | ((first | apply bcase_dec | apply bcase_bne | apply bcase_beq | apply bcase_not) <;> intro _)) | (apply bcase_intro <;> intro _) | apply sl_eq | refine ex_flip () ?_ ?_ | ((first | apply ex_flip10 | apply ex_flip9 | apply ex_flip8 | apply ex_flip7 | apply ex_flip6 | apply ex_flip5 | apply ex_flip4 | apply ex_flip3 | apply ex_flip2) <;> try dsimp only) | apply ex_flip | (refine Prod.forall.2 ?_; intro _; try dsimp only) | (intro _; try dsimp only))
  all_goals (try dsimp only [xg, xh, yG, yS, iG] at *)
  all_goals (try simp only [gs_eta] at *)
  all_goals first
    | (show Nat; skip)
    | rfl
    | assumption
    | exact vl_P (x := ⟨p, d, b, ns⟩) h1 h2 h3
    | exact fn_4 h1 (by assumption)
    | exact vl_n (x := ⟨p, d, b, ns⟩) h1 (by assumption) (by assumption)
    | exact vl_0 (x := ⟨p, d, b, ns⟩) h1 h2 (by assumption) (by assumption)
    | exact vl_ok (x := ⟨p, d, b, ns⟩) h1 (by assumption)
    | exact vl_sk (x := ⟨p, d, b, ns⟩) h1 (by assumption) (by assumption)
    | exact vl_cP (x := ⟨p, d, b, ns⟩) h1 h3 (by assumption) (by assumption)
    | exact (vl_g (x := ⟨p, d, b, ns⟩) h1 (by assumption) (by assumption) (by assumption)).1
    | exact vl_e (x := ⟨p, d, b, ns⟩) h1 (by assumption) (by assumption)
    | exact vl_eP (x := ⟨p, d, b, ns⟩) h1 (by assumption) (by assumption)
    | (have hq := vl_ks h1.1 (show vaJ _ _ _ _ _ _ by assumption); (try simp only [room, List.length_append, List.length_cons, List.length_nil]); omega)
    | ((try simp only [room, i64max, List.length_append, List.length_cons, List.length_nil]); omega)
    | skip
  all_goals first
    | exact (vl_g (x := ⟨p, d, b, ns⟩) h1 (by assumption) (by assumption) (by assumption)).2
    | skip)
end Go.My
end
section
set_option linter.unusedVariables false
set_option linter.unusedSimpArgs false
namespace Go.My
open Go.Eng
theorem nodB1 {k : Int} {t : List UInt8} {ks : List Int} {b : Bool} (ht : t.length ≤ 3000) (hk : ks.length ≤ 4000) : nodB ⟨k, t, ks, b⟩ := ⟨ht, hk⟩
theorem nod_eq {α : Type} {sg : List Sg} {x : Gs} {f g : Ps → Option (α × Ps)} {y : α × Gs} (h : nodP sg x g y) (e : ∀ s, pur x = some s → f s = g s) : nodP sg x f y := by
  have e2 : (pur x).bind f = (pur x).bind g := by
    cases hp : pur x with
    | none => rfl
    | some s => exact e s hp
  obtain ⟨⟨a1, a2, a3, a4, a5⟩, b⟩ := h
  exact ⟨⟨a1, a2, a3, by rw [e2]; exact a4, by rw [e2]; exact a5⟩, b⟩
theorem nod_adv {α : Type} {sg : List Sg} {x : Gs} {k : Int} {m : List UInt8} {f g : Ps → Option (α × Ps)} {y : α × Gs} (hx : gsOk sg x) (hk : k ≠ 0) (hm : isG sg x k m = true) (h : resP sg (gAdv x) g y)
    (e : ∀ s, pur x = some s → isT sg s k m = true → f s = g (adv s)) : nodP sg x f y := by
  have k1 := rest_adv (g' := g) (rest_0 (f := f) hx) hk hm e
  have k2 := rest_res (k := fun a s => some (a, s)) k1 h (fun s _ => by cases g s <;> rfl)
  refine ⟨rest_done k2, fun _ => ?_⟩
  have := h.2.2.1
  simp only [gAdv] at this; omega
theorem close_res {sg : List Sg} {x y : Gs} {f : Ps → PR} {w : Nd} {m : List UInt8} (h : restP sg x f y (closeR sg m w) 0) (hw : nodB w) : nodP sg x f (gCloseK sg y m, gClose sg y m w) := by
  refine ⟨rest_close h hw, fun hb => ?_⟩
  have := (close_nod (m := m) h.1 hw).2 hb
  have := h.2.2.1
  simp only at *; omega
theorem add_nod {sg : List Sg} {x y : Gs} {f : Ps → PR} {w : Nd} (h : restP sg x f y (putR w) 0) (hw : nodB w) (hp : y.bad = false → x.pos < y.pos) : nodP sg x f (gAddK y, gAdd y w) := by
  obtain ⟨d1, d2, d3⟩ := @add_dp y w
  exact ⟨rest_add h hw, fun hb => by simp only [d2]; exact hp (d3 hb)⟩
theorem var_0 {sg : List Sg} {x : Gs} {b : Bool} (h : gsOk sg x) : restP sg x (varR sg b) (gName sg x) (fun s => if isM sg s [61] then (valR sg (adv s)).bind fun q => closeR sg [59] ⟨12, gNameT sg x, [q.1], b⟩ q.2 else closeR sg [59] ⟨12, gNameT sg x, [], b⟩ s) 0 :=
  rest_res (k := fun t s => if isM sg s [61] then (valR sg (adv s)).bind fun q => closeR sg [59] ⟨12, t, [q.1], b⟩ q.2 else closeR sg [59] ⟨12, t, [], b⟩ s) (rest_0 h) (name_nod h).1 (fun _ _ => rfl)
theorem nameT_len {sg : List Sg} {x : Gs} (hs : sgB sg) : (gNameT sg x).length ≤ 3000 := by
  unfold gNameT; split
  · exact pkG_text hs
  · simp
theorem var_no {sg : List Sg} {x : Gs} {b : Bool} (hs : sgB sg) (h : gsOk sg x) (hq : isG sg (gName sg x) 4 [61] = false) :
    nodP sg x (varR sg b) (gCloseK sg (gName sg x) [59], gClose sg (gName sg x) [59] ⟨12, gNameT sg x, [], b⟩) :=
  close_res (rest_to (var_0 h) (fun s hs => by rw [if_neg (by simp [tst_n hs hq])])) (nodB1 (nameT_len hs) (by simp))
theorem var_yes {sg : List Sg} {x : Gs} {b : Bool} {z : Int × Gs} (hs : sgB sg) (h : gsOk sg x) (hq : isG sg (gName sg x) 4 [61] = true) (hz : nodP sg (gAdv (gName sg x)) (valR sg) z) :
    nodP sg x (varR sg b) (gCloseK sg z.2 [59], gClose sg z.2 [59] ⟨12, gNameT sg x, [z.1], b⟩) := by
  have k1 := rest_adv (g' := fun s => (valR sg s).bind fun q => closeR sg [59] ⟨12, gNameT sg x, [q.1], b⟩ q.2) (var_0 h) (by omega) hq (fun s hs ht => by rw [if_pos (show isM sg s [61] = true from ht)])
  have k2 := rest_res (k := fun k s => closeR sg [59] ⟨12, gNameT sg x, [k], b⟩ s) k1 hz.1 (fun _ _ => rfl)
  exact close_res k2 (nodB1 (nameT_len hs) (by simp))
def retR (sg : List Sg) (b : Bool) (s : Ps) : PR := if isM sg s [59] then closeR sg [59] ⟨15, [], [], b⟩ s else (valR sg s).bind fun p => closeR sg [59] ⟨15, [], [p.1], b⟩ p.2
theorem ret_no {sg : List Sg} {x : Gs} {b : Bool} (h : gsOk sg x) (hq : isG sg x 4 [59] = true) : nodP sg x (retR sg b) (gCloseK sg x [59], gClose sg x [59] ⟨15, [], [], b⟩) :=
  close_res (rest_to (rest_0 h) (fun s hs => by rw [retR, if_pos (tst_y hs hq)])) (nodB1 (by simp) (by simp))
theorem ret_yes {sg : List Sg} {x : Gs} {b : Bool} {z : Int × Gs} (h : gsOk sg x) (hq : isG sg x 4 [59] = false) (hz : nodP sg x (valR sg) z) : nodP sg x (retR sg b) (gCloseK sg z.2 [59], gClose sg z.2 [59] ⟨15, [], [z.1], b⟩) := by
  have k1 := rest_to (rest_0 (f := retR sg b) h) (g' := fun s => (valR sg s).bind fun p => closeR sg [59] ⟨15, [], [p.1], b⟩ p.2) (fun s hs => by rw [retR, if_neg (by simp [tst_n hs hq])])
  have k2 := rest_res (k := fun k s => closeR sg [59] ⟨15, [], [k], b⟩ s) k1 hz.1 (fun _ _ => rfl)
  exact close_res k2 (nodB1 (by simp) (by simp))
theorem cond_all {sg : List Sg} {x : Gs} {z : Int × Gs} (h : gsOk sg x) (hz : nodP sg (gTake sg x [40]) (valR sg) z) : resP sg x (condR sg) (z.1, gTake sg z.2 [41]) := by
  have k1 := rest_take (g' := fun s1 => (valR sg s1).bind fun p => (wantM sg [41] p.2).map fun s2 => (p.1, s2)) (rest_0 (f := condR sg) h) (fun _ _ => rfl)
  have k2 := rest_res (k := fun k s => (wantM sg [41] s).map fun s2 => (k, s2)) k1 hz.1 (fun _ _ => rfl)
  have k3 := rest_take (g' := fun s => some (z.1, s)) k2 (fun s _ => by cases wantM sg [41] s <;> rfl)
  exact rest_done k3
theorem many_end {sg : List Sg} {one : Bool → Ps → PR} {m : List UInt8} {N : Nat} {ks : List Int} {s : Ps} (h : isM sg s m = true) : manyR sg one m (N + 1) ks s = some (ks, s) := by rw [manyR, if_pos h]
theorem many_go {sg : List Sg} {one : Bool → Ps → PR} {m : List UInt8} {N : Nat} {ks : List Int} {s : Ps} (h : isM sg s m = false) : manyR sg one m (N + 1) ks s = (one ((sgO sg s.pos).blank && decide (0 < ks.length)) s).bind fun p => manyR sg one m N (ks ++ [p.1]) p.2 := by rw [manyR, if_neg (by simp [h])]
def manI (sg : List Sg) (one : Bool → Ps → PR) (m : List UInt8) (x y : Gs) (ks : List Int) (N : Nat) : Prop :=
  restP sg x (manyR sg one m (sg.length + 1) []) y (manyR sg one m N ks) 0 ∧ (y.bad = false → (sg.length : Int) - y.pos < N) ∧ (ks.length : Int) ≤ y.pos + 1 ∧ (y.bad = false → (ks.length : Int) ≤ y.pos)
theorem man_0 {sg : List Sg} {one : Bool → Ps → PR} {m : List UInt8} {x : Gs} (h : gsOk sg x) : manI sg one m x x [] (sg.length + 1) := by
  have := h.1
  exact ⟨rest_0 h, fun _ => by omega, by simp; omega, fun _ => by simp; omega⟩
theorem man_bad {sg : List Sg} {one : Bool → Ps → PR} {m : List UInt8} {x y : Gs} {ks : List Int} {N : Nat} (h : manI sg one m x y ks N) (hb : y.bad = true) : resP sg x (manyR sg one m (sg.length + 1) []) (ks, y) := rest_bad h.1 hb
theorem man_pos {sg : List Sg} {one : Bool → Ps → PR} {m : List UInt8} {x y : Gs} {ks : List Int} {N : Nat} (h : manI sg one m x y ks N) (hb : y.bad = false) : ∃ M, N = M + 1 := by
  have h1 := h.1.1.1; have h2 := h.2.1 hb
  match N with
  | 0 => omega
  | M + 1 => exact ⟨M, rfl⟩
theorem man_end {sg : List Sg} {one : Bool → Ps → PR} {m : List UInt8} {x y : Gs} {ks : List Int} {N : Nat} (h : manI sg one m x y ks N) (hq : isG sg y 4 m = true) : resP sg x (manyR sg one m (sg.length + 1) []) (ks, y) := by
  obtain ⟨M, rfl⟩ := man_pos h (isG_lt hq (by omega)).1
  exact rest_done (rest_to h.1 (g' := fun s => some (ks, s)) (fun s hs => many_end (tst_y hs hq)))
theorem man_go {sg : List Sg} {one : Bool → Ps → PR} {m : List UInt8} {x y : Gs} {ks : List Int} {N : Nat} {z : Int × Gs} (h : manI sg one m x y ks N) (hb : y.bad = false) (hq : isG sg y 4 m = false)
    (hz : nodP sg y (one ((pkG sg y 0).blank && decide (0 < ks.length))) z) : ∃ M, N = M + 1 ∧ manI sg one m x z.2 (ks ++ [z.1]) M := by
  obtain ⟨M, rfl⟩ := man_pos h hb
  obtain ⟨h1, h2, h3, h4⟩ := h
  have k1 := rest_to h1 (g' := fun s => (one ((pkG sg y 0).blank && decide (0 < ks.length)) s).bind fun p => manyR sg one m M (ks ++ [p.1]) p.2) (fun s hs => by
    rw [many_go (tst_n hs hq)]
    obtain ⟨_, rfl⟩ := pur_some.1 hs
    rw [pkG_f hb]; simp)
  have k2 := rest_res (k := fun k s => manyR sg one m M (ks ++ [k]) s) k1 hz.1 (fun _ _ => rfl)
  have e := nod_dp hz
  have := h2 hb; have := h4 hb
  exact ⟨M, rfl, k2, fun hw => by have := e.2.2.2 hw; omega, by simp; omega, fun hw => by have := e.2.2.2 hw; simp; omega⟩
theorem blk_in {sg : List Sg} {one : Bool → Ps → PR} {x : Gs} (h : gsOk sg x) (hd : x.deep ≤ 20) : restP sg x (blkR sg one) (gTake sg (gDp (if x.deep = 20 then gBad x else x) 1) [123])
    (fun s1 => (manyR sg one [125] (sg.length + 1) [] s1).bind fun p => (closeR sg [125] ⟨18, [], p.1, false⟩ p.2).map fun q => (q.1, dp q.2 (-1))) 1 := by
  have k0 : restP sg x (blkR sg one) (gDp (if x.deep = 20 then gBad x else x) 1) (fun s => (wantM sg [123] s).bind fun s1 => (manyR sg one [125] (sg.length + 1) [] s1).bind fun p => (closeR sg [125] ⟨18, [], p.1, false⟩ p.2).map fun q => (q.1, dp q.2 (-1))) 1 := by
    split
    · rename_i h20
      have h2 := rest_bad2 (d := 0) (g' := blkR sg one) (rest_0 (f := blkR sg one) h) (fun s hs => by
        obtain ⟨_, rfl⟩ := pur_some.1 hs
        rw [blkR, if_pos (by simp only; omega)])
      refine rest_dp (d := 0) h2 ⟨by simp only [gBad]; omega, by simp only [gBad]; omega⟩ (fun s hs => ?_)
      rw [bad_pur] at hs; cases hs
    · rename_i h20
      refine rest_dp (d := 0) (rest_0 h) ⟨by have := h.2.1.1; omega, by omega⟩ (fun s hs => ?_)
      obtain ⟨_, rfl⟩ := pur_some.1 hs
      rw [blkR, if_neg (by simp only; omega)]
  exact rest_take k0 (fun _ _ => rfl)
theorem blk_all {sg : List Sg} {one : Bool → Ps → PR} {x : Gs} {l : List Int × Gs} (hs : sgB sg) (h : gsOk sg x) (hd : x.deep ≤ 20)
    (hl : resP sg (gTake sg (gDp (if x.deep = 20 then gBad x else x) 1) [123]) (manyR sg one [125] (sg.length + 1) []) l) (hll : l.1.length ≤ 3001) :
    nodP sg x (blkR sg one) (gCloseK sg l.2 [125], gDp (gClose sg l.2 [125] ⟨18, [], l.1, false⟩) (-1)) := by
  have k1 := rest_res (k := fun ks s => (closeR sg [125] ⟨18, [], ks, false⟩ s).map fun q => (q.1, dp q.2 (-1))) (blk_in h hd) hl (fun _ _ => rfl)
  have hw : nodB ⟨18, [], l.1, false⟩ := ⟨by simp, by simp only; omega⟩
  have hc := close_nod (m := [125]) k1.1 hw
  have k2 := rest_res (k := fun k s => some (k, dp s (-1))) k1 hc.1 (fun s _ => by cases closeR sg [125] ⟨18, [], l.1, false⟩ s <;> rfl)
  simp only at k2
  refine ⟨rest_done (rest_dp (e := -1) k2 ?_ (fun s hs => rfl)), fun hb => ?_⟩
  · have := k2.2.1; have := h.2.1; omega
  · have := hc.2 hb
    have := k1.2.2.1
    simp only [gDp] at *; omega
def ifR (sg : List Sg) (n : Nat) (b : Bool) (s : Ps) : PR := (condR sg s).bind fun p => (blkR sg (stR sg n) p.2).bind fun q =>
      if isW sg q.2 [101, 108, 115, 101] then (blkR sg (stR sg n) (adv q.2)).bind fun r => putR ⟨16, [], [p.1, q.1, r.1], b⟩ r.2 else putR ⟨16, [], [p.1, q.1], b⟩ q.2
theorem if_0 {sg : List Sg} {n : Nat} {b : Bool} {x : Gs} {c q : Int × Gs} (h : gsOk sg x) (hc : resP sg x (condR sg) c) (hq : nodP sg c.2 (blkR sg (stR sg n)) q) :
    restP sg x (ifR sg n b) q.2 (fun s => if isW sg s [101, 108, 115, 101] then (blkR sg (stR sg n) (adv s)).bind fun r => putR ⟨16, [], [c.1, q.1, r.1], b⟩ r.2 else putR ⟨16, [], [c.1, q.1], b⟩ s) 0 := by
  have k1 := rest_res (k := fun a s => (blkR sg (stR sg n) s).bind fun q => if isW sg q.2 [101, 108, 115, 101] then (blkR sg (stR sg n) (adv q.2)).bind fun r => putR ⟨16, [], [a, q.1, r.1], b⟩ r.2 else putR ⟨16, [], [a, q.1], b⟩ q.2) (rest_0 (f := ifR sg n b) h) hc (fun _ _ => rfl)
  exact rest_res (k := fun k s => if isW sg s [101, 108, 115, 101] then (blkR sg (stR sg n) (adv s)).bind fun r => putR ⟨16, [], [c.1, k, r.1], b⟩ r.2 else putR ⟨16, [], [c.1, k], b⟩ s) k1 hq.1 (fun _ _ => rfl)
theorem if_no {sg : List Sg} {n : Nat} {b : Bool} {x : Gs} {c q : Int × Gs} (h : gsOk sg x) (hc : resP sg x (condR sg) c) (hq : nodP sg c.2 (blkR sg (stR sg n)) q) (he : isG sg q.2 1 [101, 108, 115, 101] = false) :
    nodP sg x (ifR sg n b) (gAddK q.2, gAdd q.2 ⟨16, [], [c.1, q.1], b⟩) := by
  have k := rest_to (if_0 (b := b) h hc hq) (g' := putR ⟨16, [], [c.1, q.1], b⟩) (fun s hs => by rw [if_neg (by simp [tst_Wn hs he])])
  refine add_nod k (nodB1 (by simp) (by simp)) (fun hb => ?_)
  have := (nod_dp hq).2.2.2 hb; have := hc.2.2.1; omega
theorem if_yes {sg : List Sg} {n : Nat} {b : Bool} {x : Gs} {c q r : Int × Gs} (h : gsOk sg x) (hc : resP sg x (condR sg) c) (hq : nodP sg c.2 (blkR sg (stR sg n)) q) (he : isG sg q.2 1 [101, 108, 115, 101] = true)
    (hr : nodP sg (gAdv q.2) (blkR sg (stR sg n)) r) : nodP sg x (ifR sg n b) (gAddK r.2, gAdd r.2 ⟨16, [], [c.1, q.1, r.1], b⟩) := by
  have k := rest_adv (if_0 (b := b) h hc hq) (g' := fun s => (blkR sg (stR sg n) s).bind fun r => putR ⟨16, [], [c.1, q.1, r.1], b⟩ r.2) (by omega) he (fun s hs ht => by rw [if_pos (show isW sg s [101, 108, 115, 101] = true from ht)])
  have k2 := rest_res (k := fun k s => putR ⟨16, [], [c.1, q.1, k], b⟩ s) k hr.1 (fun _ _ => rfl)
  refine add_nod k2 (nodB1 (by simp) (by simp)) (fun hb => ?_)
  have := (nod_dp hr).2.2.2 hb; have := hc.2.2.1; have := (nod_dp hq).2.1
  simp only [gAdv] at *; omega
def whR (sg : List Sg) (n : Nat) (b : Bool) (s : Ps) : PR := (condR sg s).bind fun p => (blkR sg (stR sg n) p.2).bind fun q => putR ⟨17, [], [p.1, q.1], b⟩ q.2
theorem wh_all {sg : List Sg} {n : Nat} {b : Bool} {x : Gs} {c q : Int × Gs} (h : gsOk sg x) (hc : resP sg x (condR sg) c) (hq : nodP sg c.2 (blkR sg (stR sg n)) q) :
    nodP sg x (whR sg n b) (gAddK q.2, gAdd q.2 ⟨17, [], [c.1, q.1], b⟩) := by
  have k1 := rest_res (k := fun a s => (blkR sg (stR sg n) s).bind fun q => putR ⟨17, [], [a, q.1], b⟩ q.2) (rest_0 (f := whR sg n b) h) hc (fun _ _ => rfl)
  have k2 := rest_res (k := fun k s => putR ⟨17, [], [c.1, k], b⟩ s) k1 hq.1 (fun _ _ => rfl)
  refine add_nod k2 (nodB1 (by simp) (by simp)) (fun hb => ?_)
  have := (nod_dp hq).2.2.2 hb; have := hc.2.2.1; omega
def setR (sg : List Sg) (b : Bool) (s : Ps) : PR := (nameT sg s).bind fun p => (wantM sg [61] p.2).bind fun s1 => (valR sg s1).bind fun q => closeR sg [59] ⟨13, p.1, [q.1], b⟩ q.2
theorem set_all {sg : List Sg} {b : Bool} {x : Gs} {z : Int × Gs} (hs : sgB sg) (h : gsOk sg x) (hz : nodP sg (gTake sg (gName sg x) [61]) (valR sg) z) :
    nodP sg x (setR sg b) (gCloseK sg z.2 [59], gClose sg z.2 [59] ⟨13, gNameT sg x, [z.1], b⟩) := by
  have k1 := rest_res (k := fun t s => (wantM sg [61] s).bind fun s1 => (valR sg s1).bind fun q => closeR sg [59] ⟨13, t, [q.1], b⟩ q.2) (rest_0 (f := setR sg b) h) (name_nod h).1 (fun _ _ => rfl)
  have k2 := rest_take (g' := fun s1 => (valR sg s1).bind fun q => closeR sg [59] ⟨13, gNameT sg x, [q.1], b⟩ q.2) k1 (fun _ _ => rfl)
  have k3 := rest_res (k := fun k s => closeR sg [59] ⟨13, gNameT sg x, [k], b⟩ s) k2 hz.1 (fun _ _ => rfl)
  exact close_res k3 (nodB1 (nameT_len hs) (by simp))
def doR (sg : List Sg) (b : Bool) (s : Ps) : PR := (valR sg s).bind fun p => closeR sg [59] ⟨14, [], [p.1], b⟩ p.2
theorem do_all {sg : List Sg} {b : Bool} {x : Gs} {z : Int × Gs} (h : gsOk sg x) (hz : nodP sg x (valR sg) z) : nodP sg x (doR sg b) (gCloseK sg z.2 [59], gClose sg z.2 [59] ⟨14, [], [z.1], b⟩) := by
  have k3 := rest_res (k := fun k s => closeR sg [59] ⟨14, [], [k], b⟩ s) (rest_0 (f := doR sg b) h) hz.1 (fun _ _ => rfl)
  exact close_res k3 (nodB1 (by simp) (by simp))
theorem st_eq {sg : List Sg} {n : Nat} {b : Bool} {s : Ps} : stR sg (n + 1) b s =
    if (sgO sg s.pos).kind = 5 then leafR sg 19 b s
    else if isW sg s [118, 97, 114] then varR sg b (adv s)
    else if isW sg s [114, 101, 116, 117, 114, 110] then retR sg b (adv s)
    else if isW sg s [105, 102] then ifR sg n b (adv s)
    else if isW sg s [119, 104, 105, 108, 101] then whR sg n b (adv s)
    else if nmAt sg s.pos && isM sg (adv s) [61] then (valR sg (adv (adv s))).bind fun p => closeR sg [59] ⟨13, (sgO sg s.pos).text, [p.1], b⟩ p.2
    else doR sg b s := rfl
theorem set_eq {sg : List Sg} {b : Bool} {s : Ps} (h : (nmAt sg s.pos && isM sg (adv s) [61]) = true) : (valR sg (adv (adv s))).bind (fun p => closeR sg [59] ⟨13, (sgO sg s.pos).text, [p.1], b⟩ p.2) = setR sg b s := by
  simp only [Bool.and_eq_true] at h
  rw [setR, nameT, if_pos h.1]
  simp only [Option.bind_some]
  rw [wantM, if_pos h.2]; rfl
theorem kd_s {sg : List Sg} {x : Gs} {s : Ps} (hs : pur x = some s) : (sgO sg s.pos).kind = (pkG sg x 0).kind := (kd_f hs).symm
theorem st_note {sg : List Sg} {x : Gs} {n : Nat} {b : Bool} (hs : sgB sg) (h : gsOk sg x) (hk : (pkG sg x 0).kind = 5) : nodP sg x (stR sg (n + 1) b) (gAddK x, gLeaf sg x 19 b) :=
  nod_eq (leaf_nod hs h (fun _ => (kd_lt (by omega)).2)) (fun s hp => by rw [st_eq, if_pos (by rw [kd_s hp]; exact hk)])
theorem st_var {sg : List Sg} {x : Gs} {n : Nat} {b : Bool} {z : Int × Gs} (h : gsOk sg x) (hk : (pkG sg x 0).kind ≠ 5) (hq : isG sg x 1 [118, 97, 114] = true) (hz : nodP sg (gAdv x) (varR sg b) z) : nodP sg x (stR sg (n + 1) b) z :=
  nod_adv h (by omega) hq hz.1 (fun s hp ht => by rw [st_eq, if_neg (by rw [kd_s hp]; exact hk), if_pos (show isW sg s _ = true from ht)])
theorem st_ret {sg : List Sg} {x : Gs} {n : Nat} {b : Bool} {z : Int × Gs} (h : gsOk sg x) (hk : (pkG sg x 0).kind ≠ 5) (h1 : isG sg x 1 [118, 97, 114] = false) (hq : isG sg x 1 [114, 101, 116, 117, 114, 110] = true) (hz : nodP sg (gAdv x) (retR sg b) z) : nodP sg x (stR sg (n + 1) b) z :=
  nod_adv h (by omega) hq hz.1 (fun s hp ht => by rw [st_eq, if_neg (by rw [kd_s hp]; exact hk), if_neg (by simp [tst_Wn hp h1]), if_pos (show isW sg s _ = true from ht)])
theorem st_if {sg : List Sg} {x : Gs} {n : Nat} {b : Bool} {z : Int × Gs} (h : gsOk sg x) (hk : (pkG sg x 0).kind ≠ 5) (h1 : isG sg x 1 [118, 97, 114] = false) (h2 : isG sg x 1 [114, 101, 116, 117, 114, 110] = false) (hq : isG sg x 1 [105, 102] = true)
    (hz : nodP sg (gAdv x) (ifR sg n b) z) : nodP sg x (stR sg (n + 1) b) z :=
  nod_adv h (by omega) hq hz.1 (fun s hp ht => by rw [st_eq, if_neg (by rw [kd_s hp]; exact hk), if_neg (by simp [tst_Wn hp h1]), if_neg (by simp [tst_Wn hp h2]), if_pos (show isW sg s _ = true from ht)])
theorem st_wh {sg : List Sg} {x : Gs} {n : Nat} {b : Bool} {z : Int × Gs} (h : gsOk sg x) (hk : (pkG sg x 0).kind ≠ 5) (h1 : isG sg x 1 [118, 97, 114] = false) (h2 : isG sg x 1 [114, 101, 116, 117, 114, 110] = false) (h3 : isG sg x 1 [105, 102] = false) (hq : isG sg x 1 [119, 104, 105, 108, 101] = true)
    (hz : nodP sg (gAdv x) (whR sg n b) z) : nodP sg x (stR sg (n + 1) b) z :=
  nod_adv h (by omega) hq hz.1 (fun s hp ht => by rw [st_eq, if_neg (by rw [kd_s hp]; exact hk), if_neg (by simp [tst_Wn hp h1]), if_neg (by simp [tst_Wn hp h2]), if_neg (by simp [tst_Wn hp h3]), if_pos (show isW sg s _ = true from ht)])
def seG (sg : List Sg) (x : Gs) : Bool := nmG sg x 0 && (decide ((pkG sg x 1).kind = 4) && ((pkG sg x 1).text == [61]))
theorem se_f {sg : List Sg} {x : Gs} {s : Ps} (hs : pur x = some s) : (nmAt sg s.pos && isM sg (adv s) [61]) = seG sg x := by
  obtain ⟨hb, rfl⟩ := pur_some.1 hs
  have := nmG_f (sg := sg) (n := 0) (pur_f hb)
  simp only [Int.add_zero] at this
  rw [seG, this, pkG_f hb]; rfl
theorem st_set {sg : List Sg} {x : Gs} {n : Nat} {b : Bool} {z : Int × Gs} (h : gsOk sg x) (hk : (pkG sg x 0).kind ≠ 5) (h1 : isG sg x 1 [118, 97, 114] = false) (h2 : isG sg x 1 [114, 101, 116, 117, 114, 110] = false) (h3 : isG sg x 1 [105, 102] = false) (h4 : isG sg x 1 [119, 104, 105, 108, 101] = false)
    (hq : seG sg x = true) (hz : nodP sg x (setR sg b) z) : nodP sg x (stR sg (n + 1) b) z :=
  nod_eq hz (fun s hp => by rw [st_eq, if_neg (by rw [kd_s hp]; exact hk), if_neg (by simp [tst_Wn hp h1]), if_neg (by simp [tst_Wn hp h2]), if_neg (by simp [tst_Wn hp h3]), if_neg (by simp [tst_Wn hp h4]), if_pos (by rw [se_f hp]; exact hq), set_eq (by rw [se_f hp]; exact hq)])
theorem st_do {sg : List Sg} {x : Gs} {n : Nat} {b : Bool} {z : Int × Gs} (h : gsOk sg x) (hk : (pkG sg x 0).kind ≠ 5) (h1 : isG sg x 1 [118, 97, 114] = false) (h2 : isG sg x 1 [114, 101, 116, 117, 114, 110] = false) (h3 : isG sg x 1 [105, 102] = false) (h4 : isG sg x 1 [119, 104, 105, 108, 101] = false)
    (hq : seG sg x = false) (hz : nodP sg x (doR sg b) z) : nodP sg x (stR sg (n + 1) b) z :=
  nod_eq hz (fun s hp => by rw [st_eq, if_neg (by rw [kd_s hp]; exact hk), if_neg (by simp [tst_Wn hp h1]), if_neg (by simp [tst_Wn hp h2]), if_neg (by simp [tst_Wn hp h3]), if_neg (by simp [tst_Wn hp h4]), if_neg (by rw [se_f hp]; simp [hq])])
theorem meth_all {sg : List Sg} {x : Gs} {b : Bool} {l : List Int × Gs} {q : Int × Gs} (hs : sgB sg) (h : gsOk sg x) (hl : resP sg (gTake sg (gName sg x) [40]) (listR sg (nameR sg) [41] (sg.length + 1) []) l) (hll : l.1.length ≤ 3001)
    (hq : nodP sg (gTake sg l.2 [41]) (blockR sg) q) : nodP sg x (methR sg b) (gAddK q.2, gAdd q.2 ⟨20, gNameT sg x, l.1 ++ [q.1], b⟩) := by
  have k1 := rest_res (k := fun t s => (wantM sg [40] s).bind fun s1 => (listR sg (nameR sg) [41] (sg.length + 1) [] s1).bind fun q => (wantM sg [41] q.2).bind fun s2 => (blockR sg s2).bind fun r => putR ⟨20, t, q.1 ++ [r.1], b⟩ r.2) (rest_0 (f := methR sg b) h) (name_nod h).1 (fun _ _ => rfl)
  have k2 := rest_take (g' := fun s1 => (listR sg (nameR sg) [41] (sg.length + 1) [] s1).bind fun q => (wantM sg [41] q.2).bind fun s2 => (blockR sg s2).bind fun r => putR ⟨20, gNameT sg x, q.1 ++ [r.1], b⟩ r.2) k1 (fun _ _ => rfl)
  have k3 := rest_res (k := fun ks s => (wantM sg [41] s).bind fun s2 => (blockR sg s2).bind fun r => putR ⟨20, gNameT sg x, ks ++ [r.1], b⟩ r.2) k2 hl (fun _ _ => rfl)
  have k4 := rest_take (g' := fun s2 => (blockR sg s2).bind fun r => putR ⟨20, gNameT sg x, l.1 ++ [r.1], b⟩ r.2) k3 (fun _ _ => rfl)
  have k5 := rest_res (k := fun k s => putR ⟨20, gNameT sg x, l.1 ++ [k], b⟩ s) k4 hq.1 (fun _ _ => rfl)
  refine add_nod k5 (nodB1 (nameT_len hs) (by simp; omega)) (fun hb => ?_)
  have := (nod_dp hq).2.2.2 hb; have := k4.2.2.1; omega
theorem cls_all {sg : List Sg} {x : Gs} {b : Bool} {l : List Int × Gs} (hs : sgB sg) (h : gsOk sg x) (hl : resP sg (gTake sg (gName sg x) [123]) (manyR sg (mem0R sg) [125] (sg.length + 1) []) l) (hll : l.1.length ≤ 3001) :
    nodP sg x (clsR sg b) (gCloseK sg l.2 [125], gClose sg l.2 [125] ⟨21, gNameT sg x, l.1, b⟩) := by
  have k1 := rest_res (k := fun t s => (wantM sg [123] s).bind fun s1 => (manyR sg (mem0R sg) [125] (sg.length + 1) [] s1).bind fun q => closeR sg [125] ⟨21, t, q.1, b⟩ q.2) (rest_0 (f := clsR sg b) h) (name_nod h).1 (fun _ _ => rfl)
  have k2 := rest_take (g' := fun s1 => (manyR sg (mem0R sg) [125] (sg.length + 1) [] s1).bind fun q => closeR sg [125] ⟨21, gNameT sg x, q.1, b⟩ q.2) k1 (fun _ _ => rfl)
  have k3 := rest_res (k := fun ks s => closeR sg [125] ⟨21, gNameT sg x, ks, b⟩ s) k2 hl (fun _ _ => rfl)
  exact close_res k3 (nodB1 (nameT_len hs) (by omega))
theorem mem0_note {sg : List Sg} {x : Gs} {b : Bool} (hs : sgB sg) (h : gsOk sg x) (hk : (pkG sg x 0).kind = 5) : nodP sg x (mem0R sg b) (gAddK x, gLeaf sg x 19 b) :=
  nod_eq (leaf_nod hs h (fun _ => (kd_lt (by omega)).2)) (fun s hp => by rw [mem0R, if_pos (by rw [kd_s hp]; exact hk)])
theorem mem0_var {sg : List Sg} {x : Gs} {b : Bool} {z : Int × Gs} (h : gsOk sg x) (hk : (pkG sg x 0).kind ≠ 5) (hq : isG sg x 1 [118, 97, 114] = true) (hz : nodP sg (gAdv x) (varR sg b) z) : nodP sg x (mem0R sg b) z :=
  nod_adv h (by omega) hq hz.1 (fun s hp ht => by rw [mem0R, if_neg (by rw [kd_s hp]; exact hk), if_pos (show isW sg s _ = true from ht)])
theorem mem0_meth {sg : List Sg} {x : Gs} {b : Bool} {z : Int × Gs} (h : gsOk sg x) (hk : (pkG sg x 0).kind ≠ 5) (hq : isG sg x 1 [118, 97, 114] = false) (hz : nodP sg x (methR sg b) z) : nodP sg x (mem0R sg b) z :=
  nod_eq hz (fun s hp => by rw [mem0R, if_neg (by rw [kd_s hp]; exact hk), if_neg (by simp [tst_Wn hp hq])])
theorem mem_note {sg : List Sg} {x : Gs} {b : Bool} (hs : sgB sg) (h : gsOk sg x) (hk : (pkG sg x 0).kind = 5) : nodP sg x (memR sg b) (gAddK x, gLeaf sg x 19 b) :=
  nod_eq (leaf_nod hs h (fun _ => (kd_lt (by omega)).2)) (fun s hp => by rw [memR, if_pos (by rw [kd_s hp]; exact hk)])
theorem mem_var {sg : List Sg} {x : Gs} {b : Bool} {z : Int × Gs} (h : gsOk sg x) (hk : (pkG sg x 0).kind ≠ 5) (hq : isG sg x 1 [118, 97, 114] = true) (hz : nodP sg (gAdv x) (varR sg b) z) : nodP sg x (memR sg b) z :=
  nod_adv h (by omega) hq hz.1 (fun s hp ht => by rw [memR, if_neg (by rw [kd_s hp]; exact hk), if_pos (show isW sg s _ = true from ht)])
theorem mem_cls {sg : List Sg} {x : Gs} {b : Bool} {z : Int × Gs} (h : gsOk sg x) (hk : (pkG sg x 0).kind ≠ 5) (h1 : isG sg x 1 [118, 97, 114] = false) (hq : isG sg x 1 [99, 108, 97, 115, 115] = true) (hz : nodP sg (gAdv x) (clsR sg b) z) : nodP sg x (memR sg b) z :=
  nod_adv h (by omega) hq hz.1 (fun s hp ht => by rw [memR, if_neg (by rw [kd_s hp]; exact hk), if_neg (by simp [tst_Wn hp h1]), if_pos (show isW sg s _ = true from ht)])
theorem mem_meth {sg : List Sg} {x : Gs} {b : Bool} {z : Int × Gs} (h : gsOk sg x) (hk : (pkG sg x 0).kind ≠ 5) (h1 : isG sg x 1 [118, 97, 114] = false) (hq : isG sg x 1 [99, 108, 97, 115, 115] = false) (hz : nodP sg x (methR sg b) z) : nodP sg x (memR sg b) z :=
  nod_eq hz (fun s hp => by rw [memR, if_neg (by rw [kd_s hp]; exact hk), if_neg (by simp [tst_Wn hp h1]), if_neg (by simp [tst_Wn hp hq])])
def filI (sg : List Sg) (y : Gs) (ks : List Int) (ms : List (Int × Int)) (N : Nat) : Prop :=
  gsOk sg y ∧ y.deep = 0 ∧ (pur y).bind (fileR sg N ks ms) = fileR sg (sg.length + 1) [] [] ps0 ∧ (y.bad = false → (sg.length : Int) - y.pos < N) ∧ (ks.length : Int) ≤ y.pos + 1 ∧ (y.bad = false → (ks.length : Int) ≤ y.pos) ∧ ms.length = ks.length
def gs0 : Gs := ⟨0, 0, false, []⟩
theorem gs0_ok {sg : List Sg} : gsOk sg gs0 := ⟨by simp [gs0], by simp [gs0], by simp [gs0], by simp [gs0]⟩
theorem fil_0 {sg : List Sg} : filI sg gs0 [] [] (sg.length + 1) := ⟨gs0_ok, rfl, rfl, fun _ => by simp only [gs0]; omega, by simp [gs0], fun _ => by simp [gs0], rfl⟩
theorem fil_go {sg : List Sg} {y : Gs} {ks : List Int} {ms : List (Int × Int)} {N : Nat} {z : Int × Gs} (h : filI sg y ks ms N) (hb : y.bad = false) (hl : y.pos < sg.length) (hz : nodP sg y (memR sg ((pkG sg y 0).blank && decide (0 < ks.length))) z) :
    ∃ M, N = M + 1 ∧ filI sg z.2 (ks ++ [z.1]) (ms ++ [(y.pos, z.2.pos)]) M := by
  obtain ⟨h0, hd, h1, h2, h3, h4, h5⟩ := h
  have h2 := h2 hb; have h4 := h4 hb
  match N with
  | 0 => omega
  | M + 1 =>
    have e := nod_dp hz
    obtain ⟨⟨a1, a2, a3, a4, a5⟩, b⟩ := hz
    refine ⟨M, rfl, a1, by omega, ?_, fun hw => by have := e.2.2.2 hw; omega, by simp; omega, fun hw => by have := e.2.2.2 hw; simp; omega, by simp [h5]⟩
    rw [← h1, pur_f hb, Option.bind_some, fileR, if_pos hl]
    rw [pur_f hb] at a4 a5
    have eb : (sgO sg y.pos).blank = (pkG sg y 0).blank := by rw [pkG_f hb]; simp
    simp only [Option.bind_some] at a4 a5
    rw [eb, a4]
    cases hp : memR sg ((pkG sg y 0).blank && decide (0 < ks.length)) ⟨y.pos, y.deep, y.nodes⟩ with
    | none => rfl
    | some p =>
      simp only [Option.map_some, Option.bind_some]
      have := a5 p hp
      have hpos : z.2.pos = p.2.pos := by
        rw [hp] at a4
        simp only [Option.map_some] at a4
        obtain ⟨_, e2⟩ := pur_some.1 a4
        rw [e2]
      rw [this, hpos]
def outR (sg : List Sg) (y : Gs) (ks : List Int) : Gs := gAdd y ⟨22, [], ks, false⟩
theorem read_bad {sg : List Sg} {y : Gs} {ks : List Int} {ms : List (Int × Int)} {N : Nat} (h : filI sg y ks ms N) (hb : (outR sg y ks).bad = true) (he : y.bad = true ∨ ¬ y.pos < sg.length) : readR sg = none := by
  obtain ⟨h0, hd, h1, h2, h3, h4, h5⟩ := h
  rw [readR, ← h1]
  cases hy : y.bad with
  | true => rw [pur_t hy]; rfl
  | false =>
    have h2 := h2 hy
    have he : ¬ y.pos < sg.length := by rcases he with he | he
                                        · rw [hy] at he; cases he
                                        · exact he
    match N with
    | 0 => have := h0.1; omega
    | N + 1 =>
      rw [pur_f hy, Option.bind_some, fileR, if_neg he, Option.bind_some]
      unfold outR gAdd at hb
      split at hb
      · rename_i hf
        have h3 : y.nodes.length = 300 := by simpa [gFull, hy] using hf
        rw [putR, if_pos (by simp only; omega)]; rfl
      · simp only at hb; rw [hy] at hb; cases hb
theorem read_ok {sg : List Sg} {y : Gs} {ks : List Int} {ms : List (Int × Int)} {N : Nat} (h : filI sg y ks ms N) (hb : (outR sg y ks).bad = false) (he : y.bad = true ∨ ¬ y.pos < sg.length) :
    readR sg = if treeOk (outR sg y ks).nodes then some (ms, (outR sg y ks).nodes) else none := by
  obtain ⟨h0, hd, h1, h2, h3, h4, h5⟩ := h
  have hy := (@add_dp y ⟨22, [], ks, false⟩).2.2 hb
  have h2 := h2 hy
  have he : ¬ y.pos < sg.length := by rcases he with he | he
                                      · rw [hy] at he; cases he
                                      · exact he
  rw [readR, ← h1]
  match N with
  | 0 => have := h0.1; omega
  | N + 1 =>
    rw [pur_f hy, Option.bind_some, fileR, if_neg he, Option.bind_some]
    unfold outR gAdd at hb ⊢
    split at hb
    · simp [gBad] at hb
    · rename_i hf
      rw [if_neg hf]
      have hf2 := full_f (by simpa using hf)
      have := h0.2.2.1
      rw [putR, if_neg (by simp only; omega)]
      simp only [Option.bind_some]
end Go.My
end
section
set_option linter.unusedVariables false
set_option linter.unusedSimpArgs false
namespace Go.My
open Go.Eng Go.Proofs
variable {G : GInv}
theorem con_0 {P : Program} {f : FuncId} {S : Sig} {fn : Func} {c : Code} (hfn : P.funcs[f]? = some fn) (hb : fn.body = some c) (hn : (fn.name == "runtime.NumGoroutine") = false) (hp : ∀ x, ¬ S.pre x) : Contract G P f S :=
  ⟨⟨⟨fn, hfn, hn, by simp [hb]⟩, fun x y hx _ => (hp x hx).elim⟩, fun x hx => (hp x hx).elim⟩
theorem wP_0 {r : Nat} {s : ST} {g : Gs} (hr : 1 ≤ r) (h : wP r 0 s g) : False := by
  have h1 := h.1.1.2.1.2; have h2 := h.2; omega
theorem vP_0 {r : Nat} {s : ST} {g : Gs} (hr : 1 ≤ r) (h : vP r 0 s g) : False := by
  have h1 := h.1.1.2.1.2; have h2 := h.2; omega
theorem rAll_0 : rAll G 0 :=
  ⟨con_0 Tryz.func164 rfl (by decide) (fun x h => vP_0 (by omega) h), con_0 Tryz.func180 rfl (by decide) (fun x h => vP_0 (by omega) h),
   con_0 Tryz.func190 rfl (by decide) (fun x h => wP_0 (by have := h.2; omega) h.1), con_0 Tryz.func193 rfl (by decide) (fun x h => wP_0 (by omega) h), con_0 Tryz.func196 rfl (by decide) (fun x h => wP_0 (by omega) h)⟩
theorem rAll_all (n : Nat) : rAll G n := by
  induction n with
  | zero => exact rAll_0
  | succ n ih => exact ⟨rValS_ok n ih, rPickS_ok n ih, rChS_ok n ih, rEndS_ok n ih, rBaseS_ok n ih⟩
def s_rV : Sig := { X := ST × Int × Int × Bool × List Nd, args := fun x => [rdG x.1 (xg x)], pre := fun x => rOk x.1 (xg x) ∧ (xg x).deep ≤ 20, Y := Int × Int × Int × Bool × List Nd, post := fun x y => nodP x.1.sg (xg x) (valR x.1.sg) (yS y), res := fun x y => .int .i64 y.1, outs := fun x y => [rdG x.1 (yG y.2)], keep := true }
theorem rV_pre {s : ST} {g : Gs} (h : rOk s g ∧ g.deep ≤ 20) : vP 11 peN s g := by
  have h1 := h.1.2.1; have h2 := h.1.1.1
  exact ⟨h, by unfold peN; omega⟩
theorem rV_ok : Contract G Go.Proofs.Tryz.prog 164 s_rV :=
  have c := (rAll_all (G := G) peN).val
  ⟨⟨c.1.1, fun x y hx hy => c.1.2 x y (rV_pre hx) hy⟩, fun x hx => c.2 x (rV_pre hx)⟩
end Go.My
end
section
set_option linter.unusedVariables false
set_option linter.unusedSimpArgs false
namespace Go.My
open Go.Eng Go.Proofs
variable {G : GInv}
def okD (s : ST) (x : Gs) : Prop := rOk s x ∧ x.deep ≤ 20
def okN (s : ST) (x : Gs) : Prop := okD s x ∧ x.bad = false ∧ x.pos < s.sg.length
theorem pass_g {x : Gs} (h : x.bad = false) : gPass x = gAdv x := by simp [gPass, h]
theorem okN_adv {s : ST} {x : Gs} (h : okN s x) : rOk s (gAdv x) ∧ (gAdv x).deep ≤ 20 := ⟨⟨h.1.1.1, adv_ok h.1.1.2 h.2.2⟩, h.1.2⟩
theorem nm_ok {s : ST} {x : Gs} (h : rOk s x) : rOk s (gName s.sg x) := ⟨h.1, (name_nod h.2).1.1⟩
theorem nm_dp {s : ST} {x : Gs} (h : rOk s x) : (gName s.sg x).deep = x.deep ∧ x.pos ≤ (gName s.sg x).pos := by
  have := nod_dp (name_nod h.2); exact ⟨this.1, this.2.1⟩
theorem tk_ok {s : ST} {x : Gs} {m : List UInt8} (h : rOk s x) : rOk s (gTake s.sg x m) ∧ (gTake s.sg x m).deep = x.deep := ⟨⟨h.1, (tk_b h.2).1⟩, (tk_b h.2).2.1⟩
theorem bl_t {a : Bool} {k : Int} (h : a = true) : decide (k > 0) = (a && decide (0 < k)) := by simp [h]
theorem bl_f {a : Bool} {k : Int} (h : a = false) : false = (a && decide (0 < k)) := by simp [h]
theorem vr_sk {s : ST} {x : Gs} (h : rOk s x) (hd : x.deep ≤ 20) (hq : isG s.sg (gName s.sg x) 4 [61] = true) : rOk s (gSkip s.sg (gName s.sg x) [61]) ∧ (gSkip s.sg (gName s.sg x) [61]).deep ≤ 20 := by
  rw [skip_yG hq]
  have a := nm_ok h; have b := nm_dp h
  refine ⟨⟨h.1, adv_ok a.2 (isG_lt hq (by omega)).2⟩, ?_⟩
  have e : (gAdv (gName s.sg x)).deep = (gName s.sg x).deep := rfl
  omega
theorem vr_y {s : ST} {x : Gs} {b : Bool} {z : Int × Gs} (h : rOk s x) (hq : isG s.sg (gName s.sg x) 4 [61] = true) (hz : nodP s.sg (gSkip s.sg (gName s.sg x) [61]) (valR s.sg) z) :
    nodP s.sg x (varR s.sg b) (gCloseK s.sg z.2 [59], gClose s.sg z.2 [59] ⟨12, gNameT s.sg x, [z.1], b⟩) := by
  rw [skip_yG hq] at hz; exact var_yes h.1 h.2 hq hz
theorem vr_nk {s : ST} {x : Gs} (h : rOk s x) (hq : isG s.sg (gName s.sg x) 4 [61] = false) : rOk s (gSkip s.sg (gName s.sg x) [61]) := by
  rw [skip_n hq]; exact nm_ok h
theorem vr_n {s : ST} {x : Gs} {b : Bool} (h : rOk s x) (hq : isG s.sg (gName s.sg x) 4 [61] = false) :
    nodP s.sg x (varR s.sg b) (gCloseK s.sg (gSkip s.sg (gName s.sg x) [61]) [59], gClose s.sg (gSkip s.sg (gName s.sg x) [61]) [59] ⟨12, gNameT s.sg x, [], b⟩) := by
  rw [skip_n hq]; exact var_no h.1 h.2 hq
theorem res_okD {α : Type} {s : ST} {x : Gs} {f : Ps → Option (α × Ps)} {y : α × Gs} (h : okD s x) (hy : resP s.sg x f y) : okD s y.2 := ⟨⟨h.1.1, hy.1⟩, by have := hy.2.1; have := h.2; omega⟩
def mbJ (sg : List Sg) (n : Nat) (x y : Gs) (ks : List Int) (N : Nat) : Prop :=
  manI sg (stR sg n) [125] (gTake sg (gDp (if x.deep = 20 then gBad x else x) 1) [123]) y ks N ∧ y.deep = x.deep + 1 ∧ (y.bad = false → x.deep ≠ 20)
theorem mb_en {s : ST} {x : Gs} (h : okD s x) : rOk s (gDp (if x.deep = 20 then gBad x else x) 1) := by
  refine ⟨h.1.1, ?_⟩
  have h1 := h.1.2.2.1; have h2 := h.2
  split
  · exact ⟨h.1.2.1, by simp only [gDp, gBad]; omega, h.1.2.2.2⟩
  · exact ⟨h.1.2.1, by simp only [gDp]; omega, h.1.2.2.2⟩
theorem mb_0 {s : ST} {x : Gs} {n : Nat} (h : okD s x) : mbJ s.sg n x (gTake s.sg (gDp (if x.deep = 20 then gBad x else x) 1) [123]) [] (s.sg.length + 1) := by
  have a := mb_en h
  obtain ⟨t1, t2, t3, t4⟩ := tk_b (m := [123]) a.2
  refine ⟨man_0 t1, ?_, fun hb => ?_⟩
  · rw [t2]; split <;> rfl
  · intro h20
    have := t4 hb
    rw [if_pos h20] at this
    simp [gDp, gBad] at this
theorem mb_ok {s : ST} {x y : Gs} {n : Nat} {ks : List Int} {N : Nat} (h : okD s x) (hj : mbJ s.sg n x y ks N) : rOk s y := ⟨h.1.1, hj.1.1.1⟩
theorem mb_d {s : ST} {x y : Gs} {n : Nat} {ks : List Int} {N : Nat} (h : okD s x) (h2 : 20 - x.deep ≤ n) (hj : mbJ s.sg n x y ks N) (hb : y.bad = false) : y.deep ≤ 20 ∧ 21 - y.deep ≤ n := by
  have := hj.2.1; have := hj.2.2 hb; have := h.2; omega
theorem mb_ks {s : ST} {x y : Gs} {n : Nat} {ks : List Int} {N : Nat} (h : okD s x) (hj : mbJ s.sg n x y ks N) : ks.length ≤ 3001 := by
  have := hj.1.2.2.1; have := hj.1.1.1.1; have := h.1.1.1; omega
theorem mb_go {s : ST} {x y : Gs} {n : Nat} {ks : List Int} {N : Nat} {b : Bool} {z : Int × Gs} (hj : mbJ s.sg n x y ks N) (hb : y.bad = false) (hq : isG s.sg y 4 [125] = false) (hz : nodP s.sg y (stR s.sg n b) z) (e : b = ((pkG s.sg y 0).blank && decide (0 < (ks.length : Int)))) :
    mbJ s.sg n x z.2 (ks ++ [z.1]) (N - 1) ∧ N - 1 < N := by
  subst e
  obtain ⟨a, b⟩ := ex_pred (man_go hj.1 hb hq (z := z) (by
    have : decide (0 < ks.length) = decide (0 < (ks.length : Int)) := by simp
    rw [this]; exact hz))
  have := (nod_dp hz).1
  exact ⟨⟨a, by have := hj.2.1; omega, fun hw => hj.2.2 hb⟩, b⟩
theorem mb_c {s : ST} {x y : Gs} {n : Nat} {ks : List Int} {N : Nat} (h : okD s x) (hj : mbJ s.sg n x y ks N) : nodB ⟨18, [], ks, false⟩ := ⟨by simp, by have := mb_ks h hj; simp only; omega⟩
theorem mb_e {s : ST} {x y : Gs} {n : Nat} {ks : List Int} {N : Nat} (h : okD s x) (hj : mbJ s.sg n x y ks N) (hy : y.bad = true ∨ isG s.sg y 4 [125] = true) :
    nodP s.sg x (blkR s.sg (stR s.sg n)) (gCloseK s.sg y [125], gDp (gClose s.sg y [125] ⟨18, [], ks, false⟩) (-1)) := by
  refine blk_all (l := (ks, y)) h.1.1 h.1.2 h.2 ?_ (mb_ks h hj)
  rcases hy with hy | hy
  · exact man_bad hj.1 hy
  · exact man_end hj.1 hy
theorem mb_cd {s : ST} {x y : Gs} {n : Nat} {ks : List Int} {N : Nat} {m : List UInt8} {w : Nd} (h : okD s x) (hj : mbJ s.sg n x y ks N) (hw : nodB w) : 1 ≤ (gClose s.sg y m w).deep ∧ (gClose s.sg y m w).deep ≤ 21 := by
  have := (nod_dp (close_nod (m := m) hj.1.1.1 hw)).1
  have := hj.2.1; have := h.2; have := h.1.2.2.1
  simp only at *; omega
theorem st_wd {s : ST} {x : Gs} {w : List UInt8} (h : okD s x) (hq : isG s.sg x 1 w = true) : okN s x := ⟨h, (isG_lt hq (by omega)).1, (isG_lt hq (by omega)).2⟩
theorem blk_okD {s : ST} {x : Gs} {f : Ps → PR} {z : Int × Gs} (h : okD s x) (hz : nodP s.sg x f z) : okD s z.2 := res_okD h hz.1
theorem pss_okD {s : ST} {x : Gs} {m : List UInt8} (h : okD s x) (hq : isG s.sg x 1 m = true) : okD s (gAdv x) := ⟨(okN_adv (st_wd h hq)).1, (okN_adv (st_wd h hq)).2⟩
theorem se_y {s : ST} {x : Gs} {n : Nat} {b : Bool} {z : Int × Gs} (h : rOk s x) (hk : (pkG s.sg x 0).kind ≠ 5) (h1 : isG s.sg x 1 [118, 97, 114] = false) (h2 : isG s.sg x 1 [114, 101, 116, 117, 114, 110] = false) (h3 : isG s.sg x 1 [105, 102] = false) (h4 : isG s.sg x 1 [119, 104, 105, 108, 101] = false)
    (hn : nmG s.sg x 0 = true) (ht : (pkG s.sg x 1).text = [61]) (hk2 : (pkG s.sg x 1).kind = 4) (hz : nodP s.sg (gTake s.sg (gName s.sg x) [61]) (valR s.sg) z) :
    nodP s.sg x (stR s.sg (n + 1) b) (gCloseK s.sg z.2 [59], gClose s.sg z.2 [59] ⟨13, gNameT s.sg x, [z.1], b⟩) :=
  st_set h.2 hk h1 h2 h3 h4 (by simp [seG, hn, hk2, ht]) (set_all h.1 h.2 hz)
theorem se_n {s : ST} {x : Gs} {n : Nat} {b : Bool} {z : Int × Gs} (h : rOk s x) (hk : (pkG s.sg x 0).kind ≠ 5) (h1 : isG s.sg x 1 [118, 97, 114] = false) (h2 : isG s.sg x 1 [114, 101, 116, 117, 114, 110] = false) (h3 : isG s.sg x 1 [105, 102] = false) (h4 : isG s.sg x 1 [119, 104, 105, 108, 101] = false)
    (hn : nmG s.sg x 0 = false ∨ (pkG s.sg x 1).text ≠ [61] ∨ (pkG s.sg x 1).kind ≠ 4) (hz : nodP s.sg x (valR s.sg) z) :
    nodP s.sg x (stR s.sg (n + 1) b) (gCloseK s.sg z.2 [59], gClose s.sg z.2 [59] ⟨14, [], [z.1], b⟩) :=
  st_do h.2 hk h1 h2 h3 h4 (by rcases hn with hn | hn | hn <;> simp [seG, hn]) (do_all h.2 hz)
theorem wh_y {s : ST} {x : Gs} {n : Nat} {b : Bool} {c q : Int × Gs} (h : okD s x) (hk : (pkG s.sg x 0).kind ≠ 5) (h1 : isG s.sg x 1 [118, 97, 114] = false) (h2 : isG s.sg x 1 [114, 101, 116, 117, 114, 110] = false) (h3 : isG s.sg x 1 [105, 102] = false) (hq : isG s.sg x 1 [119, 104, 105, 108, 101] = true)
    (hc : resP s.sg (gAdv x) (condR s.sg) c) (hz : nodP s.sg c.2 (blkR s.sg (stR s.sg n)) q) : nodP s.sg x (stR s.sg (n + 1) b) (gAddK q.2, gAdd q.2 ⟨17, [], [c.1, q.1], b⟩) :=
  st_wh h.1.2 hk h1 h2 h3 hq (wh_all (pss_okD h hq).1.2 hc hz)
theorem res_d {α : Type} {s : ST} {x : Gs} {n : Nat} {f : Ps → Option (α × Ps)} {y : α × Gs} (h : 20 - x.deep ≤ (n : Int)) (hy : resP s.sg x f y) : 20 - y.2.deep ≤ (n : Int) := by have := hy.2.1; omega
theorem nod_d2 {α : Type} {s : ST} {x : Gs} {n : Nat} {f : Ps → Option (α × Ps)} {y : α × Gs} (h : 20 - x.deep ≤ (n : Int)) (hy : nodP s.sg x f y) : 20 - y.2.deep ≤ (n : Int) := res_d h hy.1
theorem st_td {s : ST} {x : Gs} {m : List UInt8} (h : okD s x) : (gTake s.sg (gName s.sg x) m).deep ≤ 20 := by rw [(tk_ok (nm_ok h.1)).2, (nm_dp h.1).1]; exact h.2
def s_rSt (n : Nat) : Sig := { X := ST × Int × Int × Bool × List Nd × Bool, args := fun x => [rdG x.1 (xh x), .bool x.2.2.2.2.2], pre := fun x => (okD x.1 (xh x) ∧ (xh x).bad = false) ∧ 21 - (xh x).deep ≤ n, Y := Int × Int × Int × Bool × List Nd, post := fun x y => nodP x.1.sg (xh x) (stR x.1.sg n x.2.2.2.2.2) (yS y), res := fun x y => .int .i64 y.1, outs := fun x y => [rdG x.1 (yG y.2), .top], keep := true }
attribute [local irreducible] pE listR callR fnR nodP resP gsOk gTake gClose gAdd gPass gLeaf gSkip gNameN gNameK gAddK gCloseK pkG isG nmG gName gNameT varR retR condR valR blkR stR manyR
def s_rNote  : Sig := { X := ST × Int × Int × Bool × List Nd × Bool, args := fun x => [rdG x.1 (xh x), .bool x.2.2.2.2.2], pre := fun x => rOk x.1 (xh x) ∧ (pkG x.1.sg (xh x) 0).kind = 5, Y := Unit, post := fun x y => True, res := fun x y => .int .i64 (gAddK (xh x)), outs := fun x y => [rdG x.1 (gLeaf x.1.sg (xh x) 19 x.2.2.2.2.2), .top], keep := true }
theorem rNote_ok  : Contract G Tryz.prog 132 s_rNote :=
  vcFun_okP [(103, 0, s_rNext), (104, 0, s_rAdd), (162, 0, s_rPass)] [(45, ⟨Int,intA⟩)] false (fun x => []) Tryz.func132 rfl (by decide) ⟨rNext_ok, rAdd_ok, rPass_ok, trivial⟩ (fun (x : ST × Int × Int × Bool × List Nd × Bool) => True ∧ cA s_rNext [rdG x.1 (xh x)] fun x_1 y => cA s_rAdd [rdG x_1.1 (xg x_1), .agg [.int .i64 (19 : Int), .str (pkG x_1.1.sg (xg x_1) (0 : Int)).text, .nil, .bool x.2.2.2.2.2]] fun x_2 y => cA s_rPass [rdG x_2.1 (gAdd (xh x_2) { kind := x_2.2.2.2.2.2.1, text := x_2.2.2.2.2.2.2.1, kids := x_2.2.2.2.2.2.2.2.1, blank := x_2.2.2.2.2.2.2.2.2 })] fun x_3 y => rA s_rNote x [.int .i64 (gAddK (xh x_2)), rdG x_3.1 (gPass (xg x_3)), .top]) (fun x => by kernel_rfl) fun (x : ST × Int × Int × Bool × List Nd × Bool) (hx : rOk x.1 (xh x) ∧ (pkG x.1.sg (xh x) 0).kind = 5) => (by
  dsimp only [cA, mbs, ndA_e, onds, rA, rdG, s_rAdd, s_rNext, s_rNote, s_rPass, sgA_e, sgs, hndL, hnd1, mvL, lnL, mvE, lnE]
  obtain ⟨s, p, d, b, ns, e⟩ := x; dsimp only [xg, xh] at hx ⊢
  obtain ⟨h1, h2⟩ := hx
  (repeat' first | (with_reducible first | rfl | exact True.intro | apply inR_i64 | apply And.intro | ((first | apply bcase_dec | apply bcase_bne | apply bcase_beq | apply bcase_not) <;> intro _)) | (apply bcase_intro <;> intro _) | apply sl_eq | refine ex_flip () ?_ ?_ | ((first | apply ex_flip10 | apply ex_flip9 | apply ex_flip8 | apply ex_flip7 | apply ex_flip6 | apply ex_flip5 | apply ex_flip4 | apply ex_flip3 | apply ex_flip2) <;> try dsimp only) | apply ex_flip | (refine Prod.forall.2 ?_; intro _; try dsimp only) | (intro _; try dsimp only))
  all_goals first
    | rfl
    | exact h1
    | exact ⟨h1.1, add_ok h1.2 ⟨pkG_text h1.1, by simp⟩⟩
    | (simp [gLeaf, *]; done)
    | skip)
def s_rVar  : Sig := { X := ST × Int × Int × Bool × List Nd × Bool, args := fun x => [rdG x.1 (xh x), .bool x.2.2.2.2.2], pre := fun x => okN x.1 (xh x), Y := Int × Int × Int × Bool × List Nd, post := fun x y => nodP x.1.sg (gAdv (xh x)) (varR x.1.sg x.2.2.2.2.2) (yS y), res := fun x y => .int .i64 y.1, outs := fun x y => [rdG x.1 (yG y.2), .top], keep := true }
theorem rVar_ok  : Contract G Tryz.prog 134 s_rVar :=
  vcFun_okP [(162, 0, s_rPass), (136, 0, s_rName), (163, 0, s_rSkip), (164, 0, s_rV), (165, 0, s_rClose)] [(45, ⟨Int,intA⟩)] false (fun x => []) Tryz.func134 rfl (by decide) ⟨rPass_ok, rName_ok, rSkip_ok, rV_ok, rClose_ok, trivial⟩ (fun (x : ST × Int × Int × Bool × List Nd × Bool) => True ∧ cA s_rPass [rdG x.1 (xh x)] fun x_1 y => cA s_rName [rdG x_1.1 (gPass (xg x_1))] fun x_2 y => cA s_rSkip [rdG x_2.1 (gName x_2.1.sg (xg x_2)), .str #[(61 : UInt8)].toList] fun x_3 y => bcase (isG x_3.1.sg (xh x_3) (4 : Int) x_3.2.2.2.2.2) (cA s_rV [rdG x_3.1 (gSkip x_3.1.sg (xh x_3) x_3.2.2.2.2.2)] fun x_4 y => ∃ (x_5 : Int), y.1 = x_5 ∧ cA s_rClose [rdG x_4.1 (yG y.2), .str #[(59 : UInt8)].toList, .agg [.int .i64 (12 : Int), .str (gNameT x_2.1.sg (xg x_2)), oints [x_5], .bool x.2.2.2.2.2]] fun x_6 y => rA s_rVar x [.int .i64 (gCloseK x_6.1.sg (xh x_6) x_6.2.2.2.2.2.1), rdG x_6.1 (gClose x_6.1.sg (xh x_6) x_6.2.2.2.2.2.1 { kind := x_6.2.2.2.2.2.2.1, text := x_6.2.2.2.2.2.2.2.1, kids := x_6.2.2.2.2.2.2.2.2.1, blank := x_6.2.2.2.2.2.2.2.2.2 }), .top]) (cA s_rClose [rdG x_3.1 (gSkip x_3.1.sg (xh x_3) x_3.2.2.2.2.2), .str #[(59 : UInt8)].toList, .agg [.int .i64 (12 : Int), .str (gNameT x_2.1.sg (xg x_2)), .nil, .bool x.2.2.2.2.2]] fun x_4 y => rA s_rVar x [.int .i64 (gCloseK x_4.1.sg (xh x_4) x_4.2.2.2.2.2.1), rdG x_4.1 (gClose x_4.1.sg (xh x_4) x_4.2.2.2.2.2.1 { kind := x_4.2.2.2.2.2.2.1, text := x_4.2.2.2.2.2.2.2.1, kids := x_4.2.2.2.2.2.2.2.2.1, blank := x_4.2.2.2.2.2.2.2.2.2 }), .top])) (fun x => by kernel_rfl) fun (x : ST × Int × Int × Bool × List Nd × Bool) (hx : okN x.1 (xh x)) => (by
  dsimp only [cA, mbs, ndA_e, oints, onds, rA, rdG, s_rClose, s_rName, s_rPass, s_rSkip, s_rV, s_rVar, sgA_e, sgs, hndL, hnd1, mvL, lnL, mvE, lnE]
  obtain ⟨s, p, d, b, ns, e⟩ := x; dsimp only [xg, xh] at hx ⊢
  have hx : okN s ⟨p, d, b, ns⟩ := hx
  have hp := pass_g hx.2.1
  obtain ⟨h1, h2⟩ := okN_adv hx
  (repeat' first | (with_reducible first | rfl | exact True.intro | apply inR_i64 | apply And.intro | ((first | apply bcase_dec | apply bcase_bne | apply bcase_beq | apply bcase_not) <;> intro _)) | (apply bcase_intro <;> intro _) | apply sl_eq | refine ex_flip () ?_ ?_ | ((first | apply ex_flip10 | apply ex_flip9 | apply ex_flip8 | apply ex_flip7 | apply ex_flip6 | apply ex_flip5 | apply ex_flip4 | apply ex_flip3 | apply ex_flip2) <;> try dsimp only) | apply ex_flip | (refine Prod.forall.2 ?_; intro _; try dsimp only) | (intro _; try dsimp only))
  all_goals (try dsimp only [xg, xh, yG, yS, iG] at *)
  all_goals (try simp only [gs_eta, hp] at *)
  all_goals first
    | rfl
    | exact hx.1.1
    | exact h1
    | exact h2
    | exact nm_ok h1
    | exact (vr_sk h1 h2 (by assumption)).1
    | exact (vr_sk h1 h2 (by assumption)).2
    | exact vr_nk h1 (by assumption)
    | exact fn_4 h1 (by assumption)
    | exact nodB1 (nameT_len h1.1) (by simp)
    | exact vr_y h1 (by assumption) (by assumption)
    | exact vr_n h1 (by assumption)
    | skip)
def s_rLeave  : Sig := { X := ST × Int × Int × Bool × List Nd × Bool, args := fun x => [rdG x.1 (xh x), .bool x.2.2.2.2.2], pre := fun x => okN x.1 (xh x), Y := Int × Int × Int × Bool × List Nd, post := fun x y => nodP x.1.sg (gAdv (xh x)) (retR x.1.sg x.2.2.2.2.2) (yS y), res := fun x y => .int .i64 y.1, outs := fun x y => [rdG x.1 (yG y.2), .top], keep := true }
theorem rLeave_ok  : Contract G Tryz.prog 182 s_rLeave :=
  vcFun_okP [(162, 0, s_rPass), (166, 0, s_rIs), (164, 0, s_rV), (165, 0, s_rClose)] [(45, ⟨Int,intA⟩)] false (fun x => []) Tryz.func182 rfl (by decide) ⟨rPass_ok, rIs_ok, rV_ok, rClose_ok, trivial⟩ (fun (x : ST × Int × Int × Bool × List Nd × Bool) => True ∧ cA s_rPass [rdG x.1 (xh x)] fun x_1 y => cA s_rIs [rdG x_1.1 (gPass (xg x_1)), .str #[(59 : UInt8)].toList] fun x_2 y => bcase (!isG x_2.1.sg (xh x_2) (4 : Int) x_2.2.2.2.2.2) (cA s_rV [rdG x_2.1 (xh x_2)] fun x_3 y => ∃ (x_4 : Int), y.1 = x_4 ∧ cA s_rClose [rdG x_3.1 (yG y.2), .str #[(59 : UInt8)].toList, .agg [.int .i64 (15 : Int), .str #[].toList, oints [x_4], .bool x.2.2.2.2.2]] fun x_5 y => rA s_rLeave x [.int .i64 (gCloseK x_5.1.sg (xh x_5) x_5.2.2.2.2.2.1), rdG x_5.1 (gClose x_5.1.sg (xh x_5) x_5.2.2.2.2.2.1 { kind := x_5.2.2.2.2.2.2.1, text := x_5.2.2.2.2.2.2.2.1, kids := x_5.2.2.2.2.2.2.2.2.1, blank := x_5.2.2.2.2.2.2.2.2.2 }), .top]) (cA s_rClose [rdG x_2.1 (xh x_2), .str #[(59 : UInt8)].toList, .agg [.int .i64 (15 : Int), .str #[].toList, .nil, .bool x.2.2.2.2.2]] fun x_3 y => rA s_rLeave x [.int .i64 (gCloseK x_3.1.sg (xh x_3) x_3.2.2.2.2.2.1), rdG x_3.1 (gClose x_3.1.sg (xh x_3) x_3.2.2.2.2.2.1 { kind := x_3.2.2.2.2.2.2.1, text := x_3.2.2.2.2.2.2.2.1, kids := x_3.2.2.2.2.2.2.2.2.1, blank := x_3.2.2.2.2.2.2.2.2.2 }), .top])) (fun x => by kernel_rfl) fun (x : ST × Int × Int × Bool × List Nd × Bool) (hx : okN x.1 (xh x)) => (by
  dsimp only [cA, mbs, ndA_e, oints, onds, rA, rdG, s_rClose, s_rIs, s_rLeave, s_rPass, s_rV, sgA_e, sgs, hndL, hnd1, mvL, lnL, mvE, lnE]
  obtain ⟨s, p, d, b, ns, e⟩ := x; dsimp only [xg, xh] at hx ⊢
  have hx : okN s ⟨p, d, b, ns⟩ := hx
  have hp := pass_g hx.2.1
  obtain ⟨h1, h2⟩ := okN_adv hx
  (repeat' first | (with_reducible first | rfl | exact True.intro | apply inR_i64 | apply And.intro | ((first | apply bcase_dec | apply bcase_bne | apply bcase_beq | apply bcase_not) <;> intro _)) | (apply bcase_intro <;> intro _) | apply sl_eq | refine ex_flip () ?_ ?_ | ((first | apply ex_flip10 | apply ex_flip9 | apply ex_flip8 | apply ex_flip7 | apply ex_flip6 | apply ex_flip5 | apply ex_flip4 | apply ex_flip3 | apply ex_flip2) <;> try dsimp only) | apply ex_flip | (refine Prod.forall.2 ?_; intro _; try dsimp only) | (intro _; try dsimp only))
  all_goals (try dsimp only [xg, xh, yG, yS, iG] at *)
  all_goals (try simp only [gs_eta, hp] at *)
  all_goals first
    | rfl
    | exact hx.1.1
    | exact h1
    | exact h2
    | exact fn_4 h1 (by assumption)
    | exact nodB1 (by simp) (by simp)
    | exact ret_no h1.2 (by assumption)
    | exact ret_yes h1.2 (by assumption) (by assumption)
    | skip)
def s_rCond  : Sig := { X := ST × Int × Int × Bool × List Nd, args := fun x => [rdG x.1 (xg x)], pre := fun x => okD x.1 (xg x), Y := Int × Int × Int × Bool × List Nd, post := fun x y => resP x.1.sg (xg x) (condR x.1.sg) (yS y), res := fun x y => oints [y.1], outs := fun x y => [rdG x.1 (yG y.2)], keep := true }
theorem rCond_ok  : Contract G Tryz.prog 184 s_rCond :=
  vcFun_okP [(137, 0, s_rTake), (164, 0, s_rV)] [(45, ⟨Int,intA⟩)] false (fun x => []) Tryz.func184 rfl (by decide) ⟨rTake_ok, rV_ok, trivial⟩ (fun (x : ST × Int × Int × Bool × List Nd) => True ∧ cA s_rTake [rdG x.1 (xg x), .str #[(40 : UInt8)].toList] fun x_1 y => cA s_rV [rdG x_1.1 (gTake x_1.1.sg (xh x_1) x_1.2.2.2.2.2)] fun x_2 y => cA s_rTake [rdG x_2.1 (yG y.2), .str #[(41 : UInt8)].toList] fun x_3 y_1 => ∃ (x_4 : Int), y.1 = x_4 ∧ rA s_rCond x [oints [x_4], rdG x_3.1 (gTake x_3.1.sg (xh x_3) x_3.2.2.2.2.2)]) (fun x => by kernel_rfl) fun (x : ST × Int × Int × Bool × List Nd) (hx : okD x.1 (xg x)) => (by
  dsimp only [cA, mbs, ndA_e, oints, onds, rA, rdG, s_rCond, s_rTake, s_rV, sgA_e, sgs, hndL, hnd1, mvL, lnL, mvE, lnE]
  obtain ⟨s, p, d, b, ns⟩ := x; dsimp only [xg, xh] at hx ⊢
  have hx : okD s ⟨p, d, b, ns⟩ := hx
  have t := tk_ok (m := [40]) hx.1; have hd := hx.2; dsimp only at hd
  (repeat' first | (with_reducible first | rfl | exact True.intro | apply inR_i64 | apply And.intro | ((first | apply bcase_dec | apply bcase_bne | apply bcase_beq | apply bcase_not) <;> intro _)) | (apply bcase_intro <;> intro _) | apply sl_eq | refine ex_flip () ?_ ?_ | ((first | apply ex_flip10 | apply ex_flip9 | apply ex_flip8 | apply ex_flip7 | apply ex_flip6 | apply ex_flip5 | apply ex_flip4 | apply ex_flip3 | apply ex_flip2) <;> try dsimp only) | apply ex_flip | (refine Prod.forall.2 ?_; intro _; try dsimp only) | (intro _; try dsimp only))
  all_goals (try dsimp only [xg, xh, yG, yS, iG] at *)
  all_goals (try simp only [gs_eta] at *)
  all_goals first
    | rfl
    | exact hx.1
    | exact t.1
    | (rw [t.2]; exact hd)
    | exact fn_4 hx.1 (by assumption)
    | exact cond_all hx.1.2 (by assumption)
    | skip)
def s_rBlk (n : Nat) : Sig := { X := ST × Int × Int × Bool × List Nd, args := fun x => [rdG x.1 (xg x)], pre := fun x => okD x.1 (xg x) ∧ 20 - (xg x).deep ≤ (n : Int), Y := Int × Int × Int × Bool × List Nd, post := fun x y => nodP x.1.sg (xg x) (blkR x.1.sg (stR x.1.sg n)) (yS y), res := fun x y => .int .i64 y.1, outs := fun x y => [rdG x.1 (yG y.2)], keep := true }
def i_rBlk (n : Nat) (x : ST × Int × Int × Bool × List Nd) : LS := { ι := Int × Int × Bool × List Nd × List Int × Nat, inv := fun i => mbJ x.1.sg n (xg x) (iG i) i.2.2.2.2.1 i.2.2.2.2.2, regs := fun i => [(0, rdG x.1 (iG i)), (3, oints i.2.2.2.2.1)], als := [], meas := fun i => i.2.2.2.2.2 }
theorem rBlk_ok (n : Nat) (h : Contract G Go.Proofs.Tryz.prog 170 (s_rSt n)) : Contract G Tryz.prog 140 (s_rBlk n) :=
  vcFun_okP [(169, 0, s_rEnter), (137, 0, s_rTake), (166, 0, s_rIs), (103, 0, s_rNext), (170, 0, (s_rSt n)), (165, 0, s_rClose)] [(45, ⟨Int,intA⟩)] false (fun x => [(4, i_rBlk n x)]) Tryz.func140 rfl (by decide) ⟨rEnter_ok, rTake_ok, rIs_ok, rNext_ok, h, rClose_ok, trivial⟩ (fun (x : ST × Int × Int × Bool × List Nd) => True ∧ cA s_rEnter [rdG x.1 (xg x)] fun x_1 y => cA s_rTake [.box 0 [sgs x_1.1.sg, .int .i64 x_1.1.z, .int .i64 (gDp (if (xg x_1).deep = (20 : Int) then gBad (xg x_1) else xg x_1) (1 : Int)).pos, .int .i64 (gDp (if (xg x_1).deep = (20 : Int) then gBad (xg x_1) else xg x_1) (1 : Int)).deep, .bool (gDp (if (xg x_1).deep = (20 : Int) then gBad (xg x_1) else xg x_1) (1 : Int)).bad, onds (gDp (if (xg x_1).deep = (20 : Int) then gBad (xg x_1) else xg x_1) (1 : Int)).nodes, mbs x_1.1.ms], .str #[(123 : UInt8)].toList] fun x_2 y => eA (i_rBlk n x) [rdG x_2.1 (gTake x_2.1.sg (xh x_2) x_2.2.2.2.2.2), .nil] ∧ ∀ (i : Int × Int × Bool × List Nd × List Int × Nat), mbJ x.1.sg n (xg x) (iG i) i.2.2.2.2.1 i.2.2.2.2.2 → bcase (!(iG i).bad) (cA s_rIs [rdG x.1 (iG i), .str #[(125 : UInt8)].toList] fun x_3 y => bcase (!isG x_3.1.sg (xh x_3) (4 : Int) x_3.2.2.2.2.2) (cA s_rNext [rdG x_3.1 (xh x_3)] fun x_4 y => bcase (pkG x_4.1.sg (xg x_4) (0 : Int)).blank (cA (s_rSt n) [rdG x_4.1 (xg x_4), .bool (decide ((↑(List.length i.2.2.2.2.1) : Int) > (0 : Int)))] fun x_5 y => ∃ (x_6 : Int), y.1 = x_6 ∧ ∃ (zs : List Int), oints [x_6] = oints zs ∧ leafy intA ∧ room (List.length i.2.2.2.2.1 + List.length zs) (8 : Nat) ∧ eN (i_rBlk n x) i [rdG x_5.1 (yG y.2), oints (i.2.2.2.2.1 ++ zs)]) (cA (s_rSt n) [rdG x_4.1 (xg x_4), .bool false] fun x_5 y => ∃ (x_6 : Int), y.1 = x_6 ∧ ∃ (zs : List Int), oints [x_6] = oints zs ∧ leafy intA ∧ room (List.length i.2.2.2.2.1 + List.length zs) (8 : Nat) ∧ eN (i_rBlk n x) i [rdG x_5.1 (yG y.2), oints (i.2.2.2.2.1 ++ zs)])) (cA s_rClose [rdG x_3.1 (xh x_3), .str #[(125 : UInt8)].toList, .agg [.int .i64 (18 : Int), .str #[].toList, oints i.2.2.2.2.1, .bool false]] fun x_4 y => inR IntKind.i64 ((gClose x_4.1.sg (xh x_4) x_4.2.2.2.2.2.1 { kind := x_4.2.2.2.2.2.2.1, text := x_4.2.2.2.2.2.2.2.1, kids := x_4.2.2.2.2.2.2.2.2.1, blank := x_4.2.2.2.2.2.2.2.2.2 }).deep - (1 : Int)) ∧ rA (s_rBlk n) x [.int .i64 (gCloseK x_4.1.sg (xh x_4) x_4.2.2.2.2.2.1), .box 0 [sgs x_4.1.sg, .int .i64 x_4.1.z, .int .i64 (gClose x_4.1.sg (xh x_4) x_4.2.2.2.2.2.1 { kind := x_4.2.2.2.2.2.2.1, text := x_4.2.2.2.2.2.2.2.1, kids := x_4.2.2.2.2.2.2.2.2.1, blank := x_4.2.2.2.2.2.2.2.2.2 }).pos, .int .i64 ((gClose x_4.1.sg (xh x_4) x_4.2.2.2.2.2.1 { kind := x_4.2.2.2.2.2.2.1, text := x_4.2.2.2.2.2.2.2.1, kids := x_4.2.2.2.2.2.2.2.2.1, blank := x_4.2.2.2.2.2.2.2.2.2 }).deep - (1 : Int)), .bool (gClose x_4.1.sg (xh x_4) x_4.2.2.2.2.2.1 { kind := x_4.2.2.2.2.2.2.1, text := x_4.2.2.2.2.2.2.2.1, kids := x_4.2.2.2.2.2.2.2.2.1, blank := x_4.2.2.2.2.2.2.2.2.2 }).bad, onds (gClose x_4.1.sg (xh x_4) x_4.2.2.2.2.2.1 { kind := x_4.2.2.2.2.2.2.1, text := x_4.2.2.2.2.2.2.2.1, kids := x_4.2.2.2.2.2.2.2.2.1, blank := x_4.2.2.2.2.2.2.2.2.2 }).nodes, mbs x_4.1.ms]])) (cA s_rClose [rdG x.1 (iG i), .str #[(125 : UInt8)].toList, .agg [.int .i64 (18 : Int), .str #[].toList, oints i.2.2.2.2.1, .bool false]] fun x_3 y => inR IntKind.i64 ((gClose x_3.1.sg (xh x_3) x_3.2.2.2.2.2.1 { kind := x_3.2.2.2.2.2.2.1, text := x_3.2.2.2.2.2.2.2.1, kids := x_3.2.2.2.2.2.2.2.2.1, blank := x_3.2.2.2.2.2.2.2.2.2 }).deep - (1 : Int)) ∧ rA (s_rBlk n) x [.int .i64 (gCloseK x_3.1.sg (xh x_3) x_3.2.2.2.2.2.1), .box 0 [sgs x_3.1.sg, .int .i64 x_3.1.z, .int .i64 (gClose x_3.1.sg (xh x_3) x_3.2.2.2.2.2.1 { kind := x_3.2.2.2.2.2.2.1, text := x_3.2.2.2.2.2.2.2.1, kids := x_3.2.2.2.2.2.2.2.2.1, blank := x_3.2.2.2.2.2.2.2.2.2 }).pos, .int .i64 ((gClose x_3.1.sg (xh x_3) x_3.2.2.2.2.2.1 { kind := x_3.2.2.2.2.2.2.1, text := x_3.2.2.2.2.2.2.2.1, kids := x_3.2.2.2.2.2.2.2.2.1, blank := x_3.2.2.2.2.2.2.2.2.2 }).deep - (1 : Int)), .bool (gClose x_3.1.sg (xh x_3) x_3.2.2.2.2.2.1 { kind := x_3.2.2.2.2.2.2.1, text := x_3.2.2.2.2.2.2.2.1, kids := x_3.2.2.2.2.2.2.2.2.1, blank := x_3.2.2.2.2.2.2.2.2.2 }).bad, onds (gClose x_3.1.sg (xh x_3) x_3.2.2.2.2.2.1 { kind := x_3.2.2.2.2.2.2.1, text := x_3.2.2.2.2.2.2.2.1, kids := x_3.2.2.2.2.2.2.2.2.1, blank := x_3.2.2.2.2.2.2.2.2.2 }).nodes, mbs x_3.1.ms]])) (fun x => by kernel_rfl) fun (x : ST × Int × Int × Bool × List Nd) (hx : okD x.1 (xg x) ∧ 20 - (xg x).deep ≤ (n : Int)) => (by
  dsimp only [cA, eA, eN, i_rBlk, mbs, ndA_e, oints, onds, rA, rdG, s_rBlk, s_rClose, s_rEnter, s_rIs, s_rNext, s_rSt, s_rTake, sgA_e, sgs, hndL, hnd1, mvL, lnL, mvE, lnE, sndL]
  obtain ⟨s, p, d, b, ns⟩ := x; dsimp only [xg, xh] at hx ⊢
  obtain ⟨hx, hd⟩ := hx
  have hx : okD s ⟨p, d, b, ns⟩ := hx; have hd2 := hx.2; dsimp only at hd2
  (repeat' first | (with_reducible first | rfl | exact True.intro | apply inR_i64 | apply And.intro | ((first | apply bcase_dec | apply bcase_bne | apply bcase_beq | apply bcase_not) <;> intro _)) | (apply bcase_intro <;> intro _) | apply sl_eq | refine ex_flip () ?_ ?_ | ((first | apply ex_flip10 | apply ex_flip9 | apply ex_flip8 | apply ex_flip7 | apply ex_flip6 | apply ex_flip5 | apply ex_flip4 | apply ex_flip3 | apply ex_flip2) <;> try dsimp only) | apply ex_flip | (refine Prod.forall.2 ?_; intro _; try dsimp only) | (intro _; try dsimp only))
  all_goals (try dsimp only [xg, xh, yG, yS, iG] at *)
  all_goals (try simp only [gs_eta] at *)
  all_goals first
    | (show Nat; skip)
    | rfl
    | exact hx.1
    | exact hd2
    | assumption
    | exact mb_en hx
    | exact mb_0 hx
    | exact mb_ok hx (by assumption)
    | exact mb_c hx (by assumption)
    | exact ⟨mb_ok hx (by assumption), (mb_d hx hd (by assumption) (by assumption)).1⟩
    | exact (mb_d hx hd (by assumption) (by assumption)).2
    | exact (mb_go (by assumption) (by assumption) (by assumption) (by assumption) (bl_t (by assumption))).1
    | exact (mb_go (by assumption) (by assumption) (by assumption) (by assumption) (bl_f (by assumption))).1
    | exact mb_e hx (by assumption) (.inl (by assumption))
    | exact mb_e hx (by assumption) (.inr (by assumption))
    | (have hq := mb_ks hx (show mbJ _ _ _ _ _ _ by assumption); (try simp only [room, List.length_append, List.length_cons, List.length_nil]); omega)
    | (have hj := (show mbJ _ _ _ _ _ _ by assumption); have hq := mb_cd (m := [125]) hx hj (mb_c hx hj); (try simp only [i64max]); omega)
    | skip
  all_goals first
    | exact (mb_go (by assumption) (by assumption) (by assumption) (by assumption) (bl_t (by assumption))).2
    | exact (mb_go (by assumption) (by assumption) (by assumption) (by assumption) (bl_f (by assumption))).2
    | skip)
def s_rBranch (n : Nat) : Sig := { X := ST × Int × Int × Bool × List Nd × Bool, args := fun x => [rdG x.1 (xh x), .bool x.2.2.2.2.2], pre := fun x => okN x.1 (xh x) ∧ 20 - (xh x).deep ≤ (n : Int), Y := Int × Int × Int × Bool × List Nd, post := fun x y => nodP x.1.sg (gAdv (xh x)) (ifR x.1.sg n x.2.2.2.2.2) (yS y), res := fun x y => .int .i64 y.1, outs := fun x y => [rdG x.1 (yG y.2), .top], keep := true }
theorem rBranch_ok (n : Nat) (h : Contract G Go.Proofs.Tryz.prog 170 (s_rSt n)) : Contract G Tryz.prog 183 (s_rBranch n) :=
  vcFun_okP [(162, 0, s_rPass), (184, 0, s_rCond), (140, 0, (s_rBlk n)), (133, 0, s_rIsW), (104, 0, s_rAdd)] [(45, ⟨Int,intA⟩)] false (fun x => []) Tryz.func183 rfl (by decide) ⟨rPass_ok, rCond_ok, (rBlk_ok n h), rIsW_ok, rAdd_ok, trivial⟩ (fun (x : ST × Int × Int × Bool × List Nd × Bool) => True ∧ cA s_rPass [rdG x.1 (xh x)] fun x_1 y => cA s_rCond [rdG x_1.1 (gPass (xg x_1))] fun x_2 y => cA (s_rBlk n) [rdG x_2.1 (yG y.2)] fun x_3 y_1 => ∃ (x_4 : Int), y_1.1 = x_4 ∧ ∃ (zs : List Int), oints [x_4] = oints zs ∧ leafy intA ∧ room (List.length [y.1] + List.length zs) (8 : Nat) ∧ cA s_rIsW [rdG x_3.1 (yG y_1.2), .str #[(101 : UInt8), (108 : UInt8), (115 : UInt8), (101 : UInt8)].toList] fun x_5 y_2 => bcase (isG x_5.1.sg (xh x_5) (1 : Int) x_5.2.2.2.2.2) (cA s_rPass [rdG x_5.1 (xh x_5)] fun x_6 y_3 => cA (s_rBlk n) [rdG x_6.1 (gPass (xg x_6))] fun x_7 y_4 => ∃ (x_8 : Int), y_4.1 = x_8 ∧ ∃ (zs_1 : List Int), oints [x_8] = oints zs_1 ∧ leafy intA ∧ room (List.length (y.1 :: List.append._f [] PUnit.unit zs) + List.length zs_1) (8 : Nat) ∧ cA s_rAdd [rdG x_7.1 (yG y_4.2), .agg [.int .i64 (16 : Int), .str #[].toList, oints (y.1 :: List.append._f [] PUnit.unit zs ++ zs_1), .bool x.2.2.2.2.2]] fun x_9 y => rA (s_rBranch n) x [.int .i64 (gAddK (xh x_9)), rdG x_9.1 (gAdd (xh x_9) { kind := x_9.2.2.2.2.2.1, text := x_9.2.2.2.2.2.2.1, kids := x_9.2.2.2.2.2.2.2.1, blank := x_9.2.2.2.2.2.2.2.2 }), .top]) (cA s_rAdd [rdG x_5.1 (xh x_5), .agg [.int .i64 (16 : Int), .str #[].toList, oints ([y.1] ++ zs), .bool x.2.2.2.2.2]] fun x_6 y => rA (s_rBranch n) x [.int .i64 (gAddK (xh x_6)), rdG x_6.1 (gAdd (xh x_6) { kind := x_6.2.2.2.2.2.1, text := x_6.2.2.2.2.2.2.1, kids := x_6.2.2.2.2.2.2.2.1, blank := x_6.2.2.2.2.2.2.2.2 }), .top])) (fun x => by kernel_rfl) fun (x : ST × Int × Int × Bool × List Nd × Bool) (hx : okN x.1 (xh x) ∧ 20 - (xh x).deep ≤ (n : Int)) => (by
  dsimp only [cA, mbs, ndA_e, oints, onds, rA, rdG, s_rAdd, s_rBlk, s_rBranch, s_rCond, s_rIsW, s_rPass, sgA_e, sgs, hndL, hnd1, mvL, lnL, mvE, lnE]
  obtain ⟨s, p, d, b, ns, e⟩ := x; dsimp only [xg, xh] at hx ⊢
  obtain ⟨hx, hd⟩ := hx
  have hx : okN s ⟨p, d, b, ns⟩ := hx
  have hp := pass_g hx.2.1
  have h1 : okD s (gAdv ⟨p, d, b, ns⟩) := okN_adv hx
  have h2 : 20 - (gAdv ⟨p, d, b, ns⟩).deep ≤ (n : Int) := hd
  (repeat' first | (with_reducible first | rfl | exact True.intro | apply inR_i64 | apply And.intro | ((first | apply bcase_dec | apply bcase_bne | apply bcase_beq | apply bcase_not) <;> intro _)) | (apply bcase_intro <;> intro _) | apply sl_eq | refine ex_flip () ?_ ?_ | ((first | apply ex_flip10 | apply ex_flip9 | apply ex_flip8 | apply ex_flip7 | apply ex_flip6 | apply ex_flip5 | apply ex_flip4 | apply ex_flip3 | apply ex_flip2) <;> try dsimp only) | apply ex_flip | (refine Prod.forall.2 ?_; intro _; try dsimp only) | (intro _; try dsimp only))
  all_goals (try dsimp only [xg, xh, yG, yS, iG] at *)
  all_goals (try simp only [gs_eta, hp] at *)
  all_goals first
    | rfl
    | exact hx.1.1
    | exact h1
    | exact h1.1
    | exact res_okD h1 (by assumption)
    | exact res_d h2 (by assumption)
    | skip
  all_goals (try (have e := pass_g (lt_bad (show isG s.sg _ 1 [101, 108, 115, 101] = true by assumption) (by omega)); simp only [e] at *))
  all_goals (try (have hc := (show resP s.sg _ (condR s.sg) _ by assumption); have k1 := res_okD h1 hc; have k2 := res_d h2 hc))
  all_goals first
    | exact (show room 2 8 by simp [room])
    | exact (show room 3 8 by simp [room])
    | exact (blk_okD k1 (show nodP s.sg _ (blkR s.sg _) _ by assumption)).1
    | exact pss_okD (blk_okD k1 (by assumption)) (by assumption)
    | exact (blk_okD (pss_okD (blk_okD k1 (by assumption)) (by assumption)) (by assumption)).1
    | (have hh := nod_d2 k2 (show nodP s.sg _ (blkR s.sg _) _ by assumption); exact hh)
    | exact if_no h1.1.2 (by assumption) (by assumption) (by assumption)
    | exact if_yes h1.1.2 (by assumption) (by assumption) (by assumption) (by assumption)
    | skip)
def s_rStS (n : Nat) : Sig := { X := ST × Int × Int × Bool × List Nd × Bool, args := fun x => [rdG x.1 (xh x), .bool x.2.2.2.2.2], pre := fun x => (okD x.1 (xh x) ∧ (xh x).bad = false) ∧ 21 - (xh x).deep ≤ (n + 1 : Nat), Y := Int × Int × Int × Bool × List Nd, post := fun x y => nodP x.1.sg (xh x) (stR x.1.sg (n + 1) x.2.2.2.2.2) (yS y), res := fun x y => .int .i64 y.1, outs := fun x y => [rdG x.1 (yG y.2), .top], keep := true }
theorem rStS_ok (n : Nat) (h : Contract G Go.Proofs.Tryz.prog 170 (s_rSt n)) : Contract G Tryz.prog 170 (s_rStS n) :=
  vcFun_okP [(103, 0, s_rNext), (132, 0, s_rNote), (133, 0, s_rIsW), (134, 0, s_rVar), (182, 0, s_rLeave), (183, 0, (s_rBranch n)), (162, 0, s_rPass), (184, 0, s_rCond), (140, 0, (s_rBlk n)), (167, 0, s_rNmN), (141, 0, s_rPeek), (136, 0, s_rName), (137, 0, s_rTake), (164, 0, s_rV), (165, 0, s_rClose), (104, 0, s_rAdd)] [(45, ⟨Int,intA⟩)] false (fun x => []) Tryz.func170 rfl (by decide) ⟨rNext_ok, rNote_ok, rIsW_ok, rVar_ok, rLeave_ok, (rBranch_ok n h), rPass_ok, rCond_ok, (rBlk_ok n h), rNmN_ok, rPeek_ok, rName_ok, rTake_ok, rV_ok, rClose_ok, rAdd_ok, trivial⟩ (fun (x : ST × Int × Int × Bool × List Nd × Bool) => True ∧ cA s_rNext [rdG x.1 (xh x)] fun x_1 y => bcase ((pkG x_1.1.sg (xg x_1) (0 : Int)).kind == (5 : Int)) (cA s_rNote [rdG x_1.1 (xg x_1), .bool x.2.2.2.2.2] fun x_2 y => rA (s_rStS n) x [.int .i64 (gAddK (xh x_2)), rdG x_2.1 (gLeaf x_2.1.sg (xh x_2) (19 : Int) x_2.2.2.2.2.2), .top]) (cA s_rIsW [rdG x_1.1 (xg x_1), .str #[(118 : UInt8), (97 : UInt8), (114 : UInt8)].toList] fun x_2 y => bcase (isG x_2.1.sg (xh x_2) (1 : Int) x_2.2.2.2.2.2) (cA s_rVar [rdG x_2.1 (xh x_2), .bool x.2.2.2.2.2] fun x_3 y => rA (s_rStS n) x [.int .i64 y.1, rdG x_3.1 (yG y.2), .top]) (cA s_rIsW [rdG x_2.1 (xh x_2), .str #[(114 : UInt8), (101 : UInt8), (116 : UInt8), (117 : UInt8), (114 : UInt8), (110 : UInt8)].toList] fun x_3 y => bcase (isG x_3.1.sg (xh x_3) (1 : Int) x_3.2.2.2.2.2) (cA s_rLeave [rdG x_3.1 (xh x_3), .bool x.2.2.2.2.2] fun x_4 y => rA (s_rStS n) x [.int .i64 y.1, rdG x_4.1 (yG y.2), .top]) (cA s_rIsW [rdG x_3.1 (xh x_3), .str #[(105 : UInt8), (102 : UInt8)].toList] fun x_4 y => bcase (isG x_4.1.sg (xh x_4) (1 : Int) x_4.2.2.2.2.2) (cA (s_rBranch n) [rdG x_4.1 (xh x_4), .bool x.2.2.2.2.2] fun x_5 y => rA (s_rStS n) x [.int .i64 y.1, rdG x_5.1 (yG y.2), .top]) (cA s_rIsW [rdG x_4.1 (xh x_4), .str #[(119 : UInt8), (104 : UInt8), (105 : UInt8), (108 : UInt8), (101 : UInt8)].toList] fun x_5 y => bcase (isG x_5.1.sg (xh x_5) (1 : Int) x_5.2.2.2.2.2) (cA s_rPass [rdG x_5.1 (xh x_5)] fun x_6 y => cA s_rCond [rdG x_6.1 (gPass (xg x_6))] fun x_7 y => cA (s_rBlk n) [rdG x_7.1 (yG y.2)] fun x_8 y_1 => ∃ (x_9 : Int), y_1.1 = x_9 ∧ ∃ (zs : List Int), oints [x_9] = oints zs ∧ leafy intA ∧ room (List.length [y.1] + List.length zs) (8 : Nat) ∧ cA s_rAdd [rdG x_8.1 (yG y_1.2), .agg [.int .i64 (17 : Int), .str #[].toList, oints ([y.1] ++ zs), .bool x.2.2.2.2.2]] fun x_10 y => rA (s_rStS n) x [.int .i64 (gAddK (xh x_10)), rdG x_10.1 (gAdd (xh x_10) { kind := x_10.2.2.2.2.2.1, text := x_10.2.2.2.2.2.2.1, kids := x_10.2.2.2.2.2.2.2.1, blank := x_10.2.2.2.2.2.2.2.2 }), .top]) (cA s_rNmN [rdG x_5.1 (xh x_5), .int .i64 (0 : Int)] fun x_6 y => bcase (nmG x_6.1.sg (xh x_6) x_6.2.2.2.2.2) (cA s_rPeek [rdG x_6.1 (xh x_6), .int .i64 (1 : Int)] fun x_7 y => bcase ((pkG x_7.1.sg (xh x_7) x_7.2.2.2.2.2).text == #[(61 : UInt8)].toList) (cA s_rPeek [rdG x_7.1 (xh x_7), .int .i64 (1 : Int)] fun x_8 y => bcase ((pkG x_8.1.sg (xh x_8) x_8.2.2.2.2.2).kind == (4 : Int)) (cA s_rName [rdG x_8.1 (xh x_8)] fun x_9 y => cA s_rTake [rdG x_9.1 (gName x_9.1.sg (xg x_9)), .str #[(61 : UInt8)].toList] fun x_10 y => cA s_rV [rdG x_10.1 (gTake x_10.1.sg (xh x_10) x_10.2.2.2.2.2)] fun x_11 y => ∃ (x_12 : Int), y.1 = x_12 ∧ cA s_rClose [rdG x_11.1 (yG y.2), .str #[(59 : UInt8)].toList, .agg [.int .i64 (13 : Int), .str (gNameT x_9.1.sg (xg x_9)), oints [x_12], .bool x.2.2.2.2.2]] fun x_13 y => rA (s_rStS n) x [.int .i64 (gCloseK x_13.1.sg (xh x_13) x_13.2.2.2.2.2.1), rdG x_13.1 (gClose x_13.1.sg (xh x_13) x_13.2.2.2.2.2.1 { kind := x_13.2.2.2.2.2.2.1, text := x_13.2.2.2.2.2.2.2.1, kids := x_13.2.2.2.2.2.2.2.2.1, blank := x_13.2.2.2.2.2.2.2.2.2 }), .top]) (cA s_rV [rdG x_8.1 (xh x_8)] fun x_9 y => ∃ (x_10 : Int), y.1 = x_10 ∧ cA s_rClose [rdG x_9.1 (yG y.2), .str #[(59 : UInt8)].toList, .agg [.int .i64 (14 : Int), .str #[].toList, oints [x_10], .bool x.2.2.2.2.2]] fun x_11 y => rA (s_rStS n) x [.int .i64 (gCloseK x_11.1.sg (xh x_11) x_11.2.2.2.2.2.1), rdG x_11.1 (gClose x_11.1.sg (xh x_11) x_11.2.2.2.2.2.1 { kind := x_11.2.2.2.2.2.2.1, text := x_11.2.2.2.2.2.2.2.1, kids := x_11.2.2.2.2.2.2.2.2.1, blank := x_11.2.2.2.2.2.2.2.2.2 }), .top])) (cA s_rV [rdG x_7.1 (xh x_7)] fun x_8 y => ∃ (x_9 : Int), y.1 = x_9 ∧ cA s_rClose [rdG x_8.1 (yG y.2), .str #[(59 : UInt8)].toList, .agg [.int .i64 (14 : Int), .str #[].toList, oints [x_9], .bool x.2.2.2.2.2]] fun x_10 y => rA (s_rStS n) x [.int .i64 (gCloseK x_10.1.sg (xh x_10) x_10.2.2.2.2.2.1), rdG x_10.1 (gClose x_10.1.sg (xh x_10) x_10.2.2.2.2.2.1 { kind := x_10.2.2.2.2.2.2.1, text := x_10.2.2.2.2.2.2.2.1, kids := x_10.2.2.2.2.2.2.2.2.1, blank := x_10.2.2.2.2.2.2.2.2.2 }), .top])) (cA s_rV [rdG x_6.1 (xh x_6)] fun x_7 y => ∃ (x_8 : Int), y.1 = x_8 ∧ cA s_rClose [rdG x_7.1 (yG y.2), .str #[(59 : UInt8)].toList, .agg [.int .i64 (14 : Int), .str #[].toList, oints [x_8], .bool x.2.2.2.2.2]] fun x_9 y => rA (s_rStS n) x [.int .i64 (gCloseK x_9.1.sg (xh x_9) x_9.2.2.2.2.2.1), rdG x_9.1 (gClose x_9.1.sg (xh x_9) x_9.2.2.2.2.2.1 { kind := x_9.2.2.2.2.2.2.1, text := x_9.2.2.2.2.2.2.2.1, kids := x_9.2.2.2.2.2.2.2.2.1, blank := x_9.2.2.2.2.2.2.2.2.2 }), .top]))))))) (fun x => by kernel_rfl) fun (x : ST × Int × Int × Bool × List Nd × Bool) (hx : (okD x.1 (xh x) ∧ (xh x).bad = false) ∧ 21 - (xh x).deep ≤ (n + 1 : Nat)) => (by
  dsimp only [cA, mbs, ndA_e, oints, onds, rA, rdG, s_rAdd, s_rBlk, s_rBranch, s_rClose, s_rCond, s_rIsW, s_rLeave, s_rName, s_rNext, s_rNmN, s_rNote, s_rPass, s_rPeek, s_rStS, s_rTake, s_rV, s_rVar, sgA_e, sgs, hndL, hnd1, mvL, lnL, mvE, lnE]
  obtain ⟨s, p, d, b, ns, e⟩ := x; dsimp only [xg, xh] at hx ⊢
  obtain ⟨⟨hx, hb⟩, hd⟩ := hx
  have hx : okD s ⟨p, d, b, ns⟩ := hx; have hp := pass_g (x := ⟨p, d, b, ns⟩) hb; have hd2 := hx.2; dsimp only at hd2
  (repeat' first | (with_reducible first | rfl | exact True.intro | apply inR_i64 | apply And.intro | ((first | apply bcase_dec | apply bcase_bne | apply bcase_beq | apply bcase_not) <;> intro _)) | (apply bcase_intro <;> intro _) | apply sl_eq | refine ex_flip () ?_ ?_ | ((first | apply ex_flip10 | apply ex_flip9 | apply ex_flip8 | apply ex_flip7 | apply ex_flip6 | apply ex_flip5 | apply ex_flip4 | apply ex_flip3 | apply ex_flip2) <;> try dsimp only) | apply ex_flip | (refine Prod.forall.2 ?_; intro _; try dsimp only) | (intro _; try dsimp only))
  all_goals (try dsimp only [xg, xh, yG, yS, iG] at *)
  all_goals (try simp only [gs_eta, hp] at *)
  all_goals first
    | rfl
    | exact hx.1
    | exact hd2
    | assumption
    | exact st_wd hx (by assumption)
    | exact pss_okD hx (by assumption)
    | exact (pss_okD hx (by assumption)).1
    | exact st_note hx.1.1 hx.1.2 (by assumption)
    | exact st_var hx.1.2 (by assumption) (by assumption) (by assumption)
    | exact st_ret hx.1.2 (by assumption) (by assumption) (by assumption) (by assumption)
    | exact st_if hx.1.2 (by assumption) (by assumption) (by assumption) (by assumption) (by assumption)
    | exact wh_y hx (by assumption) (by assumption) (by assumption) (by assumption) (by assumption) (by assumption) (by assumption)
    | exact se_y hx.1 (by assumption) (by assumption) (by assumption) (by assumption) (by assumption) (by assumption) (by assumption) (by assumption) (by assumption)
    | exact se_n hx.1 (by assumption) (by assumption) (by assumption) (by assumption) (by assumption) (.inl (by assumption)) (by assumption)
    | exact se_n hx.1 (by assumption) (by assumption) (by assumption) (by assumption) (by assumption) (.inr (.inl (by assumption))) (by assumption)
    | exact se_n hx.1 (by assumption) (by assumption) (by assumption) (by assumption) (by assumption) (.inr (.inr (by assumption))) (by assumption)
    | exact nm_ok hx.1
    | exact (tk_ok (nm_ok hx.1)).1
    | exact st_td hx
    | exact fn_4 hx.1 (by assumption)
    | exact nodB1 (nameT_len hx.1.1) (by simp)
    | exact nodB1 (by simp) (by simp)
    | exact (show room 2 8 by simp [room])
    | omega
    | skip
  all_goals (try (have hc := (show resP s.sg _ (condR s.sg) _ by assumption); have k1 := res_okD (pss_okD hx (by assumption)) hc; have k2 := res_d (n := n) (x := gAdv ⟨p, d, b, ns⟩) (by simp only [gAdv]; omega) hc))
  all_goals first
    | exact k1
    | exact k2
    | exact (blk_okD k1 (by assumption)).1
    | skip)
end Go.My
end
