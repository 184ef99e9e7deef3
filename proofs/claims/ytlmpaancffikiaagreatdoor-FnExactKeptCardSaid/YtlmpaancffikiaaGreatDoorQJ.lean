/- A part of the proof: the engine and the contracts, joined. -/
import Derived.Test.YtlmpaancffikiaaGreatDoorQI
section
set_option linter.unusedVariables false
set_option linter.unusedSimpArgs false
namespace Go.My
open Go.Eng Go.Proofs
variable {G : GInv}
def vQ (r n : Nat) (s : ST) (g : Gs) : Prop := vP r n s g ∧ sgM s.sg
def wQ (r n : Nat) (s : ST) (g : Gs) : Prop := wP r n s g ∧ sgM s.sg
def s_qVal (n : Nat) : Sig := { X := ST × Int × Int × Bool × List Nd, args := fun x => [srd x.1 (xg x)], pre := fun x => vQ 11 n x.1 (xg x), Y := Int × Int × Int × Bool × List Nd, post := fun x y => nodP x.1.sg (xg x) (pE x.1.sg n .value) (yS y), res := fun x y => .int .i64 y.1, outs := fun x y => [srd x.1 (yG y.2)], keep := true }
def s_qPick (n : Nat) : Sig := { X := ST × Int × Int × Bool × List Nd, args := fun x => [srd x.1 (xg x)], pre := fun x => vQ 10 n x.1 (xg x), Y := Int × Int × Int × Bool × List Nd, post := fun x y => nodP x.1.sg (xg x) (pE x.1.sg n .pick) (yS y), res := fun x y => .int .i64 y.1, outs := fun x y => [srd x.1 (yG y.2)], keep := true }
def s_qCh (n : Nat) : Sig := { X := ST × Int × Int × Bool × List Nd × Int, args := fun x => [srd x.1 (xh x), .int .i64 x.2.2.2.2.2], pre := fun x => wQ (9 - x.2.2.2.2.2.toNat) n x.1 (xh x) ∧ 0 ≤ x.2.2.2.2.2 ∧ x.2.2.2.2.2 ≤ 6, Y := Int × Int × Int × Bool × List Nd, post := fun x y => nodP x.1.sg (xh x) (pE x.1.sg n (.chain x.2.2.2.2.2.toNat)) (yS y), res := fun x y => .int .i64 y.1, outs := fun x y => [srd x.1 (yG y.2), .top], keep := true }
def s_qEnd (n : Nat) : Sig := { X := ST × Int × Int × Bool × List Nd, args := fun x => [srd x.1 (xg x)], pre := fun x => wQ 2 n x.1 (xg x), Y := Int × Int × Int × Bool × List Nd, post := fun x y => nodP x.1.sg (xg x) (pE x.1.sg n .fin) (yS y), res := fun x y => .int .i64 y.1, outs := fun x y => [srd x.1 (yG y.2)], keep := true }
def s_qBase (n : Nat) : Sig := { X := ST × Int × Int × Bool × List Nd, args := fun x => [srd x.1 (xg x)], pre := fun x => wQ 1 n x.1 (xg x), Y := Int × Int × Int × Bool × List Nd, post := fun x y => nodP x.1.sg (xg x) (pE x.1.sg n .base) (yS y), res := fun x y => .int .i64 y.1, outs := fun x y => [srd x.1 (yG y.2)], keep := true }
structure qAll (G : GInv) (n : Nat) : Prop where
  val : Contract G Go.Proofs.Tryz.prog 107 (s_qVal n)
  pick : Contract G Go.Proofs.Tryz.prog 142 (s_qPick n)
  chain : Contract G Go.Proofs.Tryz.prog 171 (s_qCh n)
  fin : Contract G Go.Proofs.Tryz.prog 185 (s_qEnd n)
  base : Contract G Go.Proofs.Tryz.prog 191 (s_qBase n)
def saI (sg : List Sg) (p : Int) (i : Int) (N : Nat) : Prop := (p + 1 ≤ i ∧ i ≤ sg.length + 1 ∧ (sg.length : Int) - i < N) ∧ arrS sg (sg.length + 1) (p + 1) = arrS sg N i
def arG (sg : List Sg) (x : Gs) : Bool := isG sg x 4 [40] && arrowS sg ⟨x.pos, x.deep, x.nodes⟩
theorem sa_n {sg : List Sg} {p i : Int} {N : Nat} (h : saI sg p i N) : p + 1 ≤ i ∧ i ≤ sg.length + 1 := ⟨h.1.1, h.1.2.1⟩
theorem sa_0 {sg : List Sg} {p : Int} (h0 : 0 ≤ p) (h : p ≤ sg.length) : saI sg p (p + 1) (sg.length + 1) := ⟨by omega, rfl⟩
theorem sa_g {sg : List Sg} {p i : Int} {N : Nat} (h0 : 0 ≤ p) (h : saI sg p i N) (h1 : i + 1 < sg.length) (hk : (sgO sg i).kind = 1) (ht : ((sgO sg (i + 1)).text == [44]) = true) : saI sg p (i + 1 + 1) (N - 1) ∧ N - 1 < N := by
  obtain ⟨⟨a1, a2, a3⟩, h4⟩ := h
  match N with
  | 0 => omega
  | N + 1 =>
    refine ⟨⟨⟨by omega, by omega, by simp; omega⟩, ?_⟩, by omega⟩
    rw [h4, arrS, if_pos ⟨h1, hk⟩, if_pos (by simpa using ht)]
    simp only [Nat.add_sub_cancel]; congr 1; omega
theorem sa_s {sg : List Sg} {p i : Int} {N : Nat} (h : saI sg p i N) (h1 : i + 1 < sg.length) (hk : (sgO sg i).kind = 1) (ht : ((sgO sg (i + 1)).text == [44]) = false) : arrS sg (sg.length + 1) (p + 1) = i + 1 := by
  obtain ⟨⟨a1, a2, a3⟩, h4⟩ := h
  match N with
  | 0 => omega
  | N + 1 => rw [h4, arrS, if_pos ⟨h1, hk⟩, if_neg (by simpa using ht)]
theorem sa_e1 {sg : List Sg} {p i : Int} {N : Nat} (h : saI sg p i N) (h1 : ¬ i + 1 < sg.length) : arrS sg (sg.length + 1) (p + 1) = i := by
  rw [h.2]
  match N with
  | 0 => rfl
  | N + 1 => rw [arrS, if_neg (fun hh => h1 hh.1)]
theorem sa_e2 {sg : List Sg} {p i : Int} {N : Nat} (h : saI sg p i N) (hk : (sgO sg i).kind ≠ 1) : arrS sg (sg.length + 1) (p + 1) = i := by
  rw [h.2]
  match N with
  | 0 => rfl
  | N + 1 => rw [arrS, if_neg (fun hh => hk hh.2)]
theorem ar_no {sg : List Sg} {x : Gs} (h : isG sg x 4 [40] = false) : false = arG sg x := by simp [arG, h]
theorem ar_1 {sg : List Sg} {x : Gs} {i : Int} {b : Bool} (h : isG sg x 4 [40] = true) (hi : arrS sg (sg.length + 1) (x.pos + 1) = i) (hb : b = arrowT sg i) : b = arG sg x := by
  rw [arG, h, Bool.true_and, arrowS]; simp only [hi]; exact hb
theorem kd_e {sg : List Sg} {i k : Int} {e : Sg} (he : sg[i.toNat]? = some e) (hk : e.kind = k) : (sgO sg i).kind = k := by rw [sgO_at he]; exact hk
theorem tx_e {sg : List Sg} {i : Int} {e : Sg} {m : List UInt8} {b : Bool} (he : sg[i.toNat]? = some e) (hk : (e.text == m) = b) : ((sgO sg i).text == m) = b := by rw [sgO_at he]; exact hk
def lqJ (sg : List Sg) (one : Ps → PR) (m : List UInt8) (x y : Gs) (ks : List Int) (N : Nat) : Prop := listI sg one m x y ks N ∧ (y.bad = false → x.bad = false)
theorem lq_0 {sg : List Sg} {one : Ps → PR} {m : List UInt8} {x : Gs} (h : gsOk sg x) : lqJ sg one m x x [] (sg.length + 1) := ⟨list_0 h, fun h => h⟩
theorem lq_ok {s : ST} {one : Ps → PR} {m : List UInt8} {x y : Gs} {ks : List Int} {N : Nat} (hs : sgB s.sg) (h : lqJ s.sg one m x y ks N) : rOk s y := list_ok hs h
theorem lq_ks {s : ST} {one : Ps → PR} {m : List UInt8} {x y : Gs} {ks : List Int} {N : Nat} (hs : sgB s.sg) (h : lqJ s.sg one m x y ks N) : ks.length ≤ 3000 := list_bd hs h
theorem lq_vQ {s : ST} {one : Ps → PR} {m : List UInt8} {x y : Gs} {ks : List Int} {N n : Nat} (hx : wQ 11 n s x) (h : lqJ s.sg one m x y ks N) (hb : y.bad = false) (hq : isG s.sg y 4 m = false) : vQ 11 n s (gSkip s.sg y m) := by
  rw [skip_n hq]; exact ⟨list_vP hx.1.1.1.1 h hb hx.1.1.2 hx.1.2, hx.2⟩
theorem lq_g {sg : List Sg} {one : Ps → PR} {m : List UInt8} {x y : Gs} {ks : List Int} {N : Nat} {z : Int × Gs} (h : lqJ sg one m x y ks N) (hq : isG sg y 4 m = false) (hz : nodP sg (gSkip sg y m) one z) (hc : isG sg z.2 4 [44] = true) :
    lqJ sg one m x (gSkip sg z.2 [44]) (ks ++ [z.1]) (N - 1) ∧ N - 1 < N := by
  rw [skip_n hq] at hz; exact list_go2 h hz hq hc
theorem lq_o {s : ST} {one : Ps → PR} {m : List UInt8} {ks0 : List Int} {x y : Gs} {ks : List Int} {N : Nat} {z : Int × Gs} (hs : sgB s.sg) (h : lqJ s.sg one m x y ks N) (hq : isG s.sg y 4 m = false) (hz : nodP s.sg (gSkip s.sg y m) one z) (hc : isG s.sg z.2 4 [44] = false) :
    vlQ s.sg one m ks0 x (ks0 ++ ks ++ [z.1], gTake s.sg (gSkip s.sg z.2 [44]) m) := by
  rw [skip_n hq] at hz
  have a := list_out2 h hz hq hc
  refine ⟨_, ⟨a, ?_⟩, ?_⟩
  · have := lq_ks hs h; simp; omega
  · simp only [List.append_assoc]
theorem lq_b {s : ST} {one : Ps → PR} {m : List UInt8} {ks0 : List Int} {x y : Gs} {ks : List Int} {N : Nat} (hs : sgB s.sg) (h : lqJ s.sg one m x y ks N) (hb : y.bad = true) : vlQ s.sg one m ks0 x (ks0 ++ ks, y) := by
  refine ⟨_, ⟨list_bad h.1 hb, ?_⟩, by simp only [take_b hb]⟩
  have := lq_ks hs h; simp only; omega
theorem lq_e {s : ST} {one : Ps → PR} {m : List UInt8} {ks0 : List Int} {x y : Gs} {ks : List Int} {N : Nat} (hs : sgB s.sg) (h : lqJ s.sg one m x y ks N) (hq : isG s.sg y 4 m = true) : vlQ s.sg one m ks0 x (ks0 ++ ks, gSkip s.sg y m) := by
  refine ⟨_, ⟨list_end h.1 hq, ?_⟩, by simp only [skip_yG hq, take_y hq]⟩
  have := lq_ks hs h; simp only; omega
theorem sk_ok {s : ST} {y : Gs} {m : List UInt8} (h : rOk s y) : rOk s (gSkip s.sg y m) := by
  cases hq : isG s.sg y 4 m with
  | true => rw [skip_yG hq]; exact ⟨h.1, adv_ok h.2 (isG_lt hq (by omega)).2⟩
  | false => rw [skip_n hq]; exact h
theorem tx_ok {s : ST} {y : Gs} {k : Int} (h : rOk s y) (hk : k ≠ 0) : rOk s (gText s.sg y k) := by
  unfold gText; split
  · rename_i hq; exact ⟨h.1, adv_ok h.2 (kdG_lt hk hq).2⟩
  · exact h
theorem nm_alt {s : ST} {y : Gs} {m : List UInt8} (h : rOk s y) : nodP s.sg (gSkip s.sg y m) (nameR s.sg) (gAddK (gText s.sg (gSkip s.sg y m) 1), gAdd (gText s.sg (gSkip s.sg y m) 1) ⟨1, gTextT s.sg (gSkip s.sg y m) 1, [], false⟩) := name_alt h.1 (sk_ok h).2
theorem nm_ok2 {s : ST} {y : Gs} {m : List UInt8} (h : rOk s y) : rOk s (gAdd (gText s.sg (gSkip s.sg y m) 1) ⟨1, gTextT s.sg (gSkip s.sg y m) 1, [], false⟩) := ⟨h.1, nod_ok (nm_alt (m := m) h)⟩
attribute [local irreducible] pE listR callR fnR nodP resP gsOk gTake gClose gAdd gPass gLeaf gSkip gNameN gNameK gAddK gCloseK pkG isG nmG kdG gText gTextT nameR vlQ lqJ saI
def s_qArrow  : Sig := { X := ST × Int × Int × Bool × List Nd, args := fun x => [srd x.1 (xg x)], pre := fun x => rOk x.1 (xg x), Y := Unit, post := fun x y => True, res := fun x y => .bool (arG x.1.sg (xg x)), outs := fun x y => [srd x.1 (xg x)], keep := true }
def i_qArrow  (x : ST × Int × Int × Bool × List Nd) : LS := { ι := Int × Nat, inv := fun i => saI x.1.sg (xg x).pos i.1 i.2, regs := fun i => [(0, srd x.1 (xg x)), (3, .int .i64 i.1)], als := [], meas := fun i => i.2 }
theorem qArrow_ok  : Contract G Tryz.prog 195 s_qArrow :=
  vcFun_okP [(106, 0, s_qIs)] [] false (fun x => [(5, i_qArrow  x)]) Tryz.func195 rfl (by decide) ⟨qIs_ok, trivial⟩ (fun (x : ST × Int × Int × Bool × List Nd) => True ∧ cA s_qIs [srd x.1 (xg x), .int .i64 (4 : Int), .str #[(40 : UInt8)].toList] fun x_1 y => bcase (!isG x_1.1.sg (xh x_1) x_1.2.2.2.2.2.1 x_1.2.2.2.2.2.2) (rA s_qArrow x [.bool false, srd x_1.1 (xh x_1)]) (inR IntKind.i64 ((xg x).pos + (1 : Int)) ∧ eA (i_qArrow x) [srd x_1.1 (xh x_1), .int .i64 ((xg x).pos + (1 : Int))] ∧ ∀ (i : Int × Nat), saI x.1.sg (xg x).pos i.1 i.2 → inR IntKind.i64 (i.1 + (1 : Int)) ∧ bcase (decide (i.1 + (1 : Int) < (↑(List.length x.1.sg) : Int))) (((0 : Int) ≤ i.1 ∧ i.1 < (↑(List.length x.1.sg) : Int)) ∧ ∀ (e : Sg), x.1.sg[Int.toNat i.1]? = some e → bcase (e.kind == (1 : Int)) (inR IntKind.i64 (i.1 + (1 : Int)) ∧ ((0 : Int) ≤ i.1 + (1 : Int) ∧ i.1 + (1 : Int) < (↑(List.length x.1.sg) : Int)) ∧ ∀ (e : Sg), x.1.sg[Int.toNat (i.1 + (1 : Int))]? = some e → bcase (!e.text == #[(44 : UInt8)].toList) (inR IntKind.i64 (i.1 + (1 : Int) + (1 : Int)) ∧ bcase (decide (i.1 + (1 : Int) + (1 : Int) < (↑(List.length x.1.sg) : Int))) (((0 : Int) ≤ i.1 + (1 : Int) ∧ i.1 + (1 : Int) < (↑(List.length x.1.sg) : Int)) ∧ ∀ (e : Sg), x.1.sg[Int.toNat (i.1 + (1 : Int))]? = some e → bcase (e.text == #[(41 : UInt8)].toList) (((0 : Int) ≤ i.1 + (1 : Int) ∧ i.1 + (1 : Int) < (↑(List.length x.1.sg) : Int)) ∧ ∀ (e : Sg), x.1.sg[Int.toNat (i.1 + (1 : Int))]? = some e → bcase (e.kind == (4 : Int)) (inR IntKind.i64 (i.1 + (1 : Int) + (1 : Int)) ∧ ((0 : Int) ≤ i.1 + (1 : Int) + (1 : Int) ∧ i.1 + (1 : Int) + (1 : Int) < (↑(List.length x.1.sg) : Int)) ∧ ∀ (e : Sg), x.1.sg[Int.toNat (i.1 + (1 : Int) + (1 : Int))]? = some e → bcase (e.text == #[(61 : UInt8), (62 : UInt8)].toList) (inR IntKind.i64 (i.1 + (1 : Int) + (1 : Int)) ∧ ((0 : Int) ≤ i.1 + (1 : Int) + (1 : Int) ∧ i.1 + (1 : Int) + (1 : Int) < (↑(List.length x.1.sg) : Int)) ∧ ∀ (e : Sg), x.1.sg[Int.toNat (i.1 + (1 : Int) + (1 : Int))]? = some e → rA s_qArrow x [.bool (e.kind == (4 : Int)), srd x.1 (xg x)]) (rA s_qArrow x [.bool false, srd x.1 (xg x)])) (rA s_qArrow x [.bool false, srd x.1 (xg x)])) (rA s_qArrow x [.bool false, srd x.1 (xg x)])) (rA s_qArrow x [.bool false, srd x.1 (xg x)])) (inR IntKind.i64 (i.1 + (1 : Int) + (1 : Int)) ∧ eN (i_qArrow x) i [srd x.1 (xg x), .int .i64 (i.1 + (1 : Int) + (1 : Int))])) (inR IntKind.i64 (i.1 + (1 : Int)) ∧ bcase (decide (i.1 + (1 : Int) < (↑(List.length x.1.sg) : Int))) (((0 : Int) ≤ i.1 ∧ i.1 < (↑(List.length x.1.sg) : Int)) ∧ ∀ (e : Sg), x.1.sg[Int.toNat i.1]? = some e → bcase (e.text == #[(41 : UInt8)].toList) (((0 : Int) ≤ i.1 ∧ i.1 < (↑(List.length x.1.sg) : Int)) ∧ ∀ (e : Sg), x.1.sg[Int.toNat i.1]? = some e → bcase (e.kind == (4 : Int)) (inR IntKind.i64 (i.1 + (1 : Int)) ∧ ((0 : Int) ≤ i.1 + (1 : Int) ∧ i.1 + (1 : Int) < (↑(List.length x.1.sg) : Int)) ∧ ∀ (e : Sg), x.1.sg[Int.toNat (i.1 + (1 : Int))]? = some e → bcase (e.text == #[(61 : UInt8), (62 : UInt8)].toList) (inR IntKind.i64 (i.1 + (1 : Int)) ∧ ((0 : Int) ≤ i.1 + (1 : Int) ∧ i.1 + (1 : Int) < (↑(List.length x.1.sg) : Int)) ∧ ∀ (e : Sg), x.1.sg[Int.toNat (i.1 + (1 : Int))]? = some e → rA s_qArrow x [.bool (e.kind == (4 : Int)), srd x.1 (xg x)]) (rA s_qArrow x [.bool false, srd x.1 (xg x)])) (rA s_qArrow x [.bool false, srd x.1 (xg x)])) (rA s_qArrow x [.bool false, srd x.1 (xg x)])) (rA s_qArrow x [.bool false, srd x.1 (xg x)]))) (inR IntKind.i64 (i.1 + (1 : Int)) ∧ bcase (decide (i.1 + (1 : Int) < (↑(List.length x.1.sg) : Int))) (((0 : Int) ≤ i.1 ∧ i.1 < (↑(List.length x.1.sg) : Int)) ∧ ∀ (e : Sg), x.1.sg[Int.toNat i.1]? = some e → bcase (e.text == #[(41 : UInt8)].toList) (((0 : Int) ≤ i.1 ∧ i.1 < (↑(List.length x.1.sg) : Int)) ∧ ∀ (e : Sg), x.1.sg[Int.toNat i.1]? = some e → bcase (e.kind == (4 : Int)) (inR IntKind.i64 (i.1 + (1 : Int)) ∧ ((0 : Int) ≤ i.1 + (1 : Int) ∧ i.1 + (1 : Int) < (↑(List.length x.1.sg) : Int)) ∧ ∀ (e : Sg), x.1.sg[Int.toNat (i.1 + (1 : Int))]? = some e → bcase (e.text == #[(61 : UInt8), (62 : UInt8)].toList) (inR IntKind.i64 (i.1 + (1 : Int)) ∧ ((0 : Int) ≤ i.1 + (1 : Int) ∧ i.1 + (1 : Int) < (↑(List.length x.1.sg) : Int)) ∧ ∀ (e : Sg), x.1.sg[Int.toNat (i.1 + (1 : Int))]? = some e → rA s_qArrow x [.bool (e.kind == (4 : Int)), srd x.1 (xg x)]) (rA s_qArrow x [.bool false, srd x.1 (xg x)])) (rA s_qArrow x [.bool false, srd x.1 (xg x)])) (rA s_qArrow x [.bool false, srd x.1 (xg x)])) (rA s_qArrow x [.bool false, srd x.1 (xg x)])))) (fun x => by kernel_rfl) fun (x : ST × Int × Int × Bool × List Nd) (hx : rOk x.1 (xg x)) => (by
  dsimp only [cA, eA, eN, i_qArrow, ndA_e, onds, rA, s_qArrow, s_qIs, sgA_e, sgs, srd, hndL, hnd1, mvL, lnL, mvE, lnE, sndL]
  obtain ⟨s, p, d, b, ns⟩ := x; dsimp only [xg, xh] at hx ⊢
  have hx : rOk s ⟨p, d, b, ns⟩ := hx; have hs := rOk_n hx; dsimp only at hs
  (repeat' first | (with_reducible first | rfl | exact True.intro | apply inR_i64 | apply And.intro | ((first | apply bcase_dec | apply bcase_bne | apply bcase_beq | apply bcase_not) <;> intro _)) | (apply bcase_intro <;> intro _) | apply sl_eq | refine ex_flip () ?_ ?_ | ((first | apply ex_flip10 | apply ex_flip9 | apply ex_flip8 | apply ex_flip7 | apply ex_flip6 | apply ex_flip5 | apply ex_flip4 | apply ex_flip3 | apply ex_flip2) <;> try dsimp only) | apply ex_flip | (refine Prod.forall.2 ?_; intro _; try dsimp only) | (intro _; try dsimp only))
  all_goals (try dsimp only [xg, xh, yG, yS, iG] at *)
  all_goals first
    | (show Nat; skip)
    | rfl
    | exact hx
    | exact sa_0 hs.1.1.1 hs.1.1.2
    | exact ar_no (x := ⟨p, d, b, ns⟩) (by assumption)
    | exact (sa_g hs.1.1.1 (by assumption) (by assumption) (kd_e (by assumption) (by assumption)) (tx_e (by assumption) (by assumption))).1
    | (have hq := sa_n (show saI _ _ _ _ by assumption); (try simp only [i64max]); omega)
    | omega
    | skip
  all_goals first
    | exact (sa_g hs.1.1.1 (by assumption) (by assumption) (kd_e (by assumption) (by assumption)) (tx_e (by assumption) (by assumption))).2
    | skip
  all_goals (repeat (rename s.sg[_]? = some _ => hq; have hq2 := sgO_at hq; clear hq; subst hq2))
  all_goals first
    | (refine ar_1 (x := ⟨p, d, b, ns⟩) (by assumption) (sa_s (by assumption) (by assumption) (by assumption) (by assumption)) ?_; rw [Bool.eq_iff_iff]; simp [arrowT, isAt, *]; done)
    | (refine ar_1 (x := ⟨p, d, b, ns⟩) (by assumption) (sa_e1 (by assumption) (by assumption)) ?_; rw [Bool.eq_iff_iff]; simp [arrowT, isAt, *]; done)
    | (refine ar_1 (x := ⟨p, d, b, ns⟩) (by assumption) (sa_e2 (by assumption) (by assumption)) ?_; rw [Bool.eq_iff_iff]; simp [arrowT, isAt, *]; done)
    | skip)
def s_qVals (n : Nat) : Sig := { X := ST × Int × Int × Bool × List Nd × List UInt8 × List Int, args := fun x => [srd x.1 (xh x), .str x.2.2.2.2.2.1, oints x.2.2.2.2.2.2], pre := fun x => wQ 11 n x.1 (xh x) ∧ x.2.2.2.2.2.2.length ≤ 1, Y := List Int × Int × Int × Bool × List Nd, post := fun x y => vlQ x.1.sg (pE x.1.sg n .value) x.2.2.2.2.2.1 x.2.2.2.2.2.2 (xh x) (yS y), res := fun x y => oints y.1, outs := fun x y => [srd x.1 (yG y.2), .top, .top], keep := true }
def i_qVals (n : Nat) (x : ST × Int × Int × Bool × List Nd × List UInt8 × List Int) : LS := { ι := Int × Int × Bool × List Nd × List Int × Nat, inv := fun i => lqJ x.1.sg (pE x.1.sg n .value) x.2.2.2.2.2.1 (xh x) (iG i) i.2.2.2.2.1 i.2.2.2.2.2, regs := fun i => [(0, srd x.1 (iG i)), (1, .str x.2.2.2.2.2.1), (2, oints (x.2.2.2.2.2.2 ++ i.2.2.2.2.1))], als := [], meas := fun i => i.2.2.2.2.2 }
theorem qVals_ok (n : Nat) (h : qAll G n) : Contract G Tryz.prog 143 (s_qVals n) :=
  vcFun_okP [(73, 0, s_qMark), (107, 0, (s_qVal n)), (72, 0, s_qWants)] [(45, ⟨Int,intA⟩)] false (fun x => [(1, i_qVals n x)]) Tryz.func143 rfl (by decide) ⟨qMark_ok, h.val, qWants_ok, trivial⟩ (fun (x : ST × Int × Int × Bool × List Nd × List UInt8 × List Int) => True ∧ eA (i_qVals n x) [srd x.1 (xh x), .str x.2.2.2.2.2.1, oints x.2.2.2.2.2.2] ∧ ∀ (i : Int × Int × Bool × List Nd × List Int × Nat), lqJ x.1.sg (pE x.1.sg n NT.value) x.2.2.2.2.2.1 (xh x) (iG i) i.2.2.2.2.1 i.2.2.2.2.2 → bcase (!(iG i).bad) (cA s_qMark [srd x.1 (iG i), .str x.2.2.2.2.2.1] fun x_1 y => bcase (!isG x_1.1.sg (xh x_1) (4 : Int) x_1.2.2.2.2.2) (cA (s_qVal n) [srd x_1.1 (gSkip x_1.1.sg (xh x_1) x_1.2.2.2.2.2)] fun x_2 y => ∃ (x_3 : Int), y.1 = x_3 ∧ ∃ (zs : List Int), oints [x_3] = oints zs ∧ leafy intA ∧ room (List.length (x.2.2.2.2.2.2 ++ i.2.2.2.2.1) + List.length zs) (8 : Nat) ∧ cA s_qMark [srd x_2.1 (yG y.2), .str #[(44 : UInt8)].toList] fun x_4 y => bcase (!isG x_4.1.sg (xh x_4) (4 : Int) x_4.2.2.2.2.2) (cA s_qWants [srd x_4.1 (gSkip x_4.1.sg (xh x_4) x_4.2.2.2.2.2), .str x.2.2.2.2.2.1] fun x_5 y => rA (s_qVals n) x [oints (x.2.2.2.2.2.2 ++ i.2.2.2.2.1 ++ zs), srd x_5.1 (gTake x_5.1.sg (xh x_5) x_5.2.2.2.2.2), .top, .top]) (eN (i_qVals n x) i [srd x_4.1 (gSkip x_4.1.sg (xh x_4) x_4.2.2.2.2.2), .str x.2.2.2.2.2.1, oints (x.2.2.2.2.2.2 ++ i.2.2.2.2.1 ++ zs)])) (rA (s_qVals n) x [oints (x.2.2.2.2.2.2 ++ i.2.2.2.2.1), srd x_1.1 (gSkip x_1.1.sg (xh x_1) x_1.2.2.2.2.2), .top, .top])) (rA (s_qVals n) x [oints (x.2.2.2.2.2.2 ++ i.2.2.2.2.1), srd x.1 (iG i), .top, .top])) (fun x => by kernel_rfl) fun (x : ST × Int × Int × Bool × List Nd × List UInt8 × List Int) (hx : wQ 11 n x.1 (xh x) ∧ x.2.2.2.2.2.2.length ≤ 1) => (by
  dsimp only [cA, eA, eN, i_qVals, ndA_e, oints, onds, rA, s_qMark, s_qVal, s_qVals, s_qWants, sgA_e, sgs, srd, hndL, hnd1, mvL, lnL, mvE, lnE, sndL]
  obtain ⟨s, p, d, b, ns, m, ks0⟩ := x; dsimp only [xg, xh] at hx ⊢
  obtain ⟨hx, hk0⟩ := hx
  have hx : wQ 11 n s ⟨p, d, b, ns⟩ := hx
  have hs := hx.1.1.1.1; have h1 := hx.1.1.1
  (repeat' first | (with_reducible first | rfl | exact True.intro | apply inR_i64 | apply And.intro | ((first | apply bcase_dec | apply bcase_bne | apply bcase_beq | apply bcase_not) <;> intro _)) | (apply bcase_intro <;> intro _) | apply sl_eq | refine ex_flip () ?_ ?_ | ((first | apply ex_flip10 | apply ex_flip9 | apply ex_flip8 | apply ex_flip7 | apply ex_flip6 | apply ex_flip5 | apply ex_flip4 | apply ex_flip3 | apply ex_flip2) <;> try dsimp only) | apply ex_flip | (refine Prod.forall.2 ?_; intro _; try dsimp only) | (intro _; try dsimp only))
  all_goals (try dsimp only [xg, xh, yG, yS, iG] at *)
  all_goals (try simp only [gs_eta] at *)
  all_goals first
    | (show Nat; skip)
    | rfl
    | exact h1
    | exact lq_0 h1.2
    | exact lq_ok hs (by assumption)
    | exact lq_vQ hx (by assumption) (by assumption) (by assumption)
    | exact fn_4 h1 (by assumption)
    | exact sk_ok (fn_4 h1 (by assumption))
    | exact (lq_g (by assumption) (by assumption) (by assumption) (by assumption)).1
    | exact lq_o hs (by assumption) (by assumption) (by assumption) (by assumption)
    | exact lq_b hs (by assumption) (by assumption)
    | exact lq_e hs (by assumption) (by assumption)
    | (simp; done)
    | (have hq := lq_ks hs (show lqJ _ _ _ _ _ _ _ by assumption); (try simp only [room, List.length_append, List.length_cons, List.length_nil]); omega)
    | skip
  all_goals first
    | exact (lq_g (by assumption) (by assumption) (by assumption) (by assumption)).2
    | (simp; done)
    | skip)
def s_qNames  : Sig := { X := ST × Int × Int × Bool × List Nd, args := fun x => [srd x.1 (xg x)], pre := fun x => rOk x.1 (xg x), Y := List Int × Int × Int × Bool × List Nd, post := fun x y => vlQ x.1.sg (nameR x.1.sg) [41] [] (gTake x.1.sg (xg x) [40]) (yS y), res := fun x y => oints y.1, outs := fun x y => [srd x.1 (yG y.2)], keep := true }
def i_qNames  (x : ST × Int × Int × Bool × List Nd) : LS := { ι := Int × Int × Bool × List Nd × List Int × Nat, inv := fun i => lqJ x.1.sg (nameR x.1.sg) [41] (gTake x.1.sg (xg x) [40]) (iG i) i.2.2.2.2.1 i.2.2.2.2.2, regs := fun i => [(0, srd x.1 (iG i)), (3, oints i.2.2.2.2.1)], als := [], meas := fun i => i.2.2.2.2.2 }
theorem qNames_ok  : Contract G Tryz.prog 74 s_qNames :=
  vcFun_okP [(73, 0, s_qMark), (72, 0, s_qWants), (43, 0, s_qPut), (69, 0, s_qText)] [(45, ⟨Int,intA⟩)] false (fun x => [(3, i_qNames  x)]) Tryz.func74 rfl (by decide) ⟨qMark_ok, qWants_ok, qPut_ok, qText_ok, trivial⟩ (fun (x : ST × Int × Int × Bool × List Nd) => True ∧ cA s_qWants [srd x.1 (xg x), .str #[(40 : UInt8)].toList] fun x_1 y => eA (i_qNames x) [srd x_1.1 (gTake x_1.1.sg (xh x_1) x_1.2.2.2.2.2), oints []] ∧ ∀ (i : Int × Int × Bool × List Nd × List Int × Nat), lqJ x.1.sg (nameR x.1.sg) [(41 : UInt8)] (gTake x.1.sg (xg x) [(40 : UInt8)]) (iG i) i.2.2.2.2.1 i.2.2.2.2.2 → bcase (!(iG i).bad) (cA s_qMark [srd x.1 (iG i), .str #[(41 : UInt8)].toList] fun x_2 y => bcase (!isG x_2.1.sg (xh x_2) (4 : Int) x_2.2.2.2.2.2) (cA s_qText [srd x_2.1 (gSkip x_2.1.sg (xh x_2) x_2.2.2.2.2.2), .int .i64 (1 : Int)] fun x_3 y => cA s_qPut [srd x_3.1 (gText x_3.1.sg (xh x_3) x_3.2.2.2.2.2), .int .i64 (1 : Int), .str (gTextT x_3.1.sg (xh x_3) x_3.2.2.2.2.2), oints []] fun x_4 y => ∃ (x_5 : Int), gAddK (xh x_4) = x_5 ∧ ∃ (zs : List Int), oints [x_5] = oints zs ∧ leafy intA ∧ room (List.length i.2.2.2.2.1 + List.length zs) (8 : Nat) ∧ cA s_qMark [srd x_4.1 (gAdd (xh x_4) { kind := x_4.2.2.2.2.2.1, text := x_4.2.2.2.2.2.2.1, kids := x_4.2.2.2.2.2.2.2, blank := false }), .str #[(44 : UInt8)].toList] fun x_6 y => bcase (!isG x_6.1.sg (xh x_6) (4 : Int) x_6.2.2.2.2.2) (cA s_qWants [srd x_6.1 (gSkip x_6.1.sg (xh x_6) x_6.2.2.2.2.2), .str #[(41 : UInt8)].toList] fun x_7 y => rA s_qNames x [oints (i.2.2.2.2.1 ++ zs), srd x_7.1 (gTake x_7.1.sg (xh x_7) x_7.2.2.2.2.2)]) (eN (i_qNames x) i [srd x_6.1 (gSkip x_6.1.sg (xh x_6) x_6.2.2.2.2.2), oints (i.2.2.2.2.1 ++ zs)])) (rA s_qNames x [oints i.2.2.2.2.1, srd x_2.1 (gSkip x_2.1.sg (xh x_2) x_2.2.2.2.2.2)])) (rA s_qNames x [oints i.2.2.2.2.1, srd x.1 (iG i)])) (fun x => by kernel_rfl) fun (x : ST × Int × Int × Bool × List Nd) (hx : rOk x.1 (xg x)) => (by
  dsimp only [cA, eA, eN, i_qNames, ndA_e, oints, onds, rA, s_qMark, s_qNames, s_qPut, s_qText, s_qWants, sgA_e, sgs, srd, hndL, hnd1, mvL, lnL, mvE, lnE, sndL]
  obtain ⟨s, p, d, b, ns⟩ := x; dsimp only [xg, xh] at hx ⊢
  have h1 : rOk s ⟨p, d, b, ns⟩ := hx; have hs := h1.1
  have t := tk_ok (m := [40]) h1
  (repeat' first | (with_reducible first | rfl | exact True.intro | apply inR_i64 | apply And.intro | ((first | apply bcase_dec | apply bcase_bne | apply bcase_beq | apply bcase_not) <;> intro _)) | (apply bcase_intro <;> intro _) | apply sl_eq | refine ex_flip () ?_ ?_ | ((first | apply ex_flip10 | apply ex_flip9 | apply ex_flip8 | apply ex_flip7 | apply ex_flip6 | apply ex_flip5 | apply ex_flip4 | apply ex_flip3 | apply ex_flip2) <;> try dsimp only) | apply ex_flip | (refine Prod.forall.2 ?_; intro _; try dsimp only) | (intro _; try dsimp only))
  all_goals (try dsimp only [xg, xh, yG, yS, iG] at *)
  all_goals (try simp only [gs_eta] at *)
  all_goals first
    | (show Nat; skip)
    | rfl
    | exact h1
    | omega
    | exact lq_0 t.1.2
    | exact lq_ok hs (by assumption)
    | exact sk_ok (lq_ok hs (by assumption))
    | exact tx_ok (sk_ok (lq_ok hs (by assumption))) (by omega)
    | exact nm_ok2 (lq_ok hs (by assumption))
    | exact sk_ok (nm_ok2 (lq_ok hs (by assumption)))
    | exact (lq_g (by assumption) (by assumption) (nm_alt (lq_ok hs (by assumption))) (by assumption)).1
    | exact lq_o (ks0 := []) hs (by assumption) (by assumption) (nm_alt (lq_ok hs (by assumption))) (by assumption)
    | exact lq_b (ks0 := []) hs (by assumption) (by assumption)
    | exact lq_e (ks0 := []) hs (by assumption) (by assumption)
    | (have hq := lq_ks hs (show lqJ _ _ _ _ _ _ _ by assumption); (try simp only [room, List.length_append, List.length_cons, List.length_nil]); omega)
    | skip
  all_goals first
    | exact (lq_g (by assumption) (by assumption) (nm_alt (lq_ok hs (by assumption))) (by assumption)).2
    | skip)
end Go.My
end
section
set_option linter.unusedVariables false
set_option linter.unusedSimpArgs false
namespace Go.My
open Go.Eng Go.Proofs
variable {G : GInv}
theorem kd_no {sg : List Sg} {x : Gs} {k : Int} (h : kdG sg x k = false) (hk : k ≠ 1) : (pkG sg x 0).kind ≠ k := by
  rw [kdG_f hk] at h; simpa using h
theorem bs_kw {sg : List Sg} {x : Gs} {n : Nat} {k : Int} {y : Gs} (hs : sgB sg) (h : gsOk sg x) (h1 : kdG sg x 1 = false) (hk : (pkG sg x 0).kind = 1) (hy : y = gBad x) : nodP sg x (pE sg (n + 1) .base) (k, y) := by
  have a := ba_name (n := n) hs h hk
  rw [kdG_1] at h1
  rw [gNameK, gNameN, if_neg (by simp [h1]), if_neg (by simp [h1])] at a
  subst hy
  exact nod_alt a h rfl (Int.le_refl _) rfl (fun hb => by simp [gBad] at hb)
theorem bs_1 {sg : List Sg} {x : Gs} {n : Nat} (hs : sgB sg) (h : gsOk sg x) (h1 : kdG sg x 1 = true) : nodP sg x (pE sg (n + 1) .base) (gAddK (gText sg x 1), gAdd (gText sg x 1) ⟨1, gTextT sg x 1, [], false⟩) := by
  have hn := h1
  rw [kdG_1] at hn
  have a := ba_name (n := n) hs h (by simp [nmG] at hn; exact hn.1)
  rw [gNameK, gNameN, if_pos hn, if_pos hn] at a
  exact leaf_alt hs h (by omega) h1 a
theorem bs_23 {sg : List Sg} {x : Gs} {n : Nat} {k : Int} (hs : sgB sg) (h : gsOk sg x) (hk : k = 2 ∨ k = 3) (h1 : kdG sg x k = true) : nodP sg x (pE sg (n + 1) .base) (gAddK (gText sg x k), gAdd (gText sg x k) ⟨k, gTextT sg x k, [], false⟩) := by
  have hn := h1
  rw [kdG_f (by omega)] at hn
  exact leaf_alt hs h (by omega) h1 (ba_leaf hs h (by simpa using hn) hk)
theorem kd_nm {sg : List Sg} {x : Gs} {m : List UInt8} (hq : isG sg x 4 m = true) : (pkG sg x 0).kind ≠ 1 := by
  simp [isG] at hq; rw [hq.1]; omega
theorem bs_list {s : ST} {x : Gs} {n : Nat} {v : List Int × Gs} (h : rOk s x) (h1 : kdG s.sg x 1 = false) (h2 : kdG s.sg x 2 = false) (h3 : kdG s.sg x 3 = false) (hq : isG s.sg x 4 [91] = true) (hv : vlQ s.sg (pE s.sg n .value) [93] [] (gSkip s.sg x [91]) v) :
    nodP s.sg x (pE s.sg (n + 1) .base) (gAddK v.2, gAdd v.2 ⟨4, [], v.1, false⟩) := by
  rw [skip_yG hq] at hv
  obtain ⟨l, ⟨a, b⟩, rfl⟩ := hv
  exact nod_cl a.1 ⟨by simp, by simp; omega⟩ (ba_list h.2 (kd_nm hq) (kd_no h2 (by omega)) (kd_no h3 (by omega)) hq a b)
theorem bs_fnA {s : ST} {x : Gs} {n : Nat} {v : List Int × Gs} {z : Int × Gs} (hm : sgM s.sg) (h : rOk s x) (h1 : kdG s.sg x 1 = false) (h2 : kdG s.sg x 2 = false) (h3 : kdG s.sg x 3 = false) (hn : isG s.sg x 4 [91] = false) (ha : arG s.sg (gSkip s.sg x [91]) = true)
    (hv : vlQ s.sg (nameR s.sg) [41] [] (gTake s.sg (gSkip s.sg x [91]) [40]) v) (hz : nodP s.sg (gTake s.sg v.2 [61, 62]) (pE s.sg n .pick) z) : nodP s.sg x (pE s.sg (n + 1) .base) (gAddK z.2, gAdd z.2 ⟨9, [], v.1 ++ [z.1], false⟩) := by
  rw [skip_n hn] at ha hv
  simp only [arG, Bool.and_eq_true] at ha
  obtain ⟨l, ⟨a, b⟩, rfl⟩ := hv
  refine bs_fn hm h.2 (kd_nm ha.1) (kd_no h2 (by omega)) (kd_no h3 (by omega)) hn ha.1 (fun s0 hs => ?_) (fn_all (l := l) h.2 a b hz)
  obtain ⟨_, rfl⟩ := pur_some.1 hs; exact ha.2
theorem bs_pA {s : ST} {x : Gs} {n : Nat} {z : Int × Gs} (hm : sgM s.sg) (h : rOk s x) (h1 : kdG s.sg x 1 = false) (h2 : kdG s.sg x 2 = false) (h3 : kdG s.sg x 3 = false) (hn : isG s.sg x 4 [91] = false) (ha : arG s.sg (gSkip s.sg x [91]) = false) (hb : (gTake s.sg (gSkip s.sg x [91]) [40]).bad = false)
    (hz : nodP s.sg (gTake s.sg (gSkip s.sg x [91]) [40]) (pE s.sg n .value) z) : nodP s.sg x (pE s.sg (n + 1) .base) (gAddK (gTake s.sg z.2 [41]), gAdd (gTake s.sg z.2 [41]) ⟨11, [], [z.1], false⟩) := by
  rw [skip_n hn] at ha hb hz
  have hq : isG s.sg x 4 [40] = true := by
    cases hq : isG s.sg x 4 [40] with
    | true => rfl
    | false => rw [take_n hq] at hb; cases hb
  rw [take_y hq] at hz
  simp only [arG, hq, Bool.true_and] at ha
  refine bs_par hm h.2 (kd_nm hq) (kd_no h2 (by omega)) (kd_no h3 (by omega)) hn hq (fun s0 hs => ?_) hz
  obtain ⟨_, rfl⟩ := pur_some.1 hs; exact ha
theorem bs_no {s : ST} {x : Gs} {n : Nat} {k : Int} (h : rOk s x) (h1 : kdG s.sg x 1 = false) (h2 : kdG s.sg x 2 = false) (h3 : kdG s.sg x 3 = false) (hn : isG s.sg x 4 [91] = false) (hx : x.bad = false) (hb : (gTake s.sg (gSkip s.sg x [91]) [40]).bad = true) :
    nodP s.sg x (pE s.sg (n + 1) .base) (k, gTake s.sg (gSkip s.sg x [91]) [40]) := by
  rw [skip_n hn] at hb ⊢
  have hq : isG s.sg x 4 [40] = false := by
    cases hq : isG s.sg x 4 [40] with
    | false => rfl
    | true => rw [take_y hq] at hb; simp only [gAdv] at hb; rw [hx] at hb; cases hb
  rw [take_n hq]
  rcases Classical.em ((pkG s.sg x 0).kind = 1) with e | e
  · exact bs_kw h.1 h.2 h1 e rfl
  · exact ba_none h.2 e (kd_no h2 (by omega)) (kd_no h3 (by omega)) hn hq
theorem bs_sk {s : ST} {x : Gs} {n : Nat} (hx : wQ 1 (n + 1) s x) (hq : isG s.sg x 4 [91] = true) : wQ 11 n s (gSkip s.sg x [91]) := by
  rw [skip_yG hq]; exact ⟨(adv_wP hq (by omega) hx.1.1.1 hx.1.1.2 hx.1.2 (by omega)).1, hx.2⟩
theorem bs_pk {s : ST} {x : Gs} {n : Nat} {v : List Int × Gs} (hx : wQ 1 (n + 1) s x) (hn : isG s.sg x 4 [91] = false) (ha : arG s.sg (gSkip s.sg x [91]) = true) (hv : vlQ s.sg (nameR s.sg) [41] [] (gTake s.sg (gSkip s.sg x [91]) [40]) v) : vQ 10 n s (gTake s.sg v.2 [61, 62]) := by
  rw [skip_n hn] at ha hv
  simp only [arG, Bool.and_eq_true] at ha
  obtain ⟨l, a, rfl⟩ := hv
  exact ⟨fn_3 (x := x) (n := n) (l := l) hx.1.1.1 (hx.1.1.2 (isG_lt ha.1 (by omega)).1) ha.1 (by have := hx.1.2; omega) a, hx.2⟩
theorem bs_va {s : ST} {x : Gs} {n : Nat} (hx : wQ 1 (n + 1) s x) (hn : isG s.sg x 4 [91] = false) (hb : (gTake s.sg (gSkip s.sg x [91]) [40]).bad = false) : vQ 11 n s (gTake s.sg (gSkip s.sg x [91]) [40]) := by
  rw [skip_n hn] at hb ⊢
  have hq : isG s.sg x 4 [40] = true := by
    cases hq : isG s.sg x 4 [40] with
    | true => rfl
    | false => rw [take_n hq] at hb; cases hb
  rw [take_y hq]; exact ⟨(adv_wP hq (by omega) hx.1.1.1 hx.1.1.2 hx.1.2 (by omega)).2, hx.2⟩
theorem vq_rk {s : ST} {one : Ps → PR} {m : List UInt8} {ks0 : List Int} {x : Gs} {y : List Int × Gs} (hs : sgB s.sg) (h : vlQ s.sg one m ks0 x y) : rOk s y.2 := (vq_ok hs h).1
theorem vq_ln {s : ST} {one : Ps → PR} {m : List UInt8} {ks0 : List Int} {x : Gs} {y : List Int × Gs} (hs : sgB s.sg) (h : vlQ s.sg one m ks0 x y) : y.1.length ≤ ks0.length + 3001 := (vq_ok hs h).2.1
def eqJ (sg : List Sg) (n : Nat) (x y : Gs) (k : Int) (N : Nat) : Prop := enI sg n x y k N ∧ (y.bad = false → y.deep ≤ 20)
theorem eq_0 {s : ST} {x : Gs} {n : Nat} {z : Int × Gs} (hx : wQ 2 (n + 1) s x) (hz : nodP s.sg x (pE s.sg n .base) z) : eqJ s.sg n x z.2 z.1 (s.sg.length + 1) := en_j0 hx.1.1.1 hx.1.1.2 hz
theorem eq_ok {s : ST} {x y : Gs} {n : Nat} {k : Int} {N : Nat} (hx : wQ 2 (n + 1) s x) (h : eqJ s.sg n x y k N) : rOk s y := ⟨hx.1.1.1.1, h.1.1.1⟩
theorem eq_sk {s : ST} {x y : Gs} {n : Nat} {k : Int} {N : Nat} (hx : wQ 2 (n + 1) s x) (h : eqJ s.sg n x y k N) (hq : isG s.sg y 4 [40] = true) : wQ 11 n s (gSkip s.sg y [40]) := by
  have hb := (isG_lt hq (by omega)).1
  have := h.1.2.2 hb; have := hx.1.2
  have hl := isG_lt hq (by omega)
  rw [skip_yG hq]
  have e1 : (gAdv y).pos = y.pos + 1 := rfl
  have e2 : (gAdv y).deep = y.deep := rfl
  exact ⟨⟨⟨⟨hx.1.1.1.1, adv_ok h.1.1.1 hl.2⟩, fun _ => by rw [e2]; exact h.2 hb⟩, by omega⟩, hx.2⟩
theorem eq_c {s : ST} {x y : Gs} {n : Nat} {k : Int} {N : Nat} {v : List Int × Gs} (hx : wQ 2 (n + 1) s x) (h : eqJ s.sg n x y k N) (hq : isG s.sg y 4 [40] = true) (hv : vlQ s.sg (pE s.sg n .value) [41] [k] (gSkip s.sg y [40]) v) :
    eqJ s.sg n x (gAdd v.2 ⟨5, [], v.1, false⟩) (gAddK v.2) (N - 1) ∧ N - 1 < N := by
  rw [skip_yG hq, ← take_y hq] at hv
  have hw := vq_call h.1.1.1 hv
  exact en_c h hw hq
theorem eq_d {s : ST} {x y : Gs} {n : Nat} {k : Int} {N : Nat} (hx : wQ 2 (n + 1) s x) (h : eqJ s.sg n x y k N) (hp : isG s.sg y 4 [40] = false) (hq : isG s.sg (gSkip s.sg y [40]) 4 [46] = true) :
    eqJ s.sg n x (gAdd (gText s.sg (gSkip s.sg (gSkip s.sg y [40]) [46]) 1) ⟨6, gTextT s.sg (gSkip s.sg (gSkip s.sg y [40]) [46]) 1, [k], false⟩) (gAddK (gText s.sg (gSkip s.sg (gSkip s.sg y [40]) [46]) 1)) (N - 1) ∧ N - 1 < N := by
  rw [skip_n hp] at hq ⊢
  rw [skip_yG hq]
  obtain ⟨a, b⟩ := en_q hx.1.1.1.1 h.1 hp hq
  refine ⟨⟨a, fun _ => ?_⟩, b⟩
  rw [add_dp1]
  have := h.2 (isG_lt hq (by omega)).1
  have e : (gText s.sg (gAdv y) 1).deep = y.deep := by unfold gText; split <;> rfl
  omega
theorem eq_dk {s : ST} {x y : Gs} {n : Nat} {k : Int} {N : Nat} (hx : wQ 2 (n + 1) s x) (h : eqJ s.sg n x y k N) : rOk s (gSkip s.sg y [40]) ∧ rOk s (gSkip s.sg (gSkip s.sg y [40]) [46]) ∧ rOk s (gText s.sg (gSkip s.sg (gSkip s.sg y [40]) [46]) 1) :=
  have a := sk_ok (m := [40]) (eq_ok hx h)
  ⟨a, sk_ok a, tx_ok (sk_ok a) (by omega)⟩
theorem eq_b {s : ST} {x y : Gs} {n : Nat} {k : Int} {N : Nat} (h : eqJ s.sg n x y k N) (hb : y.bad = true) : nodP s.sg x (pE s.sg (n + 1) .fin) (k, y) := en_bad h.1 hb
theorem eq_e {s : ST} {x y : Gs} {n : Nat} {k : Int} {N : Nat} (h : eqJ s.sg n x y k N) (hb : y.bad = false) (hp : isG s.sg y 4 [40] = false) (hq : isG s.sg (gSkip s.sg y [40]) 4 [46] = false) : nodP s.sg x (pE s.sg (n + 1) .fin) (k, gSkip s.sg (gSkip s.sg y [40]) [46]) := by
  rw [skip_n hp] at hq ⊢
  rw [skip_n hq]; exact en_end h.1 hb hp hq
attribute [local irreducible] pE listR callR fnR nodP resP gsOk gTake gClose gAdd gPass gLeaf gSkip gNameN gNameK gAddK gCloseK pkG isG nmG kdG gText gTextT nameR vlQ lqJ saI arG eqJ
def s_qBaseS (n : Nat) : Sig := { X := ST × Int × Int × Bool × List Nd, args := fun x => [srd x.1 (xg x)], pre := fun x => wQ 1 (n + 1) x.1 (xg x), Y := Int × Int × Int × Bool × List Nd, post := fun x y => nodP x.1.sg (xg x) (pE x.1.sg (n + 1) .base) (yS y), res := fun x y => .int .i64 y.1, outs := fun x y => [srd x.1 (yG y.2)], keep := true }
theorem qBaseS_ok (n : Nat) (h : qAll G n) : Contract G Tryz.prog 191 (s_qBaseS n) :=
  vcFun_okP [(68, 0, s_qKind), (69, 0, s_qText), (43, 0, s_qPut), (73, 0, s_qMark), (143, 0, (s_qVals n)), (195, 0, s_qArrow), (74, 0, s_qNames), (72, 0, s_qWants), (142, 0, (s_qPick n)), (107, 0, (s_qVal n))] [(45, ⟨Int,intA⟩)] false (fun x => []) Tryz.func191 rfl (by decide) ⟨qKind_ok, qText_ok, qPut_ok, qMark_ok, (qVals_ok n h), qArrow_ok, qNames_ok, qWants_ok, h.pick, h.val, trivial⟩ (fun (x : ST × Int × Int × Bool × List Nd) => True ∧ bcase (xg x).bad (rA (s_qBaseS n) x [.int .i64 (0 : Int), srd x.1 (xg x)]) (cA s_qKind [srd x.1 (xg x), .int .i64 (1 : Int)] fun x_1 y => bcase (kdG x_1.1.sg (xh x_1) x_1.2.2.2.2.2) (cA s_qText [srd x_1.1 (xh x_1), .int .i64 (1 : Int)] fun x_2 y => cA s_qPut [srd x_2.1 (gText x_2.1.sg (xh x_2) x_2.2.2.2.2.2), .int .i64 (1 : Int), .str (gTextT x_2.1.sg (xh x_2) x_2.2.2.2.2.2), oints []] fun x_3 y => rA (s_qBaseS n) x [.int .i64 (gAddK (xh x_3)), srd x_3.1 (gAdd (xh x_3) { kind := x_3.2.2.2.2.2.1, text := x_3.2.2.2.2.2.2.1, kids := x_3.2.2.2.2.2.2.2, blank := false })]) (cA s_qKind [srd x_1.1 (xh x_1), .int .i64 (2 : Int)] fun x_2 y => bcase (kdG x_2.1.sg (xh x_2) x_2.2.2.2.2.2) (cA s_qText [srd x_2.1 (xh x_2), .int .i64 (2 : Int)] fun x_3 y => cA s_qPut [srd x_3.1 (gText x_3.1.sg (xh x_3) x_3.2.2.2.2.2), .int .i64 (2 : Int), .str (gTextT x_3.1.sg (xh x_3) x_3.2.2.2.2.2), oints []] fun x_4 y => rA (s_qBaseS n) x [.int .i64 (gAddK (xh x_4)), srd x_4.1 (gAdd (xh x_4) { kind := x_4.2.2.2.2.2.1, text := x_4.2.2.2.2.2.2.1, kids := x_4.2.2.2.2.2.2.2, blank := false })]) (cA s_qKind [srd x_2.1 (xh x_2), .int .i64 (3 : Int)] fun x_3 y => bcase (kdG x_3.1.sg (xh x_3) x_3.2.2.2.2.2) (cA s_qText [srd x_3.1 (xh x_3), .int .i64 (3 : Int)] fun x_4 y => cA s_qPut [srd x_4.1 (gText x_4.1.sg (xh x_4) x_4.2.2.2.2.2), .int .i64 (3 : Int), .str (gTextT x_4.1.sg (xh x_4) x_4.2.2.2.2.2), oints []] fun x_5 y => rA (s_qBaseS n) x [.int .i64 (gAddK (xh x_5)), srd x_5.1 (gAdd (xh x_5) { kind := x_5.2.2.2.2.2.1, text := x_5.2.2.2.2.2.2.1, kids := x_5.2.2.2.2.2.2.2, blank := false })]) (cA s_qMark [srd x_3.1 (xh x_3), .str #[(91 : UInt8)].toList] fun x_4 y => bcase (isG x_4.1.sg (xh x_4) (4 : Int) x_4.2.2.2.2.2) (cA (s_qVals n) [srd x_4.1 (gSkip x_4.1.sg (xh x_4) x_4.2.2.2.2.2), .str #[(93 : UInt8)].toList, oints []] fun x_5 y => cA s_qPut [srd x_5.1 (yG y.2), .int .i64 (4 : Int), .str #[].toList, oints y.1] fun x_6 y => rA (s_qBaseS n) x [.int .i64 (gAddK (xh x_6)), srd x_6.1 (gAdd (xh x_6) { kind := x_6.2.2.2.2.2.1, text := x_6.2.2.2.2.2.2.1, kids := x_6.2.2.2.2.2.2.2, blank := false })]) (cA s_qArrow [srd x_4.1 (gSkip x_4.1.sg (xh x_4) x_4.2.2.2.2.2)] fun x_5 y => bcase (arG x_5.1.sg (xg x_5)) (cA s_qNames [srd x_5.1 (xg x_5)] fun x_6 y => cA s_qWants [srd x_6.1 (yG y.2), .str #[(61 : UInt8), (62 : UInt8)].toList] fun x_7 y_1 => cA (s_qPick n) [srd x_7.1 (gTake x_7.1.sg (xh x_7) x_7.2.2.2.2.2)] fun x_8 y_2 => ∃ (x_9 : Int), y_2.1 = x_9 ∧ ∃ (zs : List Int), oints [x_9] = oints zs ∧ leafy intA ∧ room (List.length y.1 + List.length zs) (8 : Nat) ∧ cA s_qPut [srd x_8.1 (yG y_2.2), .int .i64 (9 : Int), .str #[].toList, oints (y.1 ++ zs)] fun x_10 y => rA (s_qBaseS n) x [.int .i64 (gAddK (xh x_10)), srd x_10.1 (gAdd (xh x_10) { kind := x_10.2.2.2.2.2.1, text := x_10.2.2.2.2.2.2.1, kids := x_10.2.2.2.2.2.2.2, blank := false })]) (cA s_qWants [srd x_5.1 (xg x_5), .str #[(40 : UInt8)].toList] fun x_6 y => bcase (gTake x_6.1.sg (xh x_6) x_6.2.2.2.2.2).bad (rA (s_qBaseS n) x [.int .i64 (0 : Int), srd x_6.1 (gTake x_6.1.sg (xh x_6) x_6.2.2.2.2.2)]) (cA (s_qVal n) [srd x_6.1 (gTake x_6.1.sg (xh x_6) x_6.2.2.2.2.2)] fun x_7 y => cA s_qWants [srd x_7.1 (yG y.2), .str #[(41 : UInt8)].toList] fun x_8 y_1 => ∃ (x_9 : Int), y.1 = x_9 ∧ cA s_qPut [srd x_8.1 (gTake x_8.1.sg (xh x_8) x_8.2.2.2.2.2), .int .i64 (11 : Int), .str #[].toList, oints [x_9]] fun x_10 y => rA (s_qBaseS n) x [.int .i64 (gAddK (xh x_10)), srd x_10.1 (gAdd (xh x_10) { kind := x_10.2.2.2.2.2.1, text := x_10.2.2.2.2.2.2.1, kids := x_10.2.2.2.2.2.2.2, blank := false })])))))))) (fun x => by kernel_rfl) fun (x : ST × Int × Int × Bool × List Nd) (hx : wQ 1 (n + 1) x.1 (xg x)) => (by
  dsimp only [cA, ndA_e, oints, onds, rA, s_qArrow, s_qBaseS, s_qKind, s_qMark, s_qNames, s_qPick, s_qPut, s_qText, s_qVal, s_qVals, s_qWants, sgA_e, sgs, srd, hndL, hnd1, mvL, lnL, mvE, lnE]
  obtain ⟨s, p, d, b, ns⟩ := x; dsimp only [xg, xh] at hx ⊢
  have hx : wQ 1 (n + 1) s ⟨p, d, b, ns⟩ := hx
  have h1 := hx.1.1.1; have hs := h1.1
  (repeat' first | (with_reducible first | rfl | exact True.intro | apply inR_i64 | apply And.intro | ((first | apply bcase_dec | apply bcase_bne | apply bcase_beq | apply bcase_not) <;> intro _)) | (apply bcase_intro <;> intro _) | apply sl_eq | refine ex_flip () ?_ ?_ | ((first | apply ex_flip10 | apply ex_flip9 | apply ex_flip8 | apply ex_flip7 | apply ex_flip6 | apply ex_flip5 | apply ex_flip4 | apply ex_flip3 | apply ex_flip2) <;> try dsimp only) | apply ex_flip | (refine Prod.forall.2 ?_; intro _; try dsimp only) | (intro _; try dsimp only))
  all_goals (try dsimp only [xg, xh, yG, yS, iG] at *)
  all_goals (try simp only [gs_eta] at *)
  all_goals first
    | rfl
    | exact h1
    | omega
    | (simp; done)
    | exact pk_bad h1.2 (by assumption)
    | exact bs_1 hs h1.2 (by assumption)
    | exact bs_23 hs h1.2 (.inl rfl) (by assumption)
    | exact bs_23 hs h1.2 (.inr rfl) (by assumption)
    | exact tx_ok h1 (by omega)
    | exact bs_sk hx (by assumption)
    | exact bs_list h1 (by assumption) (by assumption) (by assumption) (by assumption) (by assumption)
    | exact vq_rk hs (by assumption)
    | exact sk_ok h1
    | exact bs_pk hx (by assumption) (by assumption) (by assumption)
    | exact bs_va hx (by assumption) (by assumption)
    | exact (tk_ok (sk_ok h1)).1
    | exact fn_4 h1 (by assumption)
    | exact (tk_ok (fn_4 h1 (by assumption))).1
    | exact bs_fnA hx.2 h1 (by assumption) (by assumption) (by assumption) (by assumption) (by assumption) (by assumption) (by assumption)
    | exact bs_pA hx.2 h1 (by assumption) (by assumption) (by assumption) (by assumption) (by assumption) (by assumption) (by assumption)
    | exact bs_no h1 (by assumption) (by assumption) (by assumption) (by assumption) (by assumption) (by assumption)
    | (have hq := vq_ln hs (show vlQ _ _ _ [] _ _ by assumption); (try simp only [room, List.length_append, List.length_cons, List.length_nil] at *); omega)
    | skip)
def s_qEndS (n : Nat) : Sig := { X := ST × Int × Int × Bool × List Nd, args := fun x => [srd x.1 (xg x)], pre := fun x => wQ 2 (n + 1) x.1 (xg x), Y := Int × Int × Int × Bool × List Nd, post := fun x y => nodP x.1.sg (xg x) (pE x.1.sg (n + 1) .fin) (yS y), res := fun x y => .int .i64 y.1, outs := fun x y => [srd x.1 (yG y.2)], keep := true }
def i_qEndS (n : Nat) (x : ST × Int × Int × Bool × List Nd) : LS := { ι := Int × Int × Bool × List Nd × Int × Nat, inv := fun i => eqJ x.1.sg n (xg x) (iG i) i.2.2.2.2.1 i.2.2.2.2.2, regs := fun i => [(0, srd x.1 (iG i)), (3, .int .i64 i.2.2.2.2.1)], als := [], meas := fun i => i.2.2.2.2.2 }
theorem qEndS_ok (n : Nat) (h : qAll G n) : Contract G Tryz.prog 185 (s_qEndS n) :=
  vcFun_okP [(191, 0, (s_qBase n)), (73, 0, s_qMark), (143, 0, (s_qVals n)), (43, 0, s_qPut), (69, 0, s_qText)] [(45, ⟨Int,intA⟩)] false (fun x => [(2, i_qEndS n x)]) Tryz.func185 rfl (by decide) ⟨h.base, qMark_ok, (qVals_ok n h), qPut_ok, qText_ok, trivial⟩ (fun (x : ST × Int × Int × Bool × List Nd) => True ∧ cA (s_qBase n) [srd x.1 (xg x)] fun x_1 y => eA (i_qEndS n x) [srd x_1.1 (yG y.2), .int .i64 y.1] ∧ ∀ (i : Int × Int × Bool × List Nd × Int × Nat), eqJ x.1.sg n (xg x) (iG i) i.2.2.2.2.1 i.2.2.2.2.2 → bcase (!(iG i).bad) (cA s_qMark [srd x.1 (iG i), .str #[(40 : UInt8)].toList] fun x_2 y => bcase (isG x_2.1.sg (xh x_2) (4 : Int) x_2.2.2.2.2.2) (∃ (x_3 : Int), i.2.2.2.2.1 = x_3 ∧ cA (s_qVals n) [srd x_2.1 (gSkip x_2.1.sg (xh x_2) x_2.2.2.2.2.2), .str #[(41 : UInt8)].toList, oints [x_3]] fun x_4 y => cA s_qPut [srd x_4.1 (yG y.2), .int .i64 (5 : Int), .str #[].toList, oints y.1] fun x_5 y => eN (i_qEndS n x) i [srd x_5.1 (gAdd (xh x_5) { kind := x_5.2.2.2.2.2.1, text := x_5.2.2.2.2.2.2.1, kids := x_5.2.2.2.2.2.2.2, blank := false }), .int .i64 (gAddK (xh x_5))]) (cA s_qMark [srd x_2.1 (gSkip x_2.1.sg (xh x_2) x_2.2.2.2.2.2), .str #[(46 : UInt8)].toList] fun x_3 y => bcase (isG x_3.1.sg (xh x_3) (4 : Int) x_3.2.2.2.2.2) (cA s_qText [srd x_3.1 (gSkip x_3.1.sg (xh x_3) x_3.2.2.2.2.2), .int .i64 (1 : Int)] fun x_4 y => ∃ (x_5 : Int), i.2.2.2.2.1 = x_5 ∧ cA s_qPut [srd x_4.1 (gText x_4.1.sg (xh x_4) x_4.2.2.2.2.2), .int .i64 (6 : Int), .str (gTextT x_4.1.sg (xh x_4) x_4.2.2.2.2.2), oints [x_5]] fun x_6 y => eN (i_qEndS n x) i [srd x_6.1 (gAdd (xh x_6) { kind := x_6.2.2.2.2.2.1, text := x_6.2.2.2.2.2.2.1, kids := x_6.2.2.2.2.2.2.2, blank := false }), .int .i64 (gAddK (xh x_6))]) (rA (s_qEndS n) x [.int .i64 i.2.2.2.2.1, srd x_3.1 (gSkip x_3.1.sg (xh x_3) x_3.2.2.2.2.2)]))) (rA (s_qEndS n) x [.int .i64 i.2.2.2.2.1, srd x.1 (iG i)])) (fun x => by kernel_rfl) fun (x : ST × Int × Int × Bool × List Nd) (hx : wQ 2 (n + 1) x.1 (xg x)) => (by
  dsimp only [cA, eA, eN, i_qEndS, ndA_e, oints, onds, rA, s_qBase, s_qEndS, s_qMark, s_qPut, s_qText, s_qVals, sgA_e, sgs, srd, hndL, hnd1, mvL, lnL, mvE, lnE, sndL]
  obtain ⟨s, p, d, b, ns⟩ := x; dsimp only [xg, xh] at hx ⊢
  have hx : wQ 2 (n + 1) s ⟨p, d, b, ns⟩ := hx
  have h1 := hx.1.1.1; have hs := h1.1
  (repeat' first | (with_reducible first | rfl | exact True.intro | apply inR_i64 | apply And.intro | ((first | apply bcase_dec | apply bcase_bne | apply bcase_beq | apply bcase_not) <;> intro _)) | (apply bcase_intro <;> intro _) | apply sl_eq | refine ex_flip () ?_ ?_ | ((first | apply ex_flip10 | apply ex_flip9 | apply ex_flip8 | apply ex_flip7 | apply ex_flip6 | apply ex_flip5 | apply ex_flip4 | apply ex_flip3 | apply ex_flip2) <;> try dsimp only) | apply ex_flip | (refine Prod.forall.2 ?_; intro _; try dsimp only) | (intro _; try dsimp only))
  all_goals (try dsimp only [xg, xh, yG, yS, iG] at *)
  all_goals (try simp only [gs_eta] at *)
  all_goals first
    | (show Nat; skip)
    | rfl
    | exact ⟨ba_wP hx.1.1.1 hx.1.1.2 hx.1.2, hx.2⟩
    | exact eq_0 hx (by assumption)
    | exact eq_ok hx (by assumption)
    | exact eq_sk hx (by assumption) (by assumption)
    | exact (eq_dk hx (by assumption)).1
    | exact (eq_dk hx (by assumption)).2.1
    | exact (eq_dk hx (by assumption)).2.2
    | exact vq_rk hs (by assumption)
    | exact (eq_c hx (by assumption) (by assumption) (by assumption)).1
    | exact (eq_d hx (by assumption) (by assumption) (by assumption)).1
    | exact eq_b (by assumption) (by assumption)
    | exact eq_e (by assumption) (by assumption) (by assumption) (by assumption)
    | omega
    | (simp; done)
    | skip
  all_goals first
    | exact (eq_c hx (by assumption) (by assumption) (by assumption)).2
    | exact (eq_d hx (by assumption) (by assumption) (by assumption)).2
    | skip)
end Go.My
end
section
set_option linter.unusedVariables false
set_option linter.unusedSimpArgs false
namespace Go.My
open Go.Eng Go.Proofs
variable {G : GInv}
theorem bt {a b : List UInt8} (h : (a == b) = true) : a = b := by simpa using h
theorem bf {a b : List UInt8} (h : (a == b) = false) : a ≠ b := by simpa using h
def csJ (sg : List Sg) (n l : Nat) (x y : Gs) (t : List UInt8) (ks : List Int) (N : Nat) : Prop := chS sg n l x y t ks N ∧ (y.bad = false → y.deep ≤ 20)
theorem cq_6 {s : ST} {x : Gs} {n : Nat} {l : Int} (hx : wQ (9 - l.toNat) (n + 1) s x) (hl : l > 5) (h6 : l ≤ 6) : wQ 2 n s x := by
  have e : l.toNat = 6 := by omega
  have a := hx.1.2
  rw [e] at a
  exact ⟨⟨hx.1.1, by omega⟩, hx.2⟩
theorem cq_66 {s : ST} {x : Gs} {n : Nat} {l : Int} {z : Int × Gs} (hl : l > 5) (h6 : l ≤ 6) (h : nodP s.sg x (pE s.sg n .fin) z) : nodP s.sg x (pE s.sg (n + 1) (.chain l.toNat)) z := ch_66 (by omega) h
theorem cq_w {s : ST} {x : Gs} {n : Nat} {l : Int} (hx : wQ (9 - l.toNat) (n + 1) s x) (h0 : 0 ≤ l) (hl : ¬ l > 5) : wQ (9 - (l + 1).toNat) n s x := ⟨⟨hx.1.1, by have := hx.1.2; omega⟩, hx.2⟩
theorem cq_0 {s : ST} {x : Gs} {n : Nat} {l : Int} {z : Int × Gs} (hx : wQ (9 - l.toNat) (n + 1) s x) (h0 : 0 ≤ l) (hl : ¬ l > 5) (hz : nodP s.sg x (pE s.sg n (.chain (l + 1).toNat)) z) : csJ s.sg n l.toNat x z.2 [] [z.1] (2 * s.sg.length + 4) := by
  rw [show (l + 1).toNat = l.toNat + 1 by omega] at hz
  exact ⟨cs_0 hx.1.1.1.2 (by omega) hz, name_b hz hx.1.1.2⟩
theorem cq_ok {s : ST} {x y : Gs} {n l : Nat} {t : List UInt8} {ks : List Int} {N : Nat} (hs : sgB s.sg) (h : csJ s.sg n l x y t ks N) : rOk s y := ⟨hs, h.1.1.1⟩
theorem cq_m {s : ST} {x y : Gs} {n l : Nat} {t : List UInt8} {ks : List Int} {N : Nat} {i : Int} {m : List UInt8} (hs : sgB s.sg) (h : csJ s.sg n l x y t ks N) (hq : mkQ s.sg y l i m) : rOk s (gM y m) := by
  unfold gM; split
  · exact cq_ok hs h
  · rename_i hm
    rcases hq.2 with h2 | h2
    · exact (hm h2.1).elim
    · have hg := (chMG_is (sg := s.sg) (l := l) (g := y) (by rw [← h2.2]; exact hm)).1
      exact ⟨hs, adv_ok h.1.1.1 (isG_lt hg (by omega)).2⟩
theorem cq_wP {s : ST} {x y : Gs} {n : Nat} {l : Int} {t : List UInt8} {ks : List Int} {N : Nat} {i : Int} {m : List UInt8} (hx : wQ (9 - l.toNat) (n + 1) s x) (h0 : 0 ≤ l) (hl : ¬ l > 5) (h : csJ s.sg n l.toNat x y t ks N) (hq : mkQ s.sg y l.toNat i m) (hm : m ≠ []) : wQ (9 - (l + 1).toNat) n s (gM y m) := by
  have hr := cq_m hx.1.1.1.1 h hq
  rw [gM_y hm] at hr ⊢
  rcases hq.2 with h2 | h2
  · exact (hm h2.1).elim
  · have hg := (chMG_is (sg := s.sg) (l := l.toNat) (g := y) (by rw [← h2.2]; exact hm)).1
    have hb := isG_lt hg (by omega)
    have e1 : (gAdv y).pos = y.pos + 1 := rfl
    have e2 : (gAdv y).deep = y.deep := rfl
    have := h.1.1.2.2.1; have := hx.1.2; have := h.2 hb.1
    exact ⟨⟨⟨hr, fun _ => by omega⟩, by omega⟩, hx.2⟩
theorem cq_wB {s : ST} {x y : Gs} {n : Nat} {l : Int} {t : List UInt8} {ks : List Int} {N : Nat} {i : Int} {m : List UInt8} (hx : wQ (9 - l.toNat) (n + 1) s x) (h0 : 0 ≤ l) (hl : ¬ l > 5) (h : csJ s.sg n l.toNat x y t ks N) (hq : mkQ s.sg y l.toNat i m) (hm : m ≠ []) (ht : t ≠ []) : wQ (9 - (l + 1).toNat) n s (gAdd (gM y m) ⟨7, t, ks, false⟩) := by
  have a := cq_wP hx h0 hl h hq hm
  obtain ⟨d1, d2, d3⟩ := @add_dp (gM y m) ⟨7, t, ks, false⟩
  have hw := mark_nodB (ks := ks) hx.1.1.1.1 (h.1.2.2.2.2.2 ht).2 (by have := h.1.2.2.1; have := h.1.1.1.1; omega)
  exact ⟨⟨⟨⟨a.1.1.1.1, add_ok a.1.1.1.2 hw⟩, fun hb => by rw [d1]; exact a.1.1.2 (d3 hb)⟩, by rw [d2]; exact a.1.2⟩, a.2⟩
theorem cq_a {s : ST} {x y : Gs} {n : Nat} {l : Int} {t : List UInt8} {ks : List Int} {N : Nat} {i : Int} {m : List UInt8} {z : Int × Gs} (h0 : 0 ≤ l) (h : csJ s.sg n l.toNat x y t ks N) (hq : mkQ s.sg y l.toNat i m) (hi : ¬ i < ((marksAt l.toNat).length : Int)) (hm : m ≠ []) (ht : t = [] ∨ m = t)
    (hz : nodP s.sg (gM y m) (pE s.sg n (.chain (l + 1).toNat)) z) : csJ s.sg n l.toNat x z.2 m (ks ++ [z.1]) (N - 1) ∧ N - 1 < N := by
  have e := mq_e hq hi
  rw [gM_y hm, show (l + 1).toNat = l.toNat + 1 by omega] at hz
  obtain ⟨a, b⟩ := cs_a h.1 (by rw [← e]; exact hm) (by rw [← e]; exact ht) hz
  rw [← e] at a
  have hg := (chMG_is (sg := s.sg) (l := l.toNat) (g := y) (by rw [← e]; exact hm)).1
  exact ⟨⟨a, name_b hz (fun _ => h.2 (isG_lt hg (by omega)).1)⟩, b⟩
theorem cq_b {s : ST} {x y : Gs} {n : Nat} {l : Int} {t : List UInt8} {ks : List Int} {N : Nat} {i : Int} {m : List UInt8} {z : Int × Gs} (hs : sgB s.sg) (h0 : 0 ≤ l) (h : csJ s.sg n l.toNat x y t ks N) (hq : mkQ s.sg y l.toNat i m) (hi : ¬ i < ((marksAt l.toNat).length : Int)) (hm : m ≠ []) (ht : t ≠ []) (hne : m ≠ t)
    (hz : nodP s.sg (gAdd (gM y m) ⟨7, t, ks, false⟩) (pE s.sg n (.chain (l + 1).toNat)) z) : csJ s.sg n l.toNat x z.2 m ([gAddK (gM y m)] ++ [z.1]) (N - 2) ∧ N - 2 < N := by
  have e := mq_e hq hi
  rw [gM_y hm] at hz ⊢
  rw [show (l + 1).toNat = l.toNat + 1 by omega] at hz
  obtain ⟨a, b⟩ := cs_b hs h.1 (by rw [← e]; exact hm) ht (by rw [← e]; exact hne) hz
  rw [← e] at a
  have hg := (chMG_is (sg := s.sg) (l := l.toNat) (g := y) (by rw [← e]; exact hm)).1
  refine ⟨⟨a, name_b hz (fun hb => ?_)⟩, b⟩
  rw [add_dp1]; exact h.2 (isG_lt hg (by omega)).1
theorem cq_e1 {s : ST} {x y : Gs} {n l : Nat} {t : List UInt8} {ks : List Int} {N : Nat} {i : Int} {m : List UInt8} {k : Int} (h : csJ s.sg n l x y t ks N) (hq : mkQ s.sg y l i m) (hi : ¬ i < ((marksAt l).length : Int)) (hm : m = []) (hl : (ks.length : Int) = 1) (hk : ks[(0 : Int).toNat]? = some k) : nodP s.sg x (pE s.sg (n + 1) (.chain l)) (k, gM y m) := by
  have e := mq_e hq hi
  subst hm
  exact cs_e1 h.1 (.inr e.symm) (by omega) hk
theorem cq_e2 {s : ST} {x y : Gs} {n l : Nat} {t : List UInt8} {ks : List Int} {N : Nat} {i : Int} {m : List UInt8} (hs : sgB s.sg) (h : csJ s.sg n l x y t ks N) (hq : mkQ s.sg y l i m) (hi : ¬ i < ((marksAt l).length : Int)) (hm : m = []) (hl : (ks.length : Int) ≠ 1) : nodP s.sg x (pE s.sg (n + 1) (.chain l)) (gAddK (gM y m), gAdd (gM y m) ⟨7, t, ks, false⟩) := by
  have e := mq_e hq hi
  subst hm
  exact cs_e2 hs h.1 (.inr e.symm) (by omega)
theorem cq_b1 {s : ST} {x y : Gs} {n l : Nat} {t : List UInt8} {ks : List Int} {N : Nat} {k : Int} (h : csJ s.sg n l x y t ks N) (hb : y.bad = true) (hl : (ks.length : Int) = 1) (hk : ks[(0 : Int).toNat]? = some k) : nodP s.sg x (pE s.sg (n + 1) (.chain l)) (k, y) := cs_e1 h.1 (.inl hb) (by omega) hk
theorem cq_b2 {s : ST} {x y : Gs} {n l : Nat} {t : List UInt8} {ks : List Int} {N : Nat} (hs : sgB s.sg) (h : csJ s.sg n l x y t ks N) (hb : y.bad = true) (hl : (ks.length : Int) ≠ 1) : nodP s.sg x (pE s.sg (n + 1) (.chain l)) (gAddK y, gAdd y ⟨7, t, ks, false⟩) := cs_e2 hs h.1 (.inl hb) (by omega)
theorem cq_ks {s : ST} {x y : Gs} {n l : Nat} {t : List UInt8} {ks : List Int} {N : Nat} (hs : sgB s.sg) (h : csJ s.sg n l x y t ks N) : ks.length ≤ 3001 ∧ 1 ≤ ks.length := by
  have h1 := h.1.2.2.1; have h2 := h.1.1.1.1.2; have h3 := hs.1
  refine ⟨by omega, ?_⟩
  rcases Classical.em (t = []) with e | e
  · have := h.1.2.2.2.2.1 e; omega
  · have := (h.1.2.2.2.2.2 e).1; omega
theorem mq_i {sg : List Sg} {y : Gs} {l : Nat} {i : Int} {m : List UInt8} (h : mkQ sg y l i m) : (0 ≤ i ∧ i ≤ (marksAt l).length) ∧ (marksAt l).length ≤ 2 := ⟨h.1, mk_len⟩
theorem mq_gs {sg : List Sg} {y : Gs} {l : Nat} {i : Int} {m v : List UInt8} (h : mkQ sg y l i m) (hm : m = []) (ha : (marksAt l)[i.toNat]? = some v) (hg : isG sg (gM y m) 4 v = true) :
    (gSkip sg (gM y m) v).pos = (gM y v).pos ∧ (gSkip sg (gM y m) v).bad = (gM y v).bad ∧ (gSkip sg (gM y m) v).deep = (gM y v).deep ∧ (gSkip sg (gM y m) v).nodes = (gM y v).nodes := by
  rw [(mq_y h hm ha hg).2]; exact ⟨rfl, rfl, rfl, rfl⟩
theorem pq_z1 {sg : List Sg} {p d : Int} {b : Bool} {ns : List Nd} {f : Ps → PR} {z : Int × Gs} (hd : d ≤ 20) (h : d + 1 > 20) (hz : nodP sg ⟨p, d + 1, true, ns⟩ f z) : nodP sg (pkX ⟨p, d, b, ns⟩) f z := by
  have e : pkX ⟨p, d, b, ns⟩ = ⟨p, d + 1, true, ns⟩ := by simp only [pkX]; rw [if_pos (show d = 20 by omega)]; rfl
  rw [e]; exact hz
theorem pq_z2 {sg : List Sg} {p d : Int} {b : Bool} {ns : List Nd} {f : Ps → PR} {z : Int × Gs} (h : ¬ d + 1 > 20) (hz : nodP sg ⟨p, d + 1, b, ns⟩ f z) : nodP sg (pkX ⟨p, d, b, ns⟩) f z := by
  have e : pkX ⟨p, d, b, ns⟩ = ⟨p, d + 1, b, ns⟩ := by simp only [pkX]; rw [if_neg (show ¬ d = 20 by omega)]; rfl
  rw [e]; exact hz
theorem pq_1 {s : ST} {p d : Int} {b : Bool} {ns : List Nd} {n : Nat} (hx : vQ 10 (n + 1) s ⟨p, d, b, ns⟩) (h : d + 1 > 20) : wQ (9 - (0 : Int).toNat) n s ⟨p, d + 1, true, ns⟩ := by
  have a := (pk_ok hx.1.1.1 hx.1.1.2 hx.1.2).1
  have hd := hx.1.1.2; simp only at hd
  have e : pkX ⟨p, d, b, ns⟩ = ⟨p, d + 1, true, ns⟩ := by simp only [pkX]; rw [if_pos (show d = 20 by omega)]; rfl
  rw [e] at a; exact ⟨a, hx.2⟩
theorem pq_2 {s : ST} {p d : Int} {b : Bool} {ns : List Nd} {n : Nat} (hx : vQ 10 (n + 1) s ⟨p, d, b, ns⟩) (h : ¬ d + 1 > 20) : wQ (9 - (0 : Int).toNat) n s ⟨p, d + 1, b, ns⟩ := by
  have a := (pk_ok hx.1.1.1 hx.1.1.2 hx.1.2).1
  have e : pkX ⟨p, d, b, ns⟩ = ⟨p, d + 1, b, ns⟩ := by simp only [pkX]; rw [if_neg (show ¬ d = 20 by omega)]; rfl
  rw [e] at a; exact ⟨a, hx.2⟩
theorem vv_P {s : ST} {x y : Gs} {n : Nat} {ks : List Int} {N : Nat} (hx : vQ 11 (n + 1) s x) (h : vaJ s.sg n x y ks N) (hq : isG s.sg y 4 [46, 46] = true) :
    wQ 11 n s (gTake s.sg (gAdd (gText s.sg (gSkip s.sg y [46, 46]) 1) ⟨1, gTextT s.sg (gSkip s.sg y [46, 46]) 1, [], false⟩) [40]) := by
  have hr := vl_ok hx.1.1.1 h
  have a := nm_alt (m := [46, 46]) hr
  have e := nod_dp a
  have t := tk_b (m := [40]) (nod_ok a)
  rw [skip_yG hq] at a e t ⊢
  simp only at e t
  have e1 : (gAdv y).pos = y.pos + 1 := rfl
  have e2 : (gAdv y).deep = y.deep := rfl
  have := h.1.1.2.2.1; have := h.2; have := hx.1.2
  exact ⟨⟨⟨⟨hx.1.1.1.1, t.1⟩, fun _ => by omega⟩, by omega⟩, hx.2⟩
theorem vv_g {s : ST} {x y : Gs} {n : Nat} {ks : List Int} {N : Nat} {v : List Int × Gs} (hs : sgB s.sg) (h : vaJ s.sg n x y ks N) (hq : isG s.sg y 4 [46, 46] = true)
    (hv : vlQ s.sg (pE s.sg n .value) [41] [gAddK (gText s.sg (gSkip s.sg y [46, 46]) 1)] (gTake s.sg (gAdd (gText s.sg (gSkip s.sg y [46, 46]) 1) ⟨1, gTextT s.sg (gSkip s.sg y [46, 46]) 1, [], false⟩) [40]) v) :
    vaJ s.sg n x (gAdd v.2 ⟨5, [], v.1, false⟩) (ks ++ [gAddK v.2]) (N - 1) ∧ N - 1 < N := by
  have a := nm_alt (m := [46, 46]) (show rOk s y from ⟨hs, h.1.1.1⟩)
  have hw := vq_call (nod_ok a) hv
  have e := (nod_dp a).1
  rw [skip_yG hq] at a e
  obtain ⟨c1, c2⟩ := ex_pred (val_go2 h.1 hq a (by rw [skip_yG hq] at hw; exact hw))
  have e2 : (gAdv y).deep = y.deep := rfl
  have e3 := (nod_dp hw).1
  rw [skip_yG hq] at e3
  have := h.2
  exact ⟨vaJ_mk ⟨c1, by simp only at *; omega⟩, c2⟩
theorem vv_sk {s : ST} {x y : Gs} {n : Nat} {ks : List Int} {N : Nat} (hs : sgB s.sg) (h : vaJ s.sg n x y ks N) : rOk s (gSkip s.sg y [46, 46]) ∧ rOk s (gText s.sg (gSkip s.sg y [46, 46]) 1) ∧ rOk s (gAdd (gText s.sg (gSkip s.sg y [46, 46]) 1) ⟨1, gTextT s.sg (gSkip s.sg y [46, 46]) 1, [], false⟩) :=
  have hr : rOk s y := ⟨hs, h.1.1.1⟩
  ⟨sk_ok hr, tx_ok (sk_ok hr) (by omega), nm_ok2 hr⟩
def lqI (s : ST) (e : Int) (j : Int × Int × Bool × List Nd × List UInt8 × List Int × Nat) : LS := {
  ι := Int × List UInt8, inv := fun i => mkQ s.sg (iF j) e.toNat i.1 i.2, regs := fun i => [(0, srd s (gM (iF j) i.2)), (1, .int .i64 e), (5, oints j.2.2.2.2.2.1), (6, .str j.2.2.2.2.1), (7, .sl false 0 1 (List UInt8) strA (marksAt e.toNat)), (8, .str i.2), (9, .int .i64 i.1)], als := [], meas := fun i => (marksAt e.toNat).length - i.1.toNat }
def lqO (n : Nat) (x : ST × Int × Int × Bool × List Nd × Int) : LS := {
  ι := Int × Int × Bool × List Nd × List UInt8 × List Int × Nat, inv := fun i => csJ x.1.sg n x.2.2.2.2.2.toNat (xh x) (iF i) i.2.2.2.2.1 i.2.2.2.2.2.1 i.2.2.2.2.2.2, regs := fun i => [(0, srd x.1 (iF i)), (1, .int .i64 x.2.2.2.2.2), (5, oints i.2.2.2.2.2.1), (6, .str i.2.2.2.2.1), (7, .sl false 0 1 (List UInt8) strA (marksAt x.2.2.2.2.2.toNat))], als := [], meas := fun i => i.2.2.2.2.2.2,
  sub := fun j => [(9, lqI x.1 x.2.2.2.2.2 j)] }
attribute [local irreducible] pE listR callR fnR nodP resP gsOk gTake gClose gAdd gPass gLeaf gSkip gNameN gNameK gAddK gCloseK pkG isG nmG kdG gText gTextT nameR vlQ lqJ saI arG eqJ csJ mkQ gM vaJ
def s_qLevel  : Sig := { X := Int, args := fun x => [.int .i64 x], pre := fun x => 0 ≤ x ∧ x ≤ 5, Y := Unit, post := fun x y => True, res := fun x y => .sl false 0 1 (List UInt8) strA (marksAt x.toNat), outs := fun x y => [.top], keep := true }
theorem qLevel_ok  : Contract G Tryz.prog 186 s_qLevel :=
  vcFun_okP [] [(41, ⟨List UInt8,strA⟩)] false (fun x => []) Tryz.func186 rfl (by decide) trivial (fun (x : Int) => True ∧ bcase (x == (0 : Int)) (∃ (x_1 : List UInt8), #[(124 : UInt8), (124 : UInt8)].toList = x_1 ∧ rA s_qLevel x [AV.sl true (0 : Nat) (1 : Nat) (List UInt8) strA [x_1], .top]) (bcase (x == (1 : Int)) (∃ (x_1 : List UInt8), #[(38 : UInt8), (38 : UInt8)].toList = x_1 ∧ rA s_qLevel x [AV.sl true (0 : Nat) (1 : Nat) (List UInt8) strA [x_1], .top]) (bcase (x == (2 : Int)) (∃ (x_1 : List UInt8), #[(61 : UInt8), (61 : UInt8)].toList = x_1 ∧ rA s_qLevel x [AV.sl true (0 : Nat) (1 : Nat) (List UInt8) strA [x_1], .top]) (bcase (x == (3 : Int)) (∃ (x_1 : List UInt8), #[(60 : UInt8)].toList = x_1 ∧ rA s_qLevel x [AV.sl true (0 : Nat) (1 : Nat) (List UInt8) strA [x_1], .top]) (bcase (x == (4 : Int)) (∃ (x_1 : List UInt8), #[(43 : UInt8)].toList = x_1 ∧ ∃ (x_2 : List UInt8), #[(45 : UInt8)].toList = x_2 ∧ rA s_qLevel x [AV.sl true (0 : Nat) (1 : Nat) (List UInt8) strA [x_1, x_2], .top]) (∃ (x_1 : List UInt8), #[(42 : UInt8)].toList = x_1 ∧ rA s_qLevel x [AV.sl true (0 : Nat) (1 : Nat) (List UInt8) strA [x_1], .top])))))) (fun x => by kernel_rfl) fun (x : Int) (hx : 0 ≤ x ∧ x ≤ 5) => (by
  dsimp only [rA, s_qLevel, hndL, hnd1]
  obtain ⟨h1, h2⟩ := hx
  have hh : x = 0 ∨ x = 1 ∨ x = 2 ∨ x = 3 ∨ x = 4 ∨ x = 5 := by omega
  rcases hh with rfl | rfl | rfl | rfl | rfl | rfl
  all_goals (repeat' first | (with_reducible first | rfl | exact True.intro | apply inR_i64 | apply And.intro | ((first | apply bcase_dec | apply bcase_bne | apply bcase_beq | apply bcase_not) <;> intro _)) | (apply bcase_intro <;> intro _) | apply sl_eq | refine ex_flip () ?_ ?_ | ((first | apply ex_flip10 | apply ex_flip9 | apply ex_flip8 | apply ex_flip7 | apply ex_flip6 | apply ex_flip5 | apply ex_flip4 | apply ex_flip3 | apply ex_flip2) <;> try dsimp only) | apply ex_flip | (refine Prod.forall.2 ?_; intro _; try dsimp only) | (intro _; try dsimp only))
  all_goals first
    | rfl
    | omega
    | (simp [room]; done)
    | skip)
def s_qChS (n : Nat) : Sig := { X := ST × Int × Int × Bool × List Nd × Int, args := fun x => [srd x.1 (xh x), .int .i64 x.2.2.2.2.2], pre := fun x => wQ (9 - x.2.2.2.2.2.toNat) (n + 1) x.1 (xh x) ∧ 0 ≤ x.2.2.2.2.2 ∧ x.2.2.2.2.2 ≤ 6, Y := Int × Int × Int × Bool × List Nd, post := fun x y => nodP x.1.sg (xh x) (pE x.1.sg (n + 1) (.chain x.2.2.2.2.2.toNat)) (yS y), res := fun x y => .int .i64 y.1, outs := fun x y => [srd x.1 (yG y.2), .top], keep := true }
theorem qChS_ok (n : Nat) (h : qAll G n) : Contract G Tryz.prog 171 (s_qChS n) :=
  vcFun_okP [(185, 0, (s_qEnd n)), (171, 0, (s_qCh n)), (186, 0, s_qLevel), (73, 0, s_qMark), (43, 0, s_qPut)] [(45, ⟨Int,intA⟩), (41, ⟨List UInt8,strA⟩)] false (fun x => [(6, lqO n x)]) Tryz.func171 rfl (by decide) ⟨h.fin, h.chain, qLevel_ok, qMark_ok, qPut_ok, trivial⟩ (fun (x : ST × Int × Int × Bool × List Nd × Int) => True ∧ bcase (decide (x.2.2.2.2.2 > (5 : Int))) (cA (s_qEnd n) [srd x.1 (xh x)] fun x_1 y => rA (s_qChS n) x [.int .i64 y.1, srd x_1.1 (yG y.2), .top]) (inR IntKind.i64 (x.2.2.2.2.2 + (1 : Int)) ∧ cA (s_qCh n) [srd x.1 (xh x), .int .i64 (x.2.2.2.2.2 + (1 : Int))] fun x_1 y => ∃ (x_2 : Int), y.1 = x_2 ∧ cA s_qLevel [.int .i64 x.2.2.2.2.2] fun x_3 y_1 => eA (lqO n x) [srd x_1.1 (yG y.2), .int .i64 x.2.2.2.2.2, oints [x_2], .str #[].toList, AV.sl false (0 : Nat) (1 : Nat) (List UInt8) strA (marksAt (Int.toNat x_3))] ∧ ∀ (i : Int × Int × Bool × List Nd × List UInt8 × List Int × Nat), csJ x.1.sg n (Int.toNat x.2.2.2.2.2) (xh x) (iF i) i.2.2.2.2.1 i.2.2.2.2.2.1 i.2.2.2.2.2.2 → bcase (!(iF i).bad) (eA (lqI x.1 x.2.2.2.2.2 i) [srd x.1 (iF i), .int .i64 x.2.2.2.2.2, oints i.2.2.2.2.2.1, .str i.2.2.2.2.1, AV.sl false (0 : Nat) (1 : Nat) (List UInt8) strA (marksAt (Int.toNat x.2.2.2.2.2)), .str #[].toList, .int .i64 (0 : Int)] ∧ ∀ (i_1 : Int × List UInt8), mkQ x.1.sg (iF i) (Int.toNat x.2.2.2.2.2) i_1.1 i_1.2 → bcase (decide (i_1.1 < (↑(List.length (marksAt (Int.toNat x.2.2.2.2.2))) : Int))) (bcase (i_1.2 == #[].toList) (((0 : Int) ≤ i_1.1 ∧ i_1.1 < (↑(List.length (marksAt (Int.toNat x.2.2.2.2.2))) : Int)) ∧ ∀ (e : List UInt8), (marksAt (Int.toNat x.2.2.2.2.2))[Int.toNat i_1.1]? = some e → cA s_qMark [srd x.1 (gM (iF i) i_1.2), .str e] fun x_4 y => bcase (isG x_4.1.sg (xh x_4) (4 : Int) x_4.2.2.2.2.2) (((0 : Int) ≤ i_1.1 ∧ i_1.1 < (↑(List.length (marksAt (Int.toNat x.2.2.2.2.2))) : Int)) ∧ ∀ (e : List UInt8), (marksAt (Int.toNat x.2.2.2.2.2))[Int.toNat i_1.1]? = some e → inR IntKind.i64 (i_1.1 + (1 : Int)) ∧ eN (lqI x.1 x.2.2.2.2.2 i) i_1 [srd x_4.1 (gSkip x_4.1.sg (xh x_4) x_4.2.2.2.2.2), .int .i64 x.2.2.2.2.2, oints i.2.2.2.2.2.1, .str i.2.2.2.2.1, AV.sl false (0 : Nat) (1 : Nat) (List UInt8) strA (marksAt (Int.toNat x.2.2.2.2.2)), .str e, .int .i64 (i_1.1 + (1 : Int))]) (inR IntKind.i64 (i_1.1 + (1 : Int)) ∧ eN (lqI x.1 x.2.2.2.2.2 i) i_1 [srd x_4.1 (gSkip x_4.1.sg (xh x_4) x_4.2.2.2.2.2), .int .i64 x.2.2.2.2.2, oints i.2.2.2.2.2.1, .str i.2.2.2.2.1, AV.sl false (0 : Nat) (1 : Nat) (List UInt8) strA (marksAt (Int.toNat x.2.2.2.2.2)), .str i_1.2, .int .i64 (i_1.1 + (1 : Int))])) (inR IntKind.i64 (i_1.1 + (1 : Int)) ∧ eN (lqI x.1 x.2.2.2.2.2 i) i_1 [srd x.1 (gM (iF i) i_1.2), .int .i64 x.2.2.2.2.2, oints i.2.2.2.2.2.1, .str i.2.2.2.2.1, AV.sl false (0 : Nat) (1 : Nat) (List UInt8) strA (marksAt (Int.toNat x.2.2.2.2.2)), .str i_1.2, .int .i64 (i_1.1 + (1 : Int))])) (bcase (i_1.2 == #[].toList) (bcase ((↑(List.length i.2.2.2.2.2.1) : Int) == (1 : Int)) (((0 : Int) ≤ (0 : Int) ∧ (0 : Int) < (↑(List.length i.2.2.2.2.2.1) : Int)) ∧ (0 : Nat) < List.length i.2.2.2.2.2.1 ∧ ∀ (x_4 : Int), i.2.2.2.2.2.1[(0 : Nat)]? = some x_4 → rA (s_qChS n) x [.int .i64 x_4, srd x.1 (gM (iF i) i_1.2), .top]) (cA s_qPut [srd x.1 (gM (iF i) i_1.2), .int .i64 (7 : Int), .str i.2.2.2.2.1, oints i.2.2.2.2.2.1] fun x_4 y => rA (s_qChS n) x [.int .i64 (gAddK (xh x_4)), srd x_4.1 (gAdd (xh x_4) { kind := x_4.2.2.2.2.2.1, text := x_4.2.2.2.2.2.2.1, kids := x_4.2.2.2.2.2.2.2, blank := false }), .top])) (bcase (!i.2.2.2.2.1 == #[].toList) (bcase (!i_1.2 == i.2.2.2.2.1) (cA s_qPut [srd x.1 (gM (iF i) i_1.2), .int .i64 (7 : Int), .str i.2.2.2.2.1, oints i.2.2.2.2.2.1] fun x_4 y => ∃ (x_5 : Int), gAddK (xh x_4) = x_5 ∧ inR IntKind.i64 (x.2.2.2.2.2 + (1 : Int)) ∧ cA (s_qCh n) [srd x_4.1 (gAdd (xh x_4) { kind := x_4.2.2.2.2.2.1, text := x_4.2.2.2.2.2.2.1, kids := x_4.2.2.2.2.2.2.2, blank := false }), .int .i64 (x.2.2.2.2.2 + (1 : Int))] fun x_6 y => ∃ (x_7 : Int), y.1 = x_7 ∧ ∃ (zs : List Int), oints [x_7] = oints zs ∧ leafy intA ∧ room (List.length [x_5] + List.length zs) (8 : Nat) ∧ eN (lqO n x) i [srd x_6.1 (yG y.2), .int .i64 x.2.2.2.2.2, oints ([x_5] ++ zs), .str i_1.2, AV.sl false (0 : Nat) (1 : Nat) (List UInt8) strA (marksAt (Int.toNat x.2.2.2.2.2))]) (inR IntKind.i64 (x.2.2.2.2.2 + (1 : Int)) ∧ cA (s_qCh n) [srd x.1 (gM (iF i) i_1.2), .int .i64 (x.2.2.2.2.2 + (1 : Int))] fun x_4 y => ∃ (x_5 : Int), y.1 = x_5 ∧ ∃ (zs : List Int), oints [x_5] = oints zs ∧ leafy intA ∧ room (List.length i.2.2.2.2.2.1 + List.length zs) (8 : Nat) ∧ eN (lqO n x) i [srd x_4.1 (yG y.2), .int .i64 x.2.2.2.2.2, oints (i.2.2.2.2.2.1 ++ zs), .str i_1.2, AV.sl false (0 : Nat) (1 : Nat) (List UInt8) strA (marksAt (Int.toNat x.2.2.2.2.2))])) (inR IntKind.i64 (x.2.2.2.2.2 + (1 : Int)) ∧ cA (s_qCh n) [srd x.1 (gM (iF i) i_1.2), .int .i64 (x.2.2.2.2.2 + (1 : Int))] fun x_4 y => ∃ (x_5 : Int), y.1 = x_5 ∧ ∃ (zs : List Int), oints [x_5] = oints zs ∧ leafy intA ∧ room (List.length i.2.2.2.2.2.1 + List.length zs) (8 : Nat) ∧ eN (lqO n x) i [srd x_4.1 (yG y.2), .int .i64 x.2.2.2.2.2, oints (i.2.2.2.2.2.1 ++ zs), .str i_1.2, AV.sl false (0 : Nat) (1 : Nat) (List UInt8) strA (marksAt (Int.toNat x.2.2.2.2.2))])))) (bcase ((↑(List.length i.2.2.2.2.2.1) : Int) == (1 : Int)) (((0 : Int) ≤ (0 : Int) ∧ (0 : Int) < (↑(List.length i.2.2.2.2.2.1) : Int)) ∧ (0 : Nat) < List.length i.2.2.2.2.2.1 ∧ ∀ (x_4 : Int), i.2.2.2.2.2.1[(0 : Nat)]? = some x_4 → rA (s_qChS n) x [.int .i64 x_4, srd x.1 (iF i), .top]) (cA s_qPut [srd x.1 (iF i), .int .i64 (7 : Int), .str i.2.2.2.2.1, oints i.2.2.2.2.2.1] fun x_4 y => rA (s_qChS n) x [.int .i64 (gAddK (xh x_4)), srd x_4.1 (gAdd (xh x_4) { kind := x_4.2.2.2.2.2.1, text := x_4.2.2.2.2.2.2.1, kids := x_4.2.2.2.2.2.2.2, blank := false }), .top])))) (fun x => by kernel_rfl) fun (x : ST × Int × Int × Bool × List Nd × Int) (hx : wQ (9 - x.2.2.2.2.2.toNat) (n + 1) x.1 (xh x) ∧ 0 ≤ x.2.2.2.2.2 ∧ x.2.2.2.2.2 ≤ 6) => (by
  dsimp only [cA, eA, eN, lqI, lqO, ndA_e, oints, onds, rA, s_qCh, s_qChS, s_qEnd, s_qLevel, s_qMark, s_qPut, sgA_e, sgs, srd, hndL, hnd1, mvL, lnL, mvE, lnE, sndL]
  obtain ⟨s, p, d, b, ns, e⟩ := x; dsimp only [xg, xh] at hx ⊢
  obtain ⟨hx, h4, h5⟩ := hx
  have hx : wQ (9 - e.toNat) (n + 1) s ⟨p, d, b, ns⟩ := hx
  have h1 := hx.1.1.1; have hs := h1.1
  (repeat' first | (with_reducible first | rfl | exact True.intro | apply inR_i64 | apply And.intro | ((first | apply bcase_dec | apply bcase_bne | apply bcase_beq | apply bcase_not) <;> intro _)) | (apply bcase_intro <;> intro _) | apply sl_eq | refine ex_flip () ?_ ?_ | ((first | apply ex_flip10 | apply ex_flip9 | apply ex_flip8 | apply ex_flip7 | apply ex_flip6 | apply ex_flip5 | apply ex_flip4 | apply ex_flip3 | apply ex_flip2) <;> try dsimp only) | apply ex_flip | (refine Prod.forall.2 ?_; intro _; try dsimp only) | (intro _; try dsimp only))
  all_goals (try dsimp only [xg, xh, yG, yS, iG, iF] at *)
  all_goals (try simp only [gs_eta] at *)
  all_goals first
    | (show Nat; skip)
    | rfl
    | assumption
    | exact h1
    | exact cq_6 hx (by assumption) h5
    | exact cq_66 (by assumption) h5 (by assumption)
    | exact cq_w hx h4 (by assumption)
    | exact cq_0 hx h4 (by assumption) (by assumption)
    | exact cq_ok hs (by assumption)
    | exact cq_m hs (by assumption) (by assumption)
    | exact mq_0
    | (simp only [gM_n]; done)
    | exact (mq_gs (by assumption) (by assumption) (by assumption) (by assumption)).1
    | exact (mq_gs (by assumption) (by assumption) (by assumption) (by assumption)).2.1
    | exact (mq_gs (by assumption) (by assumption) (by assumption) (by assumption)).2.2.1
    | exact (mq_gs (by assumption) (by assumption) (by assumption) (by assumption)).2.2.2
    | exact mq_n (by assumption) (by assumption) (by assumption) (by assumption)
    | exact (mq_y (by assumption) (by assumption) (by assumption) (by assumption)).1
    | exact mq_s (by assumption) (by assumption) (by assumption)
    | exact cq_wP hx h4 (by assumption) (by assumption) (by assumption) (by assumption)
    | exact cq_wB hx h4 (by assumption) (by assumption) (by assumption) (by assumption) (bf (by assumption))
    | exact (cq_b hs h4 (by assumption) (by assumption) (by assumption) (by assumption) (bf (by assumption)) (bf (by assumption)) (by assumption)).1
    | exact (cq_a h4 (by assumption) (by assumption) (by assumption) (by assumption) (.inl (bt (by assumption))) (by assumption)).1
    | exact (cq_a h4 (by assumption) (by assumption) (by assumption) (by assumption) (.inr (bt (by assumption))) (by assumption)).1
    | exact cq_e1 (by assumption) (by assumption) (by assumption) (by assumption) (by assumption) (by assumption)
    | exact cq_e2 hs (by assumption) (by assumption) (by assumption) (by assumption) (by assumption)
    | exact cq_b1 (by assumption) (by assumption) (by assumption) (by assumption)
    | exact cq_b2 hs (by assumption) (by assumption) (by assumption)
    | ((try simp only [i64max]); omega)
    | (have hq := mq_i (show mkQ _ _ _ _ _ by assumption); (try simp only [i64max]); omega)
    | (have hq := cq_ks hs (show csJ _ _ _ _ _ _ _ _ by assumption); (try simp only [room, List.length_append, List.length_cons, List.length_nil]); omega)
    | skip
  all_goals first
    | exact (cq_b hs h4 (by assumption) (by assumption) (by assumption) (by assumption) (bf (by assumption)) (bf (by assumption)) (by assumption)).2
    | exact (cq_a h4 (by assumption) (by assumption) (by assumption) (by assumption) (.inl (bt (by assumption))) (by assumption)).2
    | exact (cq_a h4 (by assumption) (by assumption) (by assumption) (by assumption) (.inr (bt (by assumption))) (by assumption)).2
    | (simp only [gM_n]; done)
    | skip
  all_goals (try (repeat (rename (marksAt _)[_]? = some _ => hq; revert hq; rename (marksAt _)[_]? = some _ => hr; intro hq; rw [hr] at hq; cases hq)))
  all_goals first
    | exact (mq_y (by assumption) (by assumption) (by assumption) (by assumption)).1
    | exact (mq_gs (by assumption) (by assumption) (by assumption) (by assumption)).1
    | exact (mq_gs (by assumption) (by assumption) (by assumption) (by assumption)).2.1
    | exact (mq_gs (by assumption) (by assumption) (by assumption) (by assumption)).2.2.1
    | exact (mq_gs (by assumption) (by assumption) (by assumption) (by assumption)).2.2.2
    | (rw [skip_n (by assumption)]; done)
    | skip)
def s_qPickS (n : Nat) : Sig := { X := ST × Int × Int × Bool × List Nd, args := fun x => [srd x.1 (xg x)], pre := fun x => vQ 10 (n + 1) x.1 (xg x), Y := Int × Int × Int × Bool × List Nd, post := fun x y => nodP x.1.sg (xg x) (pE x.1.sg (n + 1) .pick) (yS y), res := fun x y => .int .i64 y.1, outs := fun x y => [srd x.1 (yG y.2)], keep := true }
theorem qPickS_ok (n : Nat) (h : qAll G n) : Contract G Tryz.prog 142 (s_qPickS n) :=
  vcFun_okP [(171, 0, (s_qCh n)), (73, 0, s_qMark), (142, 0, (s_qPick n)), (72, 0, s_qWants), (43, 0, s_qPut)] [(45, ⟨Int,intA⟩)] false (fun x => []) Tryz.func142 rfl (by decide) ⟨h.chain, qMark_ok, h.pick, qWants_ok, qPut_ok, trivial⟩ (fun (x : ST × Int × Int × Bool × List Nd) => True ∧ bcase (xg x).bad (rA (s_qPickS n) x [.int .i64 (0 : Int), srd x.1 (xg x)]) (inR IntKind.i64 ((xg x).deep + (1 : Int)) ∧ bcase (decide ((xg x).deep + (1 : Int) > (20 : Int))) (cA (s_qCh n) [.box 0 [sgs x.1.sg, .int .i64 (xg x).pos, .bool true, .int .i64 ((xg x).deep + (1 : Int)), onds (xg x).nodes], .int .i64 (0 : Int)] fun x_1 y => cA s_qMark [srd x_1.1 (yG y.2), .str #[(63 : UInt8)].toList] fun x_2 y_1 => bcase (isG x_2.1.sg (xh x_2) (4 : Int) x_2.2.2.2.2.2) (cA (s_qPick n) [srd x_2.1 (gSkip x_2.1.sg (xh x_2) x_2.2.2.2.2.2)] fun x_3 y_2 => cA s_qWants [srd x_3.1 (yG y_2.2), .str #[(58 : UInt8)].toList] fun x_4 y_3 => cA (s_qPick n) [srd x_4.1 (gTake x_4.1.sg (xh x_4) x_4.2.2.2.2.2)] fun x_5 y_4 => ∃ (x_6 : Int), y.1 = x_6 ∧ ∃ (x_7 : Int), y_2.1 = x_7 ∧ ∃ (x_8 : Int), y_4.1 = x_8 ∧ cA s_qPut [srd x_5.1 (yG y_4.2), .int .i64 (8 : Int), .str #[].toList, oints [x_6, x_7, x_8]] fun x_9 y => inR IntKind.i64 ((gAdd (xh x_9) { kind := x_9.2.2.2.2.2.1, text := x_9.2.2.2.2.2.2.1, kids := x_9.2.2.2.2.2.2.2, blank := false }).deep - (1 : Int)) ∧ rA (s_qPickS n) x [.int .i64 (gAddK (xh x_9)), .box 0 [sgs x_9.1.sg, .int .i64 (gAdd (xh x_9) { kind := x_9.2.2.2.2.2.1, text := x_9.2.2.2.2.2.2.1, kids := x_9.2.2.2.2.2.2.2, blank := false }).pos, .bool (gAdd (xh x_9) { kind := x_9.2.2.2.2.2.1, text := x_9.2.2.2.2.2.2.1, kids := x_9.2.2.2.2.2.2.2, blank := false }).bad, .int .i64 ((gAdd (xh x_9) { kind := x_9.2.2.2.2.2.1, text := x_9.2.2.2.2.2.2.1, kids := x_9.2.2.2.2.2.2.2, blank := false }).deep - (1 : Int)), onds (gAdd (xh x_9) { kind := x_9.2.2.2.2.2.1, text := x_9.2.2.2.2.2.2.1, kids := x_9.2.2.2.2.2.2.2, blank := false }).nodes]]) (inR IntKind.i64 ((gSkip x_2.1.sg (xh x_2) x_2.2.2.2.2.2).deep - (1 : Int)) ∧ rA (s_qPickS n) x [.int .i64 y.1, .box 0 [sgs x_2.1.sg, .int .i64 (gSkip x_2.1.sg (xh x_2) x_2.2.2.2.2.2).pos, .bool (gSkip x_2.1.sg (xh x_2) x_2.2.2.2.2.2).bad, .int .i64 ((gSkip x_2.1.sg (xh x_2) x_2.2.2.2.2.2).deep - (1 : Int)), onds (gSkip x_2.1.sg (xh x_2) x_2.2.2.2.2.2).nodes]])) (cA (s_qCh n) [.box 0 [sgs x.1.sg, .int .i64 (xg x).pos, .bool (xg x).bad, .int .i64 ((xg x).deep + (1 : Int)), onds (xg x).nodes], .int .i64 (0 : Int)] fun x_1 y => cA s_qMark [srd x_1.1 (yG y.2), .str #[(63 : UInt8)].toList] fun x_2 y_1 => bcase (isG x_2.1.sg (xh x_2) (4 : Int) x_2.2.2.2.2.2) (cA (s_qPick n) [srd x_2.1 (gSkip x_2.1.sg (xh x_2) x_2.2.2.2.2.2)] fun x_3 y_2 => cA s_qWants [srd x_3.1 (yG y_2.2), .str #[(58 : UInt8)].toList] fun x_4 y_3 => cA (s_qPick n) [srd x_4.1 (gTake x_4.1.sg (xh x_4) x_4.2.2.2.2.2)] fun x_5 y_4 => ∃ (x_6 : Int), y.1 = x_6 ∧ ∃ (x_7 : Int), y_2.1 = x_7 ∧ ∃ (x_8 : Int), y_4.1 = x_8 ∧ cA s_qPut [srd x_5.1 (yG y_4.2), .int .i64 (8 : Int), .str #[].toList, oints [x_6, x_7, x_8]] fun x_9 y => inR IntKind.i64 ((gAdd (xh x_9) { kind := x_9.2.2.2.2.2.1, text := x_9.2.2.2.2.2.2.1, kids := x_9.2.2.2.2.2.2.2, blank := false }).deep - (1 : Int)) ∧ rA (s_qPickS n) x [.int .i64 (gAddK (xh x_9)), .box 0 [sgs x_9.1.sg, .int .i64 (gAdd (xh x_9) { kind := x_9.2.2.2.2.2.1, text := x_9.2.2.2.2.2.2.1, kids := x_9.2.2.2.2.2.2.2, blank := false }).pos, .bool (gAdd (xh x_9) { kind := x_9.2.2.2.2.2.1, text := x_9.2.2.2.2.2.2.1, kids := x_9.2.2.2.2.2.2.2, blank := false }).bad, .int .i64 ((gAdd (xh x_9) { kind := x_9.2.2.2.2.2.1, text := x_9.2.2.2.2.2.2.1, kids := x_9.2.2.2.2.2.2.2, blank := false }).deep - (1 : Int)), onds (gAdd (xh x_9) { kind := x_9.2.2.2.2.2.1, text := x_9.2.2.2.2.2.2.1, kids := x_9.2.2.2.2.2.2.2, blank := false }).nodes]]) (inR IntKind.i64 ((gSkip x_2.1.sg (xh x_2) x_2.2.2.2.2.2).deep - (1 : Int)) ∧ rA (s_qPickS n) x [.int .i64 y.1, .box 0 [sgs x_2.1.sg, .int .i64 (gSkip x_2.1.sg (xh x_2) x_2.2.2.2.2.2).pos, .bool (gSkip x_2.1.sg (xh x_2) x_2.2.2.2.2.2).bad, .int .i64 ((gSkip x_2.1.sg (xh x_2) x_2.2.2.2.2.2).deep - (1 : Int)), onds (gSkip x_2.1.sg (xh x_2) x_2.2.2.2.2.2).nodes]])))) (fun x => by kernel_rfl) fun (x : ST × Int × Int × Bool × List Nd) (hx : vQ 10 (n + 1) x.1 (xg x)) => (by
  dsimp only [cA, ndA_e, oints, onds, rA, s_qCh, s_qMark, s_qPick, s_qPickS, s_qPut, s_qWants, sgA_e, sgs, srd, hndL, hnd1, mvL, lnL, mvE, lnE]
  obtain ⟨s, p, d, b, ns⟩ := x; dsimp only [xg, xh] at hx ⊢
  have hx : vQ 10 (n + 1) s ⟨p, d, b, ns⟩ := hx
  have h1 := hx.1.1.1; have h2 := hx.1.1.2; have h3 := hx.1.2; have hs := h1.1; dsimp only at h2 h3
  (repeat' first | (with_reducible first | rfl | exact True.intro | apply inR_i64 | apply And.intro | ((first | apply bcase_dec | apply bcase_bne | apply bcase_beq | apply bcase_not) <;> intro _)) | (apply bcase_intro <;> intro _) | apply sl_eq | refine ex_flip () ?_ ?_ | ((first | apply ex_flip10 | apply ex_flip9 | apply ex_flip8 | apply ex_flip7 | apply ex_flip6 | apply ex_flip5 | apply ex_flip4 | apply ex_flip3 | apply ex_flip2) <;> try dsimp only) | apply ex_flip | (refine Prod.forall.2 ?_; intro _; try dsimp only) | (intro _; try dsimp only))
  all_goals (try dsimp only [xg, xh, yG, yS, iG, iF] at *)
  all_goals (try simp only [gs_eta] at *)
  all_goals (try (first | (have hz := pq_z1 (b := b) h2 (by assumption) (show nodP s.sg ⟨p, d + 1, true, ns⟩ (pE s.sg n (.chain _)) _ by assumption)) | (have hz := pq_z2 (by assumption) (show nodP s.sg ⟨p, d + 1, b, ns⟩ (pE s.sg n (.chain _)) _ by assumption))))
  all_goals first
    | rfl
    | assumption
    | exact pk_bad h1.2 (by assumption)
    | exact pq_1 hx (by assumption)
    | exact pq_2 hx (by assumption)
    | exact fn_4 h1 hz
    | (clear hz; exact fn_4 h1 (by assumption))
    | exact ⟨pk_aP h1 h2 h3 hz (by assumption), hx.2⟩
    | exact ⟨pk_bP h1 h2 h3 hz (by assumption) (by assumption), hx.2⟩
    | exact pk_y h1 h2 hz (by assumption) (by assumption) (by assumption)
    | exact pk_n h1 h2 hz (by assumption)
    | (have hq := pk_dN h1 hz (by assumption); (try dsimp only at hq); (try simp only [i64max]); omega)
    | (have hq := nd_d (show nodP s.sg (gTake s.sg _ _) _ _ by assumption); (try dsimp only at hq); (try simp only [i64max, add_dp1]); omega)
    | (have hq := (rOk_n h1).1.2; dsimp only at hq; (try simp only [i64max]); omega)
    | skip)
def s_qValS (n : Nat) : Sig := { X := ST × Int × Int × Bool × List Nd, args := fun x => [srd x.1 (xg x)], pre := fun x => vQ 11 (n + 1) x.1 (xg x), Y := Int × Int × Int × Bool × List Nd, post := fun x y => nodP x.1.sg (xg x) (pE x.1.sg (n + 1) .value) (yS y), res := fun x y => .int .i64 y.1, outs := fun x y => [srd x.1 (yG y.2)], keep := true }
def i_qValS (n : Nat) (x : ST × Int × Int × Bool × List Nd) : LS := { ι := Int × Int × Bool × List Nd × List Int × Nat, inv := fun i => vaJ x.1.sg n (xg x) (iG i) i.2.2.2.2.1 i.2.2.2.2.2, regs := fun i => [(0, srd x.1 (iG i)), (4, oints i.2.2.2.2.1)], als := [], meas := fun i => i.2.2.2.2.2 }
theorem qValS_ok (n : Nat) (h : qAll G n) : Contract G Tryz.prog 107 (s_qValS n) :=
  vcFun_okP [(142, 0, (s_qPick n)), (106, 0, s_qIs), (73, 0, s_qMark), (69, 0, s_qText), (43, 0, s_qPut), (72, 0, s_qWants), (143, 0, (s_qVals n))] [(45, ⟨Int,intA⟩)] false (fun x => [(5, i_qValS n x)]) Tryz.func107 rfl (by decide) ⟨h.pick, qIs_ok, qMark_ok, qText_ok, qPut_ok, qWants_ok, (qVals_ok n h), trivial⟩ (fun (x : ST × Int × Int × Bool × List Nd) => True ∧ cA (s_qPick n) [srd x.1 (xg x)] fun x_1 y => cA s_qIs [srd x_1.1 (yG y.2), .int .i64 (4 : Int), .str #[(46 : UInt8), (46 : UInt8)].toList] fun x_2 y_1 => bcase (!isG x_2.1.sg (xh x_2) x_2.2.2.2.2.2.1 x_2.2.2.2.2.2.2) (rA (s_qValS n) x [.int .i64 y.1, srd x_2.1 (xh x_2)]) (∃ (x_3 : Int), y.1 = x_3 ∧ eA (i_qValS n x) [srd x_2.1 (xh x_2), oints [x_3]] ∧ ∀ (i : Int × Int × Bool × List Nd × List Int × Nat), vaJ x.1.sg n (xg x) (iG i) i.2.2.2.2.1 i.2.2.2.2.2 → cA s_qMark [srd x.1 (iG i), .str #[(46 : UInt8), (46 : UInt8)].toList] fun x_4 y => bcase (isG x_4.1.sg (xh x_4) (4 : Int) x_4.2.2.2.2.2) (cA s_qText [srd x_4.1 (gSkip x_4.1.sg (xh x_4) x_4.2.2.2.2.2), .int .i64 (1 : Int)] fun x_5 y => cA s_qPut [srd x_5.1 (gText x_5.1.sg (xh x_5) x_5.2.2.2.2.2), .int .i64 (1 : Int), .str (gTextT x_5.1.sg (xh x_5) x_5.2.2.2.2.2), oints []] fun x_6 y => cA s_qWants [srd x_6.1 (gAdd (xh x_6) { kind := x_6.2.2.2.2.2.1, text := x_6.2.2.2.2.2.2.1, kids := x_6.2.2.2.2.2.2.2, blank := false }), .str #[(40 : UInt8)].toList] fun x_7 y => ∃ (x_8 : Int), gAddK (xh x_6) = x_8 ∧ cA (s_qVals n) [srd x_7.1 (gTake x_7.1.sg (xh x_7) x_7.2.2.2.2.2), .str #[(41 : UInt8)].toList, oints [x_8]] fun x_9 y => cA s_qPut [srd x_9.1 (yG y.2), .int .i64 (5 : Int), .str #[].toList, oints y.1] fun x_10 y => ∃ (x_11 : Int), gAddK (xh x_10) = x_11 ∧ ∃ (zs : List Int), oints [x_11] = oints zs ∧ leafy intA ∧ room (List.length i.2.2.2.2.1 + List.length zs) (8 : Nat) ∧ eN (i_qValS n x) i [srd x_10.1 (gAdd (xh x_10) { kind := x_10.2.2.2.2.2.1, text := x_10.2.2.2.2.2.2.1, kids := x_10.2.2.2.2.2.2.2, blank := false }), oints (i.2.2.2.2.1 ++ zs)]) (cA s_qPut [srd x_4.1 (gSkip x_4.1.sg (xh x_4) x_4.2.2.2.2.2), .int .i64 (10 : Int), .str #[].toList, oints i.2.2.2.2.1] fun x_5 y => rA (s_qValS n) x [.int .i64 (gAddK (xh x_5)), srd x_5.1 (gAdd (xh x_5) { kind := x_5.2.2.2.2.2.1, text := x_5.2.2.2.2.2.2.1, kids := x_5.2.2.2.2.2.2.2, blank := false })]))) (fun x => by kernel_rfl) fun (x : ST × Int × Int × Bool × List Nd) (hx : vQ 11 (n + 1) x.1 (xg x)) => (by
  dsimp only [cA, eA, eN, i_qValS, ndA_e, oints, onds, rA, s_qIs, s_qMark, s_qPick, s_qPut, s_qText, s_qValS, s_qVals, s_qWants, sgA_e, sgs, srd, hndL, hnd1, mvL, lnL, mvE, lnE, sndL]
  obtain ⟨s, p, d, b, ns⟩ := x; dsimp only [xg, xh] at hx ⊢
  have hx : vQ 11 (n + 1) s ⟨p, d, b, ns⟩ := hx
  have h1 := hx.1.1.1; have h2 := hx.1.1.2; have h3 := hx.1.2; have hs := h1.1; dsimp only at h2 h3
  (repeat' first | (with_reducible first | rfl | exact True.intro | apply inR_i64 | apply And.intro | ((first | apply bcase_dec | apply bcase_bne | apply bcase_beq | apply bcase_not) <;> intro _)) | (apply bcase_intro <;> intro _) | apply sl_eq | refine ex_flip () ?_ ?_ | ((first | apply ex_flip10 | apply ex_flip9 | apply ex_flip8 | apply ex_flip7 | apply ex_flip6 | apply ex_flip5 | apply ex_flip4 | apply ex_flip3 | apply ex_flip2) <;> try dsimp only) | apply ex_flip | (refine Prod.forall.2 ?_; intro _; try dsimp only) | (intro _; try dsimp only))
  all_goals (try dsimp only [xg, xh, yG, yS, iG] at *)
  all_goals (try simp only [gs_eta] at *)
  all_goals first
    | (show Nat; skip)
    | rfl
    | assumption
    | exact ⟨vl_P h1 h2 h3, hx.2⟩
    | exact fn_4 h1 (by assumption)
    | exact vl_n h1 (by assumption) (by assumption)
    | exact vl_0 h1 h2 (by assumption) (by assumption)
    | exact vl_ok h1 (by assumption)
    | exact (vv_sk hs (by assumption)).1
    | exact (vv_sk hs (by assumption)).2.1
    | exact (vv_sk hs (by assumption)).2.2
    | exact vv_P hx (by assumption) (by assumption)
    | exact vq_rk hs (by assumption)
    | exact (vv_g hs (by assumption) (by assumption) (by assumption)).1
    | exact vl_e h1 (by assumption) (by assumption)
    | exact vl_eP h1 (by assumption) (by assumption)
    | omega
    | (simp; done)
    | (have hq := vl_ks hs (show vaJ _ _ _ _ _ _ by assumption); (try simp only [room, List.length_append, List.length_cons, List.length_nil]); omega)
    | skip
  all_goals first
    | exact (vv_g hs (by assumption) (by assumption) (by assumption)).2
    | skip)
theorem wQ_0 {r : Nat} {s : ST} {g : Gs} (hr : 1 ≤ r) (h : wQ r 0 s g) : False := wP_0 hr h.1
theorem vQ_0 {r : Nat} {s : ST} {g : Gs} (hr : 1 ≤ r) (h : vQ r 0 s g) : False := vP_0 hr h.1
theorem qAll_0 : qAll G 0 :=
  ⟨con_0 Tryz.func107 rfl (by decide) (fun x h => vQ_0 (by omega) h), con_0 Tryz.func142 rfl (by decide) (fun x h => vQ_0 (by omega) h),
   con_0 Tryz.func171 rfl (by decide) (fun x h => wQ_0 (by have := h.2; omega) h.1), con_0 Tryz.func185 rfl (by decide) (fun x h => wQ_0 (by omega) h), con_0 Tryz.func191 rfl (by decide) (fun x h => wQ_0 (by omega) h)⟩
theorem qAll_all (n : Nat) : qAll G n := by
  induction n with
  | zero => exact qAll_0
  | succ n ih => exact ⟨qValS_ok n ih, qPickS_ok n ih, qChS_ok n ih, qEndS_ok n ih, qBaseS_ok n ih⟩
def s_qV : Sig := { X := ST × Int × Int × Bool × List Nd, args := fun x => [srd x.1 (xg x)], pre := fun x => okD x.1 (xg x) ∧ sgM x.1.sg, Y := Int × Int × Int × Bool × List Nd, post := fun x y => nodP x.1.sg (xg x) (valR x.1.sg) (yS y), res := fun x y => .int .i64 y.1, outs := fun x y => [srd x.1 (yG y.2)], keep := true }
theorem qV_pre {s : ST} {g : Gs} (h : okD s g ∧ sgM s.sg) : vQ 11 peN s g := ⟨rV_pre h.1, h.2⟩
theorem qV_ok : Contract G Go.Proofs.Tryz.prog 107 s_qV :=
  have c := (qAll_all (G := G) peN).val
  ⟨⟨c.1.1, fun x y hx hy => c.1.2 x y (qV_pre hx) hy⟩, fun x hx => c.2 x (qV_pre hx)⟩
end Go.My
end
section
set_option linter.unusedVariables false
set_option linter.unusedSimpArgs false
namespace Go.My
open Go.Eng
def ndBl (e : Nd) (b : Bool) : Nd := ⟨e.kind, e.text, e.kids, b⟩
def setB (b : Bool) (p : Int × Ps) : Int × Ps := (p.1, ⟨p.2.pos, p.2.deep, p.2.nodes.set p.1.toNat (ndBl (ndAt p.2.nodes p.1) b)⟩)
def BL (f : Bool → Ps → PR) : Prop := ∀ b s, f b s = (f false s).map (setB b) ∧ ∀ p, f b s = some p → 1 ≤ p.2.nodes.length ∧ p.1 = (p.2.nodes.length : Int) - 1
theorem BL_put {k : Int} {t : List UInt8} {ks : List Int} : BL (fun b => putR ⟨k, t, ks, b⟩) := by
  intro b s
  by_cases h : 300 ≤ s.nodes.length
  · simp only [putR_ge h]; exact ⟨rfl, fun p hp => by cases hp⟩
  · simp only [putR_lt h]
    refine ⟨?_, fun p hp => by simp only [Option.some.injEq] at hp; subst hp; simp⟩
    simp only [Option.map_some, setB, Int.toNat_natCast]
    congr 3
    have e : ndAt (s.nodes ++ [⟨k, t, ks, false⟩]) (s.nodes.length : Int) = ⟨k, t, ks, false⟩ := ndAt_of (by simp)
    rw [e]
    simp [ndBl]
theorem BL_adv {f : Bool → Ps → PR} (h : BL f) : BL (fun b s => advR (f b s)) := by
  intro b s
  obtain ⟨h1, h2⟩ := h b s
  refine ⟨?_, fun p hp => ?_⟩
  · simp only [advR]; rw [h1]
    cases f false s with
    | none => rfl
    | some p => rfl
  · simp only [advR, Option.map_eq_some_iff] at hp
    obtain ⟨q, hq, rfl⟩ := hp
    exact h2 q hq
theorem BL_bind {α : Type} {h : Ps → Option (α × Ps)} {g : Bool → α → Ps → PR} (hg : ∀ a, BL (fun b => g b a)) : BL (fun b s => (h s).bind fun p => g b p.1 p.2) := by
  intro b s
  simp only
  cases h s with
  | none => exact ⟨rfl, fun p hp => by cases hp⟩
  | some p => exact hg p.1 b p.2
theorem BL_step {h : Ps → Option Ps} {g : Bool → Ps → PR} (hg : BL g) : BL (fun b s => (h s).bind fun p => g b p) := by
  intro b s
  simp only
  cases h s with
  | none => exact ⟨rfl, fun p hp => by cases hp⟩
  | some p => exact hg b p
theorem BL_if {c : Ps → Prop} [inst : ∀ s, Decidable (c s)] {f g : Bool → Ps → PR} (hf : BL f) (hg : BL g) : BL (fun b s => if c s then f b s else g b s) := by
  intro b s
  by_cases h : c s
  · simp only [if_pos h]; exact hf b s
  · simp only [if_neg h]; exact hg b s
theorem BL_none : BL (fun _ _ => none) := fun b s => ⟨rfl, fun p hp => by cases hp⟩
theorem BL_sh {f : Bool → Ps → PR} {a : Ps → Ps} (h : BL f) : BL (fun b s => f b (a s)) := fun b s => h b (a s)
theorem BL_at {f : Ps → Bool → Ps → PR} (h : ∀ q, BL (f q)) : BL (fun b s => f s b s) := fun b s => h s b s
theorem BL_leaf {sg : List Sg} {k : Int} : BL (leafR sg k) := fun b s => BL_adv (BL_put (k := k) (t := (sgO sg s.pos).text) (ks := [])) b s
theorem BL_close {sg : List Sg} {m : List UInt8} {k : Int} {t : List UInt8} {ks : List Int} : BL (fun b => closeR sg m ⟨k, t, ks, b⟩) := BL_if (c := fun s => isM sg s m = true) (BL_adv BL_put) BL_none
theorem BL_var {sg : List Sg} : BL (varR sg) :=
  BL_bind (h := nameT sg) (g := fun b t s => if isM sg s [61] then (valR sg (adv s)).bind fun q => closeR sg [59] ⟨12, t, [q.1], b⟩ q.2 else closeR sg [59] ⟨12, t, [], b⟩ s) (fun t =>
    BL_if (c := fun s => isM sg s [61] = true) (BL_bind (h := fun s => valR sg (adv s)) (g := fun b k s => closeR sg [59] ⟨12, t, [k], b⟩ s) (fun _ => BL_close)) BL_close)
theorem BL_ret {sg : List Sg} : BL (retR sg) :=
  BL_if (c := fun s => isM sg s [59] = true) BL_close (BL_bind (h := valR sg) (g := fun b k s => closeR sg [59] ⟨15, [], [k], b⟩ s) (fun _ => BL_close))
theorem BL_ifR {sg : List Sg} {n : Nat} : BL (ifR sg n) :=
  BL_bind (h := condR sg) (g := fun b c s => (blkR sg (stR sg n) s).bind fun q => if isW sg q.2 [101, 108, 115, 101] then (blkR sg (stR sg n) (adv q.2)).bind fun r => putR ⟨16, [], [c, q.1, r.1], b⟩ r.2 else putR ⟨16, [], [c, q.1], b⟩ q.2) (fun c =>
    BL_bind (h := blkR sg (stR sg n)) (g := fun b k s => if isW sg s [101, 108, 115, 101] then (blkR sg (stR sg n) (adv s)).bind fun r => putR ⟨16, [], [c, k, r.1], b⟩ r.2 else putR ⟨16, [], [c, k], b⟩ s) (fun k =>
      BL_if (c := fun s => isW sg s [101, 108, 115, 101] = true) (BL_bind (h := fun s => blkR sg (stR sg n) (adv s)) (g := fun b r s => putR ⟨16, [], [c, k, r], b⟩ s) (fun _ => BL_put)) BL_put))
theorem BL_wh {sg : List Sg} {n : Nat} : BL (whR sg n) :=
  BL_bind (h := condR sg) (g := fun b c s => (blkR sg (stR sg n) s).bind fun q => putR ⟨17, [], [c, q.1], b⟩ q.2) (fun c => BL_bind (h := blkR sg (stR sg n)) (g := fun b k s => putR ⟨17, [], [c, k], b⟩ s) (fun _ => BL_put))
theorem BL_do {sg : List Sg} : BL (doR sg) := BL_bind (h := valR sg) (g := fun b k s => closeR sg [59] ⟨14, [], [k], b⟩ s) (fun _ => BL_close)
theorem BL_st {sg : List Sg} : ∀ {n : Nat}, BL (stR sg n)
  | 0 => BL_none
  | n + 1 => by
    intro b s
    rw [st_eq, st_eq]
    exact BL_if (c := fun s => (sgO sg s.pos).kind = 5) BL_leaf (BL_if (c := fun s => isW sg s [118, 97, 114] = true) (BL_sh (a := adv) BL_var) (BL_if (c := fun s => isW sg s [114, 101, 116, 117, 114, 110] = true) (BL_sh (a := adv) BL_ret)
      (BL_if (c := fun s => isW sg s [105, 102] = true) (BL_sh (a := adv) BL_ifR) (BL_if (c := fun s => isW sg s [119, 104, 105, 108, 101] = true) (BL_sh (a := adv) BL_wh)
        (BL_if (c := fun s => (nmAt sg s.pos && isM sg (adv s) [61]) = true) (BL_at (f := fun q b s => (valR sg (adv (adv s))).bind fun p => closeR sg [59] ⟨13, (sgO sg q.pos).text, [p.1], b⟩ p.2) (fun q => BL_bind (h := fun s => valR sg (adv (adv s))) (g := fun b k s => closeR sg [59] ⟨13, (sgO sg q.pos).text, [k], b⟩ s) (fun _ => BL_close))) BL_do))))) b s
theorem BL_meth {sg : List Sg} : BL (methR sg) :=
  BL_bind (h := nameT sg) (g := fun b t s => (wantM sg [40] s).bind fun s1 => (listR sg (nameR sg) [41] (sg.length + 1) [] s1).bind fun q => (wantM sg [41] q.2).bind fun s2 => (blockR sg s2).bind fun r => putR ⟨20, t, q.1 ++ [r.1], b⟩ r.2) (fun t =>
    BL_step (h := wantM sg [40]) (g := fun b s1 => (listR sg (nameR sg) [41] (sg.length + 1) [] s1).bind fun q => (wantM sg [41] q.2).bind fun s2 => (blockR sg s2).bind fun r => putR ⟨20, t, q.1 ++ [r.1], b⟩ r.2)
      (BL_bind (h := listR sg (nameR sg) [41] (sg.length + 1) []) (g := fun b ks s => (wantM sg [41] s).bind fun s2 => (blockR sg s2).bind fun r => putR ⟨20, t, ks ++ [r.1], b⟩ r.2) (fun ks =>
        BL_step (h := wantM sg [41]) (g := fun b s2 => (blockR sg s2).bind fun r => putR ⟨20, t, ks ++ [r.1], b⟩ r.2) (BL_bind (h := blockR sg) (g := fun b k s => putR ⟨20, t, ks ++ [k], b⟩ s) (fun _ => BL_put)))))
theorem BL_mem0 {sg : List Sg} : BL (mem0R sg) := BL_if (c := fun s => (sgO sg s.pos).kind = 5) BL_leaf (BL_if (c := fun s => isW sg s [118, 97, 114] = true) (BL_sh (a := adv) BL_var) BL_meth)
theorem BL_cls {sg : List Sg} : BL (clsR sg) :=
  BL_bind (h := nameT sg) (g := fun b t s => (wantM sg [123] s).bind fun s1 => (manyR sg (mem0R sg) [125] (sg.length + 1) [] s1).bind fun q => closeR sg [125] ⟨21, t, q.1, b⟩ q.2) (fun t =>
    BL_step (h := wantM sg [123]) (g := fun b s1 => (manyR sg (mem0R sg) [125] (sg.length + 1) [] s1).bind fun q => closeR sg [125] ⟨21, t, q.1, b⟩ q.2)
      (BL_bind (h := manyR sg (mem0R sg) [125] (sg.length + 1) []) (g := fun b ks s => closeR sg [125] ⟨21, t, ks, b⟩ s) (fun _ => BL_close)))
theorem BL_mem {sg : List Sg} : BL (memR sg) := BL_if (c := fun s => (sgO sg s.pos).kind = 5) BL_leaf (BL_if (c := fun s => isW sg s [118, 97, 114] = true) (BL_sh (a := adv) BL_var) (BL_if (c := fun s => isW sg s [99, 108, 97, 115, 115] = true) (BL_sh (a := adv) BL_cls) BL_meth))
theorem nod_k0 {sg : List Sg} {x y : Gs} {f : Bool → Ps → PR} {k : Int} (hf : BL f) (h : nodP sg x (f false) (k, y)) (hb : y.bad = false) : 1 ≤ y.nodes.length ∧ k = (y.nodes.length : Int) - 1 := by
  obtain ⟨⟨a1, a2, a3, a4, a5⟩, _⟩ := h
  simp only at a4 a5
  rw [pur_f hb] at a4
  cases hp : (pur x).bind (f false) with
  | none => rw [hp] at a4; cases a4
  | some p =>
    rw [hp] at a4
    simp only [Option.map_some, Option.some.injEq] at a4
    have e := a5 p hp
    cases hs : pur x with
    | none => rw [hs] at hp; cases hp
    | some s =>
      rw [hs] at hp; simp only [Option.bind_some] at hp
      have := (hf false s).2 p hp
      rw [← a4] at this; simp only at this; rw [e]; exact this
theorem nod_bl {sg : List Sg} {x y : Gs} {f : Bool → Ps → PR} {k : Int} {b : Bool} (hf : BL f) (h : nodP sg x (f false) (k, y)) : nodP sg x (f b) (k, gBl y k b) := by
  have hk := nod_k0 hf h
  obtain ⟨⟨a1, a2, a3, a4, a5⟩, c⟩ := h
  simp only at a1 a2 a3 a4 a5 c
  have eb : (pur x).bind (f b) = ((pur x).bind (f false)).map (setB b) := by
    cases pur x with
    | none => rfl
    | some s => exact (hf b s).1
  cases hb : y.bad with
  | true =>
    have e : gBl y k b = y := by rw [gBl, if_neg (by simp [hb])]
    rw [e]
    rw [pur_t hb] at a4
    have hn : (pur x).bind (f false) = none := by
      cases hp : (pur x).bind (f false) with
      | none => rfl
      | some p => rw [hp] at a4; cases a4
    refine ⟨⟨a1, a2, a3, ?_, fun p hp => ?_⟩, c⟩
    · rw [eb, hn, pur_t hb]; rfl
    · rw [eb, hn] at hp; cases hp
  | false =>
    obtain ⟨k1, k2⟩ := hk hb
    have hlt : k < (y.nodes.length : Int) := by omega
    have e : gBl y k b = ⟨y.pos, y.deep, y.bad, y.nodes.set k.toNat (ndBl (ndAt y.nodes k) b)⟩ := by rw [gBl, if_pos ⟨hb, hlt⟩]; rfl
    rw [e]
    have hat : nodB (ndAt y.nodes k) := by
      have hkl : k.toNat < y.nodes.length := by omega
      have := a1.2.2.2 (y.nodes[k.toNat]) (List.getElem_mem hkl)
      rw [ndAt_of (List.getElem?_eq_getElem hkl)]; exact this
    refine ⟨⟨⟨a1.1, a1.2.1, by simpa using a1.2.2.1, fun w hw => ?_⟩, a2, a3, ?_, fun p hp => ?_⟩, c⟩
    · rcases List.mem_or_eq_of_mem_set hw with hw | hw
      · exact a1.2.2.2 w hw
      · subst hw; exact hat
    · rw [eb]
      rw [pur_f hb] at a4
      cases hp : (pur x).bind (f false) with
      | none => rw [hp] at a4; cases a4
      | some p =>
        rw [hp] at a4
        simp only [Option.map_some, Option.some.injEq] at a4 ⊢
        have := a5 p hp
        rw [pur_f (by exact hb)]
        simp only [setB, ← a4, this]
    · rw [eb, Option.map_eq_some_iff] at hp
      obtain ⟨q, hq, rfl⟩ := hp
      exact a5 q hq
theorem nod_bk {sg : List Sg} {x y : Gs} {f : Bool → Ps → PR} {k : Int} (hf : BL f) (h : nodP sg x (f false) (k, y)) : y.bad = false → 0 ≤ k := fun hb => by have := nod_k0 hf h hb; omega
theorem blG_pk {sg : List Sg} {y : Gs} (hb : y.bad = false) : blG sg y = (pkG sg y 0).blank := by
  rw [blG, pkG]
  by_cases h : y.pos < sg.length
  · rw [if_neg (by simp [hb]; omega)]; simp [h]
  · rw [if_pos (.inr (by omega))]; simp [h, sg00]
theorem pk_in {sg : List Sg} {x : Gs} {one : Bool → Ps → PR} (h : gsOk sg x) (hd : x.deep ≤ 20) : restP sg x (blkR sg one) (pkX (gTake sg x [123]))
    (fun s1 => (manyR sg one [125] (sg.length + 1) [] s1).bind fun p => (closeR sg [125] ⟨18, [], p.1, false⟩ p.2).map fun q => (q.1, dp q.2 (-1))) 1 := by
  have t := tk_b (m := [123]) h
  have a := blk_in (one := one) h hd
  have t1 := t.1; have t2 := t.2.1
  by_cases h20 : x.deep = 20
  · rw [if_pos h20] at a
    have e : pkX (gTake sg x [123]) = gDp (gBad (gTake sg x [123])) 1 := by rw [pkX, if_pos (by omega)]
    have e2 : gTake sg (gDp (gBad x) 1) [123] = gDp (gBad x) 1 := take_b rfl
    rw [e2] at a
    rw [e]
    refine rest_alt a ⟨t1.1, by simp only [gDp, gBad]; omega, t1.2.2⟩ (by simp only [gDp, gBad]; omega) (by simp only [gDp, gBad]; omega) rfl
  · rw [if_neg h20] at a
    have e : pkX (gTake sg x [123]) = gDp (gTake sg x [123]) 1 := by rw [pkX, if_neg (by omega)]
    rw [e]
    have e2 : gTake sg (gDp x 1) [123] = gDp (gTake sg x [123]) 1 := by
      have : isG sg (gDp x 1) 4 [123] = isG sg x 4 [123] := rfl
      cases hq : isG sg x 4 [123] with
      | true => rw [take_y hq, take_y (by rw [this]; exact hq)]; rfl
      | false => rw [take_n hq, take_n (by rw [this]; exact hq)]; rfl
    rw [e2] at a; exact a
theorem dp_add {g : Gs} {d : Int} {w : Nd} : gAdd (gDp g d) w = gDp (gAdd g w) d ∧ gAddK (gDp g d) = gAddK g := by
  have hf : gFull (gDp g d) = gFull g := rfl
  unfold gAdd gAddK
  rw [hf]
  cases gFull g <;> exact ⟨rfl, rfl⟩
theorem blk_q {sg : List Sg} {one : Bool → Ps → PR} {x : Gs} {l : List Int × Gs} (h : gsOk sg x) (hd : x.deep ≤ 20) (hl : resP sg (pkX (gTake sg x [123])) (manyR sg one [125] (sg.length + 1) []) l) (hll : l.1.length ≤ 3001) :
    nodP sg x (blkR sg one) (gAddK (gDp (gTake sg l.2 [125]) (-1)), gAdd (gDp (gTake sg l.2 [125]) (-1)) ⟨18, [], l.1, false⟩) := by
  have k1 := rest_res (k := fun ks s => (closeR sg [125] ⟨18, [], ks, false⟩ s).map fun q => (q.1, dp q.2 (-1))) (pk_in h hd) hl (fun _ _ => rfl)
  have hw : nodB ⟨18, [], l.1, false⟩ := ⟨by simp, by simp only; omega⟩
  have hc := nod_cl k1.1 hw (close_nod (m := [125]) k1.1 hw)
  have k2 := rest_res (k := fun k s => some (k, dp s (-1))) k1 hc.1 (fun s _ => by cases closeR sg [125] ⟨18, [], l.1, false⟩ s <;> rfl)
  simp only at k2
  rw [(dp_add (w := ⟨18, [], l.1, false⟩)).1, (dp_add (w := ⟨18, [], l.1, false⟩)).2]
  refine ⟨rest_done (rest_dp (e := -1) k2 ?_ (fun s hs => rfl)), fun hb => ?_⟩
  · have := k2.2.1; have := h.2.1; omega
  · have := hc.2 hb
    have := k1.2.2.1
    simp only [gDp] at *; omega
end Go.My
end
