/- A part of the proof: the engine and the contracts, joined. -/
import Derived.Test.YtlmpaancffikiaaGreatDoorQK
import Derived.ProofKit
import Derived.Test.YtlmpaancffikiaaGreatDoorProg
section
set_option linter.unusedVariables false
set_option linter.unusedSimpArgs false
namespace Go.My
open Go.Eng Go.Proofs
variable {G : GInv}
def eqF {α : Type} (p : α → α → Bool) : List α → List α → Bool
  | [], [] => true
  | x :: a, y :: b => p x y && eqF p a b
  | _, _ => false
theorem eqF_len {α : Type} {p : α → α → Bool} : ∀ {a b : List α}, a.length ≠ b.length → eqF p a b = false
  | [], [], h => (h rfl).elim
  | [], _ :: _, _ => rfl
  | _ :: _, [], _ => rfl
  | x :: a, y :: b, h => by
    rw [eqF, eqF_len (a := a) (b := b) (fun e => h (by simp [e]))]; simp
def eqW {α : Type} (p : α → α → Bool) (a b : List α) (i : Int) : Prop := ((0 ≤ i ∧ i ≤ a.length) ∧ a.length = b.length) ∧ eqF p a b = eqF p (a.drop i.toNat) (b.drop i.toNat)
theorem eqW_0 {α : Type} {p : α → α → Bool} {a b : List α} (h : (a.length : Int) = b.length) : eqW p a b 0 := ⟨⟨by omega, by omega⟩, rfl⟩
theorem eqW_b {α : Type} {p : α → α → Bool} {a b : List α} {i : Int} (h : eqW p a b i) : (0 ≤ i ∧ i ≤ a.length) ∧ a.length = b.length := h.1
theorem eqW_at {α : Type} {p : α → α → Bool} {a b : List α} {i : Int} {x y : α} (h : eqW p a b i) (hx : a[i.toNat]? = some x) (hy : b[i.toNat]? = some y) : eqF p a b = (p x y && eqF p (a.drop (i + 1).toNat) (b.drop (i + 1).toNat)) := by
  have h1 := (List.getElem?_eq_some_iff.1 hx).1; have h2 := (List.getElem?_eq_some_iff.1 hy).1
  rw [h.2, List.drop_eq_getElem_cons h1, (List.getElem?_eq_some_iff.1 hx).2, List.drop_eq_getElem_cons h2, (List.getElem?_eq_some_iff.1 hy).2, eqF, show (i + 1).toNat = i.toNat + 1 by have := h.1.1.1; omega]
theorem eqW_y {α : Type} {p : α → α → Bool} {a b : List α} {i : Int} {x y : α} (h : eqW p a b i) (hx : a[i.toNat]? = some x) (hy : b[i.toNat]? = some y) (hp : p x y = true) : eqW p a b (i + 1) := by
  have h1 := (List.getElem?_eq_some_iff.1 hx).1
  refine ⟨⟨by have := h.1.1; omega, h.1.2⟩, ?_⟩
  rw [eqW_at h hx hy, hp]; simp
theorem eqW_n {α : Type} {p : α → α → Bool} {a b : List α} {i : Int} {x y : α} (h : eqW p a b i) (hx : a[i.toNat]? = some x) (hy : b[i.toNat]? = some y) (hp : p x y = false) : false = eqF p a b := by rw [eqW_at h hx hy, hp]; rfl
theorem eqW_e {α : Type} {p : α → α → Bool} {a b : List α} {i : Int} (h : eqW p a b i) (hi : ¬ i < a.length) : true = eqF p a b := by
  have := h.1
  rw [h.2, List.drop_eq_nil_of_le (by omega), List.drop_eq_nil_of_le (by omega)]; rfl
theorem eqF_n {α : Type} {p : α → α → Bool} {a b : List α} (h : (a.length : Int) ≠ b.length) : false = eqF p a b := (eqF_len (by omega)).symm
def iEq (a b : Int) : Bool := decide (a = b)
def tEq (a b : List UInt8) : Bool := a == b
def ndEq (x y : Nd) : Bool := decide (x.kind = y.kind) && ((x.text == y.text) && ((x.blank == y.blank) && eqF iEq x.kids y.kids))
def sgEq (x y : Sg) : Bool := decide (x.kind = y.kind) && (x.text == y.text)
theorem nd_at {a : List Nd} {i : Int} (h0 : 0 ≤ i) (h : i < a.length) : a[i.toNat]? = some (ndAt a i) := by
  have hlt : i.toNat < a.length := by omega
  rw [ndAt_of (List.getElem?_eq_getElem hlt)]; exact List.getElem?_eq_getElem hlt
theorem eqW_k {a : List Nd} {b : List Int} {i j : Int} (h1 : okNds a) (h : eqW iEq (ndAt a i).kids b j) : ((0 ≤ j ∧ j ≤ (ndAt a i).kids.length) ∧ (ndAt a i).kids.length = b.length) ∧ (ndAt a i).kids.length < 2 ^ 62 := ⟨h.1, (okNds_ndAt h1).2⟩
theorem eqW_nA {a b : List Nd} {i : Int} (h : eqW ndEq a b i) (hi : i < a.length) (hp : ndEq (ndAt a i) (ndAt b i) = false) : false = eqF ndEq a b := eqW_n h (nd_at h.1.1.1 hi) (nd_at h.1.1.1 (by have := h.1.2; omega)) hp
theorem eqW_yA {a b : List Nd} {i : Int} (h : eqW ndEq a b i) (hi : i < a.length) (h1 : (ndAt a i).kind = (ndAt b i).kind) (h2 : ((ndAt a i).text == (ndAt b i).text) = true) (h3 : ((ndAt a i).blank == (ndAt b i).blank) = true) (h4 : eqF iEq (ndAt a i).kids (ndAt b i).kids = true) : eqW ndEq a b (i + 1) :=
  eqW_y h (nd_at h.1.1.1 hi) (nd_at h.1.1.1 (by have := h.1.2; omega)) (by simp [ndEq, h1, h2, h3, h4])
theorem ndEq_k {x y : Nd} (h : (x.kids.length : Int) ≠ y.kids.length ∨ eqF iEq x.kids y.kids = false) : ndEq x y = false := by
  have : eqF iEq x.kids y.kids = false := by
    rcases h with h | h
    · exact eqF_len (by omega)
    · exact h
  simp [ndEq, this]
theorem iEq_y {a b : Int} (h : a = b) : iEq a b = true := by simp [iEq, h]
theorem iEq_n {a b : Int} (h : a ≠ b) : iEq a b = false := by simp [iEq, h]
theorem tEq_y {a b : List UInt8} (h : (a == b) = true) : tEq a b = true := h
theorem tEq_n {a b : List UInt8} (h : (a == b) = false) : tEq a b = false := h
def lSameK (x : List Nd × List Nd) (i : Int) : LS := {
  ι := Int, inv := fun j => eqW iEq (ndAt x.1 i).kids (ndAt x.2 i).kids j, regs := fun j => [(0, nds x.1), (1, nds x.2), (5, .int .i64 i), (6, .int .i64 j)], als := [], meas := fun j => (ndAt x.1 i).kids.length - j.toNat }
def lSame (x : List Nd × List Nd) : LS := {
  ι := Int, inv := fun i => eqW ndEq x.1 x.2 i, regs := fun i => [(0, nds x.1), (1, nds x.2), (5, .int .i64 i)], als := [], meas := fun i => x.1.length - i.toNat,
  sub := fun i => [(9, lSameK x i)] }
attribute [local irreducible] eqW
def s_eqInt  : Sig := { X := List Int × List Int, args := fun x => [.sl false 0 1 Int intA x.1, .sl false 0 1 Int intA x.2], pre := fun x => x.1.length < 2 ^ 62 ∧ x.2.length < 2 ^ 62, Y := Unit, post := fun x y => True, res := fun x y => .bool (eqF iEq x.1 x.2), outs := fun x y => [.top, .top], keep := false }
def i_eqInt  (x : List Int × List Int) : LS := { ι := Int, inv := fun i => eqW iEq x.1 x.2 i, regs := fun i => [(0, .sl false 0 1 Int intA x.1), (1, .sl false 0 1 Int intA x.2), (11, .sl false 0 1 Int intA x.1), (12, .int .i64 x.1.length), (13, .int .i64 i)], als := [], meas := fun i => x.1.length - i.toNat }
theorem eqInt_ok  : Contract G Tryz.prog 49 s_eqInt :=
  vcFun_okP [] [] false (fun x => [(4, i_eqInt  x)]) Tryz.func49 rfl (by decide) trivial (fun (x : List Int × List Int) => (∀ (y : Unit), True → True ∧ True ∧ True ∧ True) ∧ bcase ((↑(List.length x.1) : Int) != (↑(List.length x.2) : Int)) (rA s_eqInt x [.bool false, .top, .top]) (eA (i_eqInt x) [ints x.1, ints x.2, ints x.1, .int .i64 (↑(List.length x.1) : Int), .int .i64 (0 : Int)] ∧ ∀ (i : Int), eqW iEq x.1 x.2 i → bcase (decide (i < (↑(List.length x.1) : Int))) (true = true ∧ true = true ∧ ((0 : Int) ≤ i ∧ i < (↑(List.length x.1) : Int)) ∧ ∀ (e : Int), x.1[Int.toNat i]? = some e → ((0 : Int) ≤ i ∧ i < (↑(List.length x.2) : Int)) ∧ ∀ (e_1 : Int), x.2[Int.toNat i]? = some e_1 → bcase (e != e_1) (rA s_eqInt x [.bool false, .top, .top]) (inR IntKind.i64 (i + (1 : Int)) ∧ eN (i_eqInt x) i [ints x.1, ints x.2, ints x.1, .int .i64 (↑(List.length x.1) : Int), .int .i64 (i + (1 : Int))])) (rA s_eqInt x [.bool true, .top, .top]))) (fun x => by kernel_rfl) fun (x : List Int × List Int) (hx : x.1.length < 2 ^ 62 ∧ x.2.length < 2 ^ 62) => (by
  dsimp only [eA, eN, i_eqInt, ints, rA, s_eqInt, hndL, hnd1, sndL]
  obtain ⟨h1, h2⟩ := hx
  (repeat' first | (with_reducible first | rfl | exact True.intro | apply inR_i64 | apply And.intro | ((first | apply bcase_dec | apply bcase_bne | apply bcase_beq | apply bcase_not) <;> intro _)) | (apply bcase_intro <;> intro _) | apply sl_eq | refine ex_flip () ?_ ?_ | ((first | apply ex_flip10 | apply ex_flip9 | apply ex_flip8 | apply ex_flip7 | apply ex_flip6 | apply ex_flip5 | apply ex_flip4 | apply ex_flip3 | apply ex_flip2) <;> try dsimp only) | apply ex_flip | (refine Prod.forall.2 ?_; intro _; try dsimp only) | (intro _; try dsimp only))
  all_goals first
    | rfl
    | exact eqW_0 (by assumption)
    | exact eqW_0 (by omega)
    | exact eqW_y (by assumption) (by assumption) (by assumption) (iEq_y (by assumption))
    | exact eqW_n (by assumption) (by assumption) (by assumption) (iEq_n (by assumption))
    | exact eqW_e (by assumption) (by assumption)
    | exact eqF_n (by assumption)
    | omega
    | (have hq := eqW_b (show eqW _ _ _ _ by assumption); (try simp only [i64max]); omega)
    | skip)
def s_eqStr  : Sig := { X := List (List UInt8) × List (List UInt8), args := fun x => [.sl false 0 1 (List UInt8) strA x.1, .sl false 0 1 (List UInt8) strA x.2], pre := fun x => x.1.length < 2 ^ 62 ∧ x.2.length < 2 ^ 62, Y := Unit, post := fun x y => True, res := fun x y => .bool (eqF tEq x.1 x.2), outs := fun x y => [.top, .top], keep := false }
def i_eqStr  (x : List (List UInt8) × List (List UInt8)) : LS := { ι := Int, inv := fun i => eqW tEq x.1 x.2 i, regs := fun i => [(0, .sl false 0 1 (List UInt8) strA x.1), (1, .sl false 0 1 (List UInt8) strA x.2), (11, .sl false 0 1 (List UInt8) strA x.1), (12, .int .i64 x.1.length), (13, .int .i64 i)], als := [], meas := fun i => x.1.length - i.toNat }
theorem eqStr_ok  : Contract G Tryz.prog 26 s_eqStr :=
  vcFun_okP [] [] false (fun x => [(4, i_eqStr  x)]) Tryz.func26 rfl (by decide) trivial (fun (x : List (List UInt8) × List (List UInt8)) => (∀ (y : Unit), True → True ∧ True ∧ True ∧ True) ∧ bcase ((↑(List.length x.1) : Int) != (↑(List.length x.2) : Int)) (rA s_eqStr x [.bool false, .top, .top]) (eA (i_eqStr x) [AV.sl false (0 : Nat) (1 : Nat) (List UInt8) strA x.1, AV.sl false (0 : Nat) (1 : Nat) (List UInt8) strA x.2, AV.sl false (0 : Nat) (1 : Nat) (List UInt8) strA x.1, .int .i64 (↑(List.length x.1) : Int), .int .i64 (0 : Int)] ∧ ∀ (i : Int), eqW tEq x.1 x.2 i → bcase (decide (i < (↑(List.length x.1) : Int))) (true = true ∧ true = true ∧ ((0 : Int) ≤ i ∧ i < (↑(List.length x.1) : Int)) ∧ ∀ (e : List UInt8), x.1[Int.toNat i]? = some e → ((0 : Int) ≤ i ∧ i < (↑(List.length x.2) : Int)) ∧ ∀ (e_1 : List UInt8), x.2[Int.toNat i]? = some e_1 → bcase (!e == e_1) (rA s_eqStr x [.bool false, .top, .top]) (inR IntKind.i64 (i + (1 : Int)) ∧ eN (i_eqStr x) i [AV.sl false (0 : Nat) (1 : Nat) (List UInt8) strA x.1, AV.sl false (0 : Nat) (1 : Nat) (List UInt8) strA x.2, AV.sl false (0 : Nat) (1 : Nat) (List UInt8) strA x.1, .int .i64 (↑(List.length x.1) : Int), .int .i64 (i + (1 : Int))])) (rA s_eqStr x [.bool true, .top, .top]))) (fun x => by kernel_rfl) fun (x : List (List UInt8) × List (List UInt8)) (hx : x.1.length < 2 ^ 62 ∧ x.2.length < 2 ^ 62) => (by
  dsimp only [eA, eN, i_eqStr, rA, s_eqStr, hndL, hnd1, sndL]
  obtain ⟨h1, h2⟩ := hx
  (repeat' first | (with_reducible first | rfl | exact True.intro | apply inR_i64 | apply And.intro | ((first | apply bcase_dec | apply bcase_bne | apply bcase_beq | apply bcase_not) <;> intro _)) | (apply bcase_intro <;> intro _) | apply sl_eq | refine ex_flip () ?_ ?_ | ((first | apply ex_flip10 | apply ex_flip9 | apply ex_flip8 | apply ex_flip7 | apply ex_flip6 | apply ex_flip5 | apply ex_flip4 | apply ex_flip3 | apply ex_flip2) <;> try dsimp only) | apply ex_flip | (refine Prod.forall.2 ?_; intro _; try dsimp only) | (intro _; try dsimp only))
  all_goals first
    | rfl
    | exact eqW_0 (by assumption)
    | exact eqW_0 (by omega)
    | exact eqW_y (by assumption) (by assumption) (by assumption) (tEq_y (by assumption))
    | exact eqW_n (by assumption) (by assumption) (by assumption) (tEq_n (by assumption))
    | exact eqW_e (by assumption) (by assumption)
    | exact eqF_n (by assumption)
    | omega
    | (have hq := eqW_b (show eqW _ _ _ _ by assumption); (try simp only [i64max]); omega)
    | skip)
def s_sNotes16  : Sig := { X := List (List UInt8) × List (List UInt8), args := fun x => [.sl false 0 1 (List UInt8) strA x.1, .sl false 0 1 (List UInt8) strA x.2], pre := fun x => x.1.length < 2 ^ 62 ∧ x.2.length < 2 ^ 62, Y := Unit, post := fun x y => True, res := fun x y => .bool (eqF tEq x.1 x.2), outs := fun x y => [.top, .top], keep := false }
def i_sNotes16  (x : List (List UInt8) × List (List UInt8)) : LS := { ι := Int, inv := fun i => eqW tEq x.1 x.2 i, regs := fun i => [(0, .sl false 0 1 (List UInt8) strA x.1), (1, .sl false 0 1 (List UInt8) strA x.2), (5, .int .i64 i)], als := [], meas := fun i => x.1.length - i.toNat }
theorem sNotes16_ok  : Contract G Tryz.prog 20 s_sNotes16 :=
  vcFun_okP [] [] false (fun x => [(4, i_sNotes16  x)]) Tryz.func20 rfl (by decide) trivial (fun (x : List (List UInt8) × List (List UInt8)) => (∀ (y : Unit), True → True ∧ True ∧ True ∧ True) ∧ bcase ((↑(List.length x.1) : Int) != (↑(List.length x.2) : Int)) (rA s_sNotes16 x [.bool false, .top, .top]) (eA (i_sNotes16 x) [AV.sl false (0 : Nat) (1 : Nat) (List UInt8) strA x.1, AV.sl false (0 : Nat) (1 : Nat) (List UInt8) strA x.2, .int .i64 (0 : Int)] ∧ ∀ (i : Int), eqW tEq x.1 x.2 i → bcase (decide (i < (↑(List.length x.1) : Int))) (true = true ∧ true = true ∧ ((0 : Int) ≤ i ∧ i < (↑(List.length x.1) : Int)) ∧ ∀ (e : List UInt8), x.1[Int.toNat i]? = some e → ((0 : Int) ≤ i ∧ i < (↑(List.length x.2) : Int)) ∧ ∀ (e_1 : List UInt8), x.2[Int.toNat i]? = some e_1 → bcase (!e == e_1) (rA s_sNotes16 x [.bool false, .top, .top]) (inR IntKind.i64 (i + (1 : Int)) ∧ eN (i_sNotes16 x) i [AV.sl false (0 : Nat) (1 : Nat) (List UInt8) strA x.1, AV.sl false (0 : Nat) (1 : Nat) (List UInt8) strA x.2, .int .i64 (i + (1 : Int))])) (rA s_sNotes16 x [.bool true, .top, .top]))) (fun x => by kernel_rfl) fun (x : List (List UInt8) × List (List UInt8)) (hx : x.1.length < 2 ^ 62 ∧ x.2.length < 2 ^ 62) => (by
  dsimp only [eA, eN, i_sNotes16, rA, s_sNotes16, hndL, hnd1, sndL]
  obtain ⟨h1, h2⟩ := hx
  (repeat' first | (with_reducible first | rfl | exact True.intro | apply inR_i64 | apply And.intro | ((first | apply bcase_dec | apply bcase_bne | apply bcase_beq | apply bcase_not) <;> intro _)) | (apply bcase_intro <;> intro _) | apply sl_eq | refine ex_flip () ?_ ?_ | ((first | apply ex_flip10 | apply ex_flip9 | apply ex_flip8 | apply ex_flip7 | apply ex_flip6 | apply ex_flip5 | apply ex_flip4 | apply ex_flip3 | apply ex_flip2) <;> try dsimp only) | apply ex_flip | (refine Prod.forall.2 ?_; intro _; try dsimp only) | (intro _; try dsimp only))
  all_goals first
    | rfl
    | exact eqW_0 (by assumption)
    | exact eqW_0 (by omega)
    | exact eqW_y (by assumption) (by assumption) (by assumption) (tEq_y (by assumption))
    | exact eqW_n (by assumption) (by assumption) (by assumption) (tEq_n (by assumption))
    | exact eqW_e (by assumption) (by assumption)
    | exact eqF_n (by assumption)
    | omega
    | (have hq := eqW_b (show eqW _ _ _ _ by assumption); (try simp only [i64max]); omega)
    | skip)
def s_st1  : Sig := { X := Nd × Nd, args := fun x => [.agg (ndA false x.1), .agg (ndA false x.2)], pre := fun x => okNd x.1 ∧ okNd x.2, Y := Unit, post := fun x y => True, res := fun x y => .bool (ndEq x.1 x.2), outs := fun x y => [.top, .top], keep := false }
theorem st1_ok  : Contract G Tryz.prog 48 s_st1 :=
  vcFun_okP [(49, 0, s_eqInt)] [] false (fun x => []) Tryz.func48 rfl (by decide) ⟨eqInt_ok, trivial⟩ (fun (x : Nd × Nd) => (∀ (y : Unit), True → True ∧ True ∧ True ∧ True) ∧ bcase (x.1.kind == x.2.kind) (bcase (x.1.text == x.2.text) (bcase (x.1.blank == x.2.blank) (cA s_eqInt [ints x.1.kids, ints x.2.kids] fun x_1 y => rA s_st1 x [.bool (eqF iEq x_1.1 x_1.2), .top, .top]) (rA s_st1 x [.bool false, .top, .top])) (rA s_st1 x [.bool false, .top, .top])) (rA s_st1 x [.bool false, .top, .top])) (fun x => by kernel_rfl) fun (x : Nd × Nd) (hx : okNd x.1 ∧ okNd x.2) => (by
  dsimp only [cA, ints, ndA_e, rA, s_eqInt, s_st1, hndL, hnd1, mvL, lnL, mvE, lnE]
  obtain ⟨h1, h2⟩ := hx
  (repeat' first | (with_reducible first | rfl | exact True.intro | apply inR_i64 | apply And.intro | ((first | apply bcase_dec | apply bcase_bne | apply bcase_beq | apply bcase_not) <;> intro _)) | (apply bcase_intro <;> intro _) | apply sl_eq | refine ex_flip () ?_ ?_ | ((first | apply ex_flip10 | apply ex_flip9 | apply ex_flip8 | apply ex_flip7 | apply ex_flip6 | apply ex_flip5 | apply ex_flip4 | apply ex_flip3 | apply ex_flip2) <;> try dsimp only) | apply ex_flip | (refine Prod.forall.2 ?_; intro _; try dsimp only) | (intro _; try dsimp only))
  all_goals first
    | rfl
    | exact h1.2
    | exact h2.2
    | (simp [ndEq, *]; done)
    | skip)
def s_ss1  : Sig := { X := Sg × Sg, args := fun x => [.agg (sgA x.1), .agg (sgA x.2)], pre := fun x => True, Y := Unit, post := fun x y => True, res := fun x y => .bool (sgEq x.1 x.2), outs := fun x y => [.top, .top], keep := false }
theorem ss1_ok  : Contract G Tryz.prog 93 s_ss1 :=
  vcFun_okP [] [] false (fun x => []) Tryz.func93 rfl (by decide) trivial (fun (x : Sg × Sg) => (∀ (y : Unit), True → True ∧ True ∧ True ∧ True) ∧ bcase (x.1.kind == x.2.kind) (rA s_ss1 x [.bool (x.1.text == x.2.text), .top, .top]) (rA s_ss1 x [.bool false, .top, .top])) (fun x => by kernel_rfl) fun (x : Sg × Sg) (hx : True) => (by
  dsimp only [rA, s_ss1, sgA_e, hndL, hnd1]
  (repeat' first | (with_reducible first | rfl | exact True.intro | apply inR_i64 | apply And.intro | ((first | apply bcase_dec | apply bcase_bne | apply bcase_beq | apply bcase_not) <;> intro _)) | (apply bcase_intro <;> intro _) | apply sl_eq | refine ex_flip () ?_ ?_ | ((first | apply ex_flip10 | apply ex_flip9 | apply ex_flip8 | apply ex_flip7 | apply ex_flip6 | apply ex_flip5 | apply ex_flip4 | apply ex_flip3 | apply ex_flip2) <;> try dsimp only) | apply ex_flip | (refine Prod.forall.2 ?_; intro _; try dsimp only) | (intro _; try dsimp only))
  all_goals first
    | rfl
    | (simp [sgEq, *]; done)
    | skip)
def s_eqNd  : Sig := { X := List Nd × List Nd, args := fun x => [nds x.1, nds x.2, .clo (.func 48) []], pre := fun x => okNds x.1 ∧ okNds x.2, Y := Unit, post := fun x y => True, res := fun x y => .bool (eqF ndEq x.1 x.2), outs := fun x y => [.top, .top, .top], keep := false }
def i_eqNd  (x : List Nd × List Nd) : LS := { ι := Int, inv := fun i => eqW ndEq x.1 x.2 i, regs := fun i => [(0, nds x.1), (1, nds x.2), (2, .clo (.func 48) []), (15, nds x.1), (16, .int .i64 x.1.length), (17, .int .i64 i)], als := [], meas := fun i => x.1.length - i.toNat }
set_option maxRecDepth 100000 in
theorem eqNd_ok  : Contract G Tryz.prog 47 s_eqNd :=
  vcFun_okP [(48, 0, s_st1)] [] false (fun x => [(4, i_eqNd  x)]) Tryz.func47 rfl (by decide) ⟨st1_ok, trivial⟩ (fun (x : List Nd × List Nd) => (∀ (y : Unit), True → True ∧ True ∧ True ∧ True ∧ True) ∧ bcase ((↑(List.length x.1) : Int) != (↑(List.length x.2) : Int)) (rA s_eqNd x [.bool false, .top, .top, .top]) (eA (i_eqNd x) [nds x.1, nds x.2, AV.clo (.func 48) [], nds x.1, .int .i64 (↑(List.length x.1) : Int), .int .i64 (0 : Int)] ∧ ∀ (i : Int), eqW ndEq x.1 x.2 i → bcase (decide (i < (↑(List.length x.1) : Int))) (((0 : Int) ≤ i ∧ i < (↑(List.length x.1) : Int)) ∧ ∀ (e : Nd), x.1[Int.toNat i]? = some e → ((0 : Int) ≤ i ∧ i < (↑(List.length x.2) : Int)) ∧ ∀ (e_1 : Nd), x.2[Int.toNat i]? = some e_1 → cA s_st1 [.agg [.int .i64 e.kind, .str e.text, ints e.kids, .bool e.blank], .agg [.int .i64 e_1.kind, .str e_1.text, ints e_1.kids, .bool e_1.blank]] fun x_1 y => bcase (!ndEq x_1.1 x_1.2) (rA s_eqNd x [.bool false, .top, .top, .top]) (inR IntKind.i64 (i + (1 : Int)) ∧ eN (i_eqNd x) i [nds x.1, nds x.2, AV.clo (.func 48) [], nds x.1, .int .i64 (↑(List.length x.1) : Int), .int .i64 (i + (1 : Int))])) (rA s_eqNd x [.bool true, .top, .top, .top]))) (fun x => by kernel_rfl) fun (x : List Nd × List Nd) (hx : okNds x.1 ∧ okNds x.2) => (by
  dsimp only [cA, eA, eN, i_eqNd, ints, ndA_e, nds, rA, s_eqNd, s_st1, hndL, hnd1, mvL, lnL, mvE, lnE, sndL]
  obtain ⟨h1, h2⟩ := hx
  have hl1 := h1.1; have hl2 := h2.1
  (repeat' first | (with_reducible first | rfl | exact True.intro | apply inR_i64 | apply And.intro | ((first | apply bcase_dec | apply bcase_bne | apply bcase_beq | apply bcase_not) <;> intro _)) | (apply bcase_intro <;> intro _) | apply sl_eq | refine ex_flip () ?_ ?_ | ((first | apply ex_flip10 | apply ex_flip9 | apply ex_flip8 | apply ex_flip7 | apply ex_flip6 | apply ex_flip5 | apply ex_flip4 | apply ex_flip3 | apply ex_flip2) <;> try dsimp only) | apply ex_flip | (refine Prod.forall.2 ?_; intro _; try dsimp only) | (intro _; try dsimp only))
  all_goals first
    | rfl
    | (show _ ≤ _; have hq := eqW_b (show eqW _ _ _ _ by assumption); (try simp only [i64max]); omega)
    | (show okNd _; exact okNds_at (by assumption) h1)
    | (show okNd _; exact okNds_at (by assumption) h2)
    | exact eqW_0 (by assumption)
    | exact eqW_0 (by omega)
    | exact eqW_y (by assumption) (by assumption) (by assumption) (by assumption)
    | exact eqW_n (by assumption) (by assumption) (by assumption) (by assumption)
    | exact eqW_e (by assumption) (by assumption)
    | exact eqF_n (by assumption)
    | omega
    | (have hq := eqW_b (show eqW _ _ _ _ by assumption); (try simp only [i64max]); omega)
    | skip)
def s_eqSg  : Sig := { X := List Sg × List Sg, args := fun x => [sgs x.1, sgs x.2, .clo (.func 93) []], pre := fun x => x.1.length < 2 ^ 62 ∧ x.2.length < 2 ^ 62, Y := Unit, post := fun x y => True, res := fun x y => .bool (eqF sgEq x.1 x.2), outs := fun x y => [.top, .top, .top], keep := false }
def i_eqSg  (x : List Sg × List Sg) : LS := { ι := Int, inv := fun i => eqW sgEq x.1 x.2 i, regs := fun i => [(0, sgs x.1), (1, sgs x.2), (2, .clo (.func 93) []), (15, sgs x.1), (16, .int .i64 x.1.length), (17, .int .i64 i)], als := [], meas := fun i => x.1.length - i.toNat }
set_option maxRecDepth 100000 in
theorem eqSg_ok  : Contract G Tryz.prog 92 s_eqSg :=
  vcFun_okP [(93, 0, s_ss1)] [] false (fun x => [(4, i_eqSg  x)]) Tryz.func92 rfl (by decide) ⟨ss1_ok, trivial⟩ (fun (x : List Sg × List Sg) => (∀ (y : Unit), True → True ∧ True ∧ True ∧ True ∧ True) ∧ bcase ((↑(List.length x.1) : Int) != (↑(List.length x.2) : Int)) (rA s_eqSg x [.bool false, .top, .top, .top]) (eA (i_eqSg x) [sgs x.1, sgs x.2, AV.clo (.func 93) [], sgs x.1, .int .i64 (↑(List.length x.1) : Int), .int .i64 (0 : Int)] ∧ ∀ (i : Int), eqW sgEq x.1 x.2 i → bcase (decide (i < (↑(List.length x.1) : Int))) (((0 : Int) ≤ i ∧ i < (↑(List.length x.1) : Int)) ∧ ∀ (e : Sg), x.1[Int.toNat i]? = some e → ((0 : Int) ≤ i ∧ i < (↑(List.length x.2) : Int)) ∧ ∀ (e_1 : Sg), x.2[Int.toNat i]? = some e_1 → cA s_ss1 [.agg [.int .i64 e.kind, .str e.text, .int .i64 e.pos, .bool e.blank], .agg [.int .i64 e_1.kind, .str e_1.text, .int .i64 e_1.pos, .bool e_1.blank]] fun x_1 y => bcase (!sgEq x_1.1 x_1.2) (rA s_eqSg x [.bool false, .top, .top, .top]) (inR IntKind.i64 (i + (1 : Int)) ∧ eN (i_eqSg x) i [sgs x.1, sgs x.2, AV.clo (.func 93) [], sgs x.1, .int .i64 (↑(List.length x.1) : Int), .int .i64 (i + (1 : Int))])) (rA s_eqSg x [.bool true, .top, .top, .top]))) (fun x => by kernel_rfl) fun (x : List Sg × List Sg) (hx : x.1.length < 2 ^ 62 ∧ x.2.length < 2 ^ 62) => (by
  dsimp only [cA, eA, eN, i_eqSg, rA, s_eqSg, s_ss1, sgA_e, sgs, hndL, hnd1, mvL, lnL, mvE, lnE, sndL]
  obtain ⟨h1, h2⟩ := hx
  (repeat' first | (with_reducible first | rfl | exact True.intro | apply inR_i64 | apply And.intro | ((first | apply bcase_dec | apply bcase_bne | apply bcase_beq | apply bcase_not) <;> intro _)) | (apply bcase_intro <;> intro _) | apply sl_eq | refine ex_flip () ?_ ?_ | ((first | apply ex_flip10 | apply ex_flip9 | apply ex_flip8 | apply ex_flip7 | apply ex_flip6 | apply ex_flip5 | apply ex_flip4 | apply ex_flip3 | apply ex_flip2) <;> try dsimp only) | apply ex_flip | (refine Prod.forall.2 ?_; intro _; try dsimp only) | (intro _; try dsimp only))
  all_goals first
    | rfl
    | (show _ ≤ _; have hq := eqW_b (show eqW _ _ _ _ by assumption); (try simp only [i64max]); omega)
    | (show okNd _; exact okNds_at (by assumption) h1)
    | (show okNd _; exact okNds_at (by assumption) h2)
    | exact eqW_0 (by assumption)
    | exact eqW_0 (by omega)
    | exact eqW_y (by assumption) (by assumption) (by assumption) (by assumption)
    | exact eqW_n (by assumption) (by assumption) (by assumption) (by assumption)
    | exact eqW_e (by assumption) (by assumption)
    | exact eqF_n (by assumption)
    | omega
    | (have hq := eqW_b (show eqW _ _ _ _ by assumption); (try simp only [i64max]); omega)
    | skip)
def s_iSameT  : Sig := { X := List Nd × List Nd, args := fun x => [nds x.1, nds x.2], pre := fun x => okNds x.1 ∧ okNds x.2, Y := Unit, post := fun x y => True, res := fun x y => .bool (eqF ndEq x.1 x.2), outs := fun x y => [.top, .top], keep := false }
theorem iSameT_ok  : Contract G Tryz.prog 23 s_iSameT :=
  vcFun_okP [(47, 48 + 1, s_eqNd)] [] false (fun x => []) Tryz.func23 rfl (by decide) ⟨eqNd_ok, trivial⟩ (fun (x : List Nd × List Nd) => (∀ (y : Unit), True → True ∧ True ∧ True ∧ True) ∧ cA s_eqNd [nds x.1, nds x.2, AV.clo (Fn.func (48 : Nat)) []] fun x_1 y => rA s_iSameT x [.bool (eqF ndEq x_1.1 x_1.2), .top, .top]) (fun x => by kernel_rfl) fun (x : List Nd × List Nd) (hx : okNds x.1 ∧ okNds x.2) => (by
  dsimp only [cA, ndA_e, nds, rA, s_eqNd, s_iSameT, hndL, hnd1, mvL, lnL, mvE, lnE]
  obtain ⟨h1, h2⟩ := hx
  (repeat' first | (with_reducible first | rfl | exact True.intro | apply inR_i64 | apply And.intro | ((first | apply bcase_dec | apply bcase_bne | apply bcase_beq | apply bcase_not) <;> intro _)) | (apply bcase_intro <;> intro _) | apply sl_eq | refine ex_flip () ?_ ?_ | ((first | apply ex_flip10 | apply ex_flip9 | apply ex_flip8 | apply ex_flip7 | apply ex_flip6 | apply ex_flip5 | apply ex_flip4 | apply ex_flip3 | apply ex_flip2) <;> try dsimp only) | apply ex_flip | (refine Prod.forall.2 ?_; intro _; try dsimp only) | (intro _; try dsimp only))
  all_goals first
    | rfl
    | exact h1
    | exact h2
    | skip)
def s_iSameS  : Sig := { X := List Sg × List Sg, args := fun x => [sgs x.1, sgs x.2], pre := fun x => x.1.length < 2 ^ 62 ∧ x.2.length < 2 ^ 62, Y := Unit, post := fun x y => True, res := fun x y => .bool (eqF sgEq x.1 x.2), outs := fun x y => [.top, .top], keep := false }
theorem iSameS_ok  : Contract G Tryz.prog 51 s_iSameS :=
  vcFun_okP [(92, 93 + 1, s_eqSg)] [] false (fun x => []) Tryz.func51 rfl (by decide) ⟨eqSg_ok, trivial⟩ (fun (x : List Sg × List Sg) => (∀ (y : Unit), True → True ∧ True ∧ True ∧ True) ∧ cA s_eqSg [sgs x.1, sgs x.2, AV.clo (Fn.func (93 : Nat)) []] fun x_1 y => rA s_iSameS x [.bool (eqF sgEq x_1.1 x_1.2), .top, .top]) (fun x => by kernel_rfl) fun (x : List Sg × List Sg) (hx : x.1.length < 2 ^ 62 ∧ x.2.length < 2 ^ 62) => (by
  dsimp only [cA, rA, s_eqSg, s_iSameS, sgA_e, sgs, hndL, hnd1, mvL, lnL, mvE, lnE]
  obtain ⟨h1, h2⟩ := hx
  (repeat' first | (with_reducible first | rfl | exact True.intro | apply inR_i64 | apply And.intro | ((first | apply bcase_dec | apply bcase_bne | apply bcase_beq | apply bcase_not) <;> intro _)) | (apply bcase_intro <;> intro _) | apply sl_eq | refine ex_flip () ?_ ?_ | ((first | apply ex_flip10 | apply ex_flip9 | apply ex_flip8 | apply ex_flip7 | apply ex_flip6 | apply ex_flip5 | apply ex_flip4 | apply ex_flip3 | apply ex_flip2) <;> try dsimp only) | apply ex_flip | (refine Prod.forall.2 ?_; intro _; try dsimp only) | (intro _; try dsimp only))
  all_goals first
    | rfl
    | exact h1
    | exact h2
    | skip)
def s_sSameS  : Sig := { X := List Sg × List Sg, args := fun x => [sgs x.1, sgs x.2], pre := fun x => x.1.length < 2 ^ 62 ∧ x.2.length < 2 ^ 62, Y := Unit, post := fun x y => True, res := fun x y => .bool (eqF sgEq x.1 x.2), outs := fun x y => [.top, .top], keep := false }
def i_sSameS  (x : List Sg × List Sg) : LS := { ι := Int, inv := fun i => eqW sgEq x.1 x.2 i, regs := fun i => [(0, sgs x.1), (1, sgs x.2), (5, .int .i64 i)], als := [], meas := fun i => x.1.length - i.toNat }
theorem sSameS_ok  : Contract G Tryz.prog 46 s_sSameS :=
  vcFun_okP [] [] false (fun x => [(4, i_sSameS  x)]) Tryz.func46 rfl (by decide) trivial (fun (x : List Sg × List Sg) => (∀ (y : Unit), True → True ∧ True ∧ True ∧ True) ∧ bcase ((↑(List.length x.1) : Int) != (↑(List.length x.2) : Int)) (rA s_sSameS x [.bool false, .top, .top]) (eA (i_sSameS x) [sgs x.1, sgs x.2, .int .i64 (0 : Int)] ∧ ∀ (i : Int), eqW sgEq x.1 x.2 i → bcase (decide (i < (↑(List.length x.1) : Int))) (true = true ∧ true = true ∧ ((0 : Int) ≤ i ∧ i < (↑(List.length x.1) : Int)) ∧ ∀ (e : Sg), x.1[Int.toNat i]? = some e → ((0 : Int) ≤ i ∧ i < (↑(List.length x.2) : Int)) ∧ ∀ (e_1 : Sg), x.2[Int.toNat i]? = some e_1 → bcase (e.kind != e_1.kind) (rA s_sSameS x [.bool false, .top, .top]) (((0 : Int) ≤ i ∧ i < (↑(List.length x.1) : Int)) ∧ ∀ (e : Sg), x.1[Int.toNat i]? = some e → ((0 : Int) ≤ i ∧ i < (↑(List.length x.2) : Int)) ∧ ∀ (e_2 : Sg), x.2[Int.toNat i]? = some e_2 → bcase (!e.text == e_2.text) (rA s_sSameS x [.bool false, .top, .top]) (inR IntKind.i64 (i + (1 : Int)) ∧ eN (i_sSameS x) i [sgs x.1, sgs x.2, .int .i64 (i + (1 : Int))]))) (rA s_sSameS x [.bool true, .top, .top]))) (fun x => by kernel_rfl) fun (x : List Sg × List Sg) (hx : x.1.length < 2 ^ 62 ∧ x.2.length < 2 ^ 62) => (by
  dsimp only [eA, eN, i_sSameS, rA, s_sSameS, sgA_e, sgs, hndL, hnd1, sndL]
  obtain ⟨h1, h2⟩ := hx
  (repeat' first | (with_reducible first | rfl | exact True.intro | apply inR_i64 | apply And.intro | ((first | apply bcase_dec | apply bcase_bne | apply bcase_beq | apply bcase_not) <;> intro _)) | (apply bcase_intro <;> intro _) | apply sl_eq | refine ex_flip () ?_ ?_ | ((first | apply ex_flip10 | apply ex_flip9 | apply ex_flip8 | apply ex_flip7 | apply ex_flip6 | apply ex_flip5 | apply ex_flip4 | apply ex_flip3 | apply ex_flip2) <;> try dsimp only) | apply ex_flip | (refine Prod.forall.2 ?_; intro _; try dsimp only) | (intro _; try dsimp only))
  all_goals (try ((repeat (rename x.1[_]? = some _ => hq; revert hq; rename x.1[_]? = some _ => hr; intro hq; rw [hr] at hq; cases hq))))
  all_goals (try ((repeat (rename x.2[_]? = some _ => hq; revert hq; rename x.2[_]? = some _ => hr; intro hq; rw [hr] at hq; cases hq))))
  all_goals first
    | rfl
    | exact eqW_0 (by assumption)
    | exact eqW_0 (by omega)
    | (refine eqW_y (by assumption) (by assumption) (by assumption) ?_; simp [sgEq, *]; done)
    | (refine eqW_n (by assumption) (by assumption) (by assumption) ?_; simp [sgEq, *]; done)
    | exact eqW_e (by assumption) (by assumption)
    | exact eqF_n (by assumption)
    | omega
    | (have hq := eqW_b (show eqW _ _ _ _ by assumption); (try simp only [i64max]); omega)
    | skip)
def s_sSameT  : Sig := { X := List Nd × List Nd, args := fun x => [nds x.1, nds x.2], pre := fun x => okNds x.1 ∧ okNds x.2, Y := Unit, post := fun x y => True, res := fun x y => .bool (eqF ndEq x.1 x.2), outs := fun x y => [.top, .top], keep := false }
theorem sSameT_ok  : Contract G Tryz.prog 17 s_sSameT :=
  vcFun_okP [] [(45, ⟨Int,intA⟩)] false (fun x => [(4, lSame x)]) Tryz.func17 rfl (by decide) trivial (fun (x : List Nd × List Nd) => (∀ (y : Unit), True → True ∧ True ∧ True ∧ True) ∧ bcase ((↑(List.length x.1) : Int) != (↑(List.length x.2) : Int)) (rA s_sSameT x [.bool false, .top, .top]) (eA (lSame x) [nds x.1, nds x.2, .int .i64 (0 : Int)] ∧ ∀ (i : Int), eqW ndEq x.1 x.2 i → bcase (decide (i < (↑(List.length x.1) : Int))) (true = true ∧ true = true ∧ ((0 : Int) ≤ i ∧ i < (↑(List.length x.1) : Int)) ∧ ∀ (e : Nd), x.1[Int.toNat i]? = some e → ((0 : Int) ≤ i ∧ i < (↑(List.length x.2) : Int)) ∧ ∀ (e_1 : Nd), x.2[Int.toNat i]? = some e_1 → bcase (e.kind != e_1.kind) (rA s_sSameT x [.bool false, .top, .top]) (((0 : Int) ≤ i ∧ i < (↑(List.length x.1) : Int)) ∧ ∀ (e : Nd), x.1[Int.toNat i]? = some e → ((0 : Int) ≤ i ∧ i < (↑(List.length x.2) : Int)) ∧ ∀ (e_2 : Nd), x.2[Int.toNat i]? = some e_2 → bcase (!e.text == e_2.text) (rA s_sSameT x [.bool false, .top, .top]) (((0 : Int) ≤ i ∧ i < (↑(List.length x.1) : Int)) ∧ ∀ (e : Nd), x.1[Int.toNat i]? = some e → ((0 : Int) ≤ i ∧ i < (↑(List.length x.2) : Int)) ∧ ∀ (e_3 : Nd), x.2[Int.toNat i]? = some e_3 → bcase (!e.blank == e_3.blank) (rA s_sSameT x [.bool false, .top, .top]) (((0 : Int) ≤ i ∧ i < (↑(List.length x.1) : Int)) ∧ ∀ (e : Nd), x.1[Int.toNat i]? = some e → ((0 : Int) ≤ i ∧ i < (↑(List.length x.2) : Int)) ∧ ∀ (e_4 : Nd), x.2[Int.toNat i]? = some e_4 → bcase ((↑(List.length e.kids) : Int) != (↑(List.length e_4.kids) : Int)) (rA s_sSameT x [.bool false, .top, .top]) (eA (lSameK x i) [nds x.1, nds x.2, .int .i64 i, .int .i64 (0 : Int)] ∧ ∀ (i_1 : Int), eqW iEq (ndAt x.1 i).kids (ndAt x.2 i).kids i_1 → ((0 : Int) ≤ i ∧ i < (↑(List.length x.1) : Int)) ∧ ∀ (e : Nd), x.1[Int.toNat i]? = some e → bcase (decide (i_1 < (↑(List.length e.kids) : Int))) (true = true ∧ true = true ∧ ((0 : Int) ≤ i ∧ i < (↑(List.length x.1) : Int)) ∧ ∀ (e : Nd), x.1[Int.toNat i]? = some e → ((0 : Int) ≤ i_1 ∧ i_1 < (↑(List.length e.kids) : Int)) ∧ ∀ (e_5 : Int), e.kids[Int.toNat i_1]? = some e_5 → ((0 : Int) ≤ i ∧ i < (↑(List.length x.2) : Int)) ∧ ∀ (e : Nd), x.2[Int.toNat i]? = some e → ((0 : Int) ≤ i_1 ∧ i_1 < (↑(List.length e.kids) : Int)) ∧ ∀ (e_6 : Int), e.kids[Int.toNat i_1]? = some e_6 → bcase (e_5 != e_6) (rA s_sSameT x [.bool false, .top, .top]) (inR IntKind.i64 (i_1 + (1 : Int)) ∧ eN (lSameK x i) i_1 [nds x.1, nds x.2, .int .i64 i, .int .i64 (i_1 + (1 : Int))])) (inR IntKind.i64 (i + (1 : Int)) ∧ eN (lSame x) i [nds x.1, nds x.2, .int .i64 (i + (1 : Int))])))))) (rA s_sSameT x [.bool true, .top, .top]))) (fun x => by kernel_rfl) fun (x : List Nd × List Nd) (hx : okNds x.1 ∧ okNds x.2) => (by
  dsimp only [eA, eN, lSame, lSameK, ndA_e, nds, rA, s_sSameT, hndL, hnd1, sndL]
  obtain ⟨h1, h2⟩ := hx
  have hl1 := h1.1; have hl2 := h2.1
  (repeat' first | (with_reducible first | rfl | exact True.intro | apply inR_i64 | apply And.intro | ((first | apply bcase_dec | apply bcase_bne | apply bcase_beq | apply bcase_not) <;> intro _)) | (apply bcase_intro <;> intro _) | apply sl_eq | refine ex_flip () ?_ ?_ | ((first | apply ex_flip10 | apply ex_flip9 | apply ex_flip8 | apply ex_flip7 | apply ex_flip6 | apply ex_flip5 | apply ex_flip4 | apply ex_flip3 | apply ex_flip2) <;> try dsimp only) | apply ex_flip | (refine Prod.forall.2 ?_; intro _; try dsimp only) | (intro _; try dsimp only))
  all_goals (repeat (rename x.1[_]? = some _ => hq; have hq2 := ndAt_of hq; clear hq; subst hq2))
  all_goals (repeat (rename x.2[_]? = some _ => hq; have hq2 := ndAt_of hq; clear hq; subst hq2))
  all_goals first
    | rfl
    | exact eqF_n (by assumption)
    | (show eqW ndEq _ _ _; exact eqW_0 (by assumption))
    | (show eqW iEq _ _ _; exact eqW_0 (by omega))
    | (show false = _; exact eqW_nA (by assumption) (by assumption) (ndEq_k (.inl (by assumption))))
    | (show false = _; exact eqW_nA (by assumption) (by assumption) (ndEq_k (.inr (eqW_n (by assumption) (by assumption) (by assumption) (iEq_n (by assumption))).symm)))
    | (show false = _; refine eqW_nA (by assumption) (by assumption) ?_; simp [ndEq, *]; done)
    | (show eqW iEq _ _ _; exact eqW_y (by assumption) (by assumption) (by assumption) (iEq_y (by assumption)))
    | (show eqW ndEq _ _ _; exact eqW_yA (by assumption) (by assumption) (by assumption) (by assumption) (by assumption) (eqW_e (by assumption) (by assumption)).symm)
    | exact eqW_e (by assumption) (by assumption)
    | omega
    | (have hq := eqW_b (show eqW ndEq _ _ _ by assumption); (try simp only [i64max]); omega)
    | (have hq := eqW_k h1 (show eqW iEq _ _ _ by assumption); (try simp only [i64max]); omega)
    | skip)
end Go.My
end
section
set_option linter.unusedVariables false
set_option linter.unusedSimpArgs false
namespace Go.My
open Go.Eng Go.Proofs
variable {G : GInv}
def spAt (l : List Sg) (i : Int) : Bool := decide (i + 1 < l.length) && (isAt l i 4 [44] && (isAt l (i + 1) 4 [41] || isAt l (i + 1) 4 [93]))
def leftN (l : List Sg) : Nat → List Sg
  | 0 => []
  | n + 1 => if spAt l n then leftN l n else leftN l n ++ [sgO l n]
theorem leftN_len {l : List Sg} : ∀ {n : Nat}, (leftN l n).length ≤ n
  | 0 => Nat.le_refl _
  | n + 1 => by
    have := @leftN_len l n
    rw [leftN]; split
    · omega
    · simp; omega
theorem left_y {l : List Sg} {i : Int} (h0 : 0 ≤ i) (h : spAt l i = true) : leftN l i.toNat = leftN l (i + 1).toNat := by
  have e : ((i.toNat : Nat) : Int) = i := by omega
  rw [show (i + 1).toNat = i.toNat + 1 by omega, leftN, e, if_pos h]
theorem left_n {l : List Sg} {i : Int} (h0 : 0 ≤ i) (h : spAt l i = false) : leftN l i.toNat ++ [sgO l i] = leftN l (i + 1).toNat := by
  have e : ((i.toNat : Nat) : Int) = i := by omega
  rw [show (i + 1).toNat = i.toNat + 1 by omega, leftN, e, if_neg (by simp [h])]
def notN (l : List Sg) : Nat → List (List UInt8)
  | 0 => []
  | n + 1 => if (sgO l n).kind = 5 then notN l n ++ [(sgO l n).text] else notN l n
theorem notN_len {l : List Sg} : ∀ {n : Nat}, (notN l n).length ≤ n
  | 0 => Nat.le_refl _
  | n + 1 => by
    have := @notN_len l n
    rw [notN]; split
    · simp; omega
    · omega
theorem not_n {l : List Sg} {i : Int} (h0 : 0 ≤ i) (h : (sgO l i).kind ≠ 5) : notN l i.toNat = notN l (i + 1).toNat := by
  have e : ((i.toNat : Nat) : Int) = i := by omega
  rw [show (i + 1).toNat = i.toNat + 1 by omega, notN, e, if_neg h]
theorem not_y {l : List Sg} {i : Int} (h0 : 0 ≤ i) (h : (sgO l i).kind = 5) : notN l i.toNat ++ [(sgO l i).text] = notN l (i + 1).toNat := by
  have e : ((i.toNat : Nat) : Int) = i := by omega
  rw [show (i + 1).toNat = i.toNat + 1 by omega, notN, e, if_pos h]
def leftA (l : List Sg) : List Sg := leftN l l.length
def notA (l : List Sg) : List (List UInt8) := notN l l.length
def lfI (l : List Sg) (i : Int) (o : List Sg) : Prop := (0 ≤ i ∧ i ≤ l.length) ∧ o = leftN l i.toNat
theorem lf_0 {l : List Sg} : lfI l 0 [] := ⟨by omega, rfl⟩
theorem lf_b {l : List Sg} {i : Int} {o : List Sg} (h : lfI l i o) : (0 ≤ i ∧ i ≤ l.length) ∧ o.length ≤ l.length := by
  refine ⟨h.1, ?_⟩
  rw [h.2]; have := @leftN_len l i.toNat; have := h.1; omega
theorem lf_y {l : List Sg} {i : Int} {o : List Sg} (h : lfI l i o) (hi : i < l.length) (hs : spAt l i = true) : lfI l (i + 1) o := ⟨by have := h.1; omega, by rw [h.2]; exact left_y h.1.1 hs⟩
theorem lf_n {l : List Sg} {i : Int} {o : List Sg} {e : Sg} (h : lfI l i o) (hi : i < l.length) (he : l[i.toNat]? = some e) (hs : spAt l i = false) : lfI l (i + 1) (o ++ [e]) := ⟨by have := h.1; omega, by rw [h.2, ← sgO_at he]; exact left_n h.1.1 hs⟩
theorem lf_nA {l : List Sg} {i : Int} {o : List Sg} (h : lfI l i o) (hi : i < l.length) (hs : spAt l i = false) : lfI l (i + 1) (o ++ [sgO l i]) := ⟨by have := h.1; omega, by rw [h.2]; exact left_n h.1.1 hs⟩
theorem lf_e {l : List Sg} {i : Int} {o : List Sg} (h : lfI l i o) (hi : ¬ i < l.length) : o = leftA l := by
  rw [h.2, leftA, show i.toNat = l.length by have := h.1; omega]
def ntI (l : List Sg) (i : Int) (o : List (List UInt8)) : Prop := (0 ≤ i ∧ i ≤ l.length) ∧ o = notN l i.toNat
theorem nt_0 {l : List Sg} : ntI l 0 [] := ⟨by omega, rfl⟩
theorem nt_b {l : List Sg} {i : Int} {o : List (List UInt8)} (h : ntI l i o) : (0 ≤ i ∧ i ≤ l.length) ∧ o.length ≤ l.length := by
  refine ⟨h.1, ?_⟩
  rw [h.2]; have := @notN_len l i.toNat; have := h.1; omega
theorem nt_n {l : List Sg} {i : Int} {o : List (List UInt8)} {e : Sg} (h : ntI l i o) (hi : i < l.length) (hk : e.kind ≠ 5) (he : l[i.toNat]? = some e) : ntI l (i + 1) o := ⟨by have := h.1; omega, by rw [h.2]; exact not_n h.1.1 (by rw [sgO_at he]; exact hk)⟩
theorem nt_y {l : List Sg} {i : Int} {o : List (List UInt8)} {e e2 : Sg} (h : ntI l i o) (hi : i < l.length) (hk : e.kind = 5) (he : l[i.toNat]? = some e) (he2 : l[i.toNat]? = some e2) : ntI l (i + 1) (o ++ [e2.text]) := by
  refine ⟨by have := h.1; omega, ?_⟩
  rw [h.2, ← sgO_at he2]; exact not_y h.1.1 (by rw [sgO_at he]; exact hk)
theorem nt_e {l : List Sg} {i : Int} {o : List (List UInt8)} (h : ntI l i o) (hi : ¬ i < l.length) : o = notA l := by
  rw [h.2, notA, show i.toNat = l.length by have := h.1; omega]
theorem leftA_len {l : List Sg} : (leftA l).length ≤ l.length := @leftN_len l l.length
attribute [local irreducible] leftN notN lfI ntI leftA notA
def s_isSpare  : Sig := { X := List Sg × Int, args := fun x => [sgs x.1, .int .i64 x.2], pre := fun x => (0 ≤ x.2 ∧ x.2 < x.1.length) ∧ x.1.length < 2 ^ 62, Y := Unit, post := fun x y => True, res := fun x y => .bool (spAt x.1 x.2), outs := fun x y => [.top, .top], keep := false }
theorem isSpare_ok  : Contract G Tryz.prog 94 s_isSpare :=
  vcFun_okP [] [] false (fun x => []) Tryz.func94 rfl (by decide) trivial (fun (x : List Sg × Int) => (∀ (y : Unit), True → True ∧ True ∧ True ∧ True) ∧ inR IntKind.i64 (x.2 + (1 : Int)) ∧ bcase (decide (x.2 + (1 : Int) ≥ (↑(List.length x.1) : Int))) (rA s_isSpare x [.bool false, .top, .top]) (((0 : Int) ≤ x.2 ∧ x.2 < (↑(List.length x.1) : Int)) ∧ ∀ (e : Sg), x.1[Int.toNat x.2]? = some e → bcase (e.kind != (4 : Int)) (rA s_isSpare x [.bool false, .top, .top]) (((0 : Int) ≤ x.2 ∧ x.2 < (↑(List.length x.1) : Int)) ∧ ∀ (e : Sg), x.1[Int.toNat x.2]? = some e → bcase (!e.text == #[(44 : UInt8)].toList) (rA s_isSpare x [.bool false, .top, .top]) (inR IntKind.i64 (x.2 + (1 : Int)) ∧ ((0 : Int) ≤ x.2 + (1 : Int) ∧ x.2 + (1 : Int) < (↑(List.length x.1) : Int)) ∧ ∀ (e : Sg), x.1[Int.toNat (x.2 + (1 : Int))]? = some e → bcase (e.kind == (4 : Int)) (bcase (e.text == #[(41 : UInt8)].toList) (rA s_isSpare x [.bool true, .top, .top]) (rA s_isSpare x [.bool (e.text == #[(93 : UInt8)].toList), .top, .top])) (rA s_isSpare x [.bool false, .top, .top]))))) (fun x => by kernel_rfl) fun (x : List Sg × Int) (hx : (0 ≤ x.2 ∧ x.2 < x.1.length) ∧ x.1.length < 2 ^ 62) => (by
  dsimp only [rA, s_isSpare, sgA_e, sgs, hndL, hnd1]
  obtain ⟨h1, h2⟩ := hx
  (repeat' first | (with_reducible first | rfl | exact True.intro | apply inR_i64 | apply And.intro | ((first | apply bcase_dec | apply bcase_bne | apply bcase_beq | apply bcase_not) <;> intro _)) | (apply bcase_intro <;> intro _) | apply sl_eq | refine ex_flip () ?_ ?_ | ((first | apply ex_flip10 | apply ex_flip9 | apply ex_flip8 | apply ex_flip7 | apply ex_flip6 | apply ex_flip5 | apply ex_flip4 | apply ex_flip3 | apply ex_flip2) <;> try dsimp only) | apply ex_flip | (refine Prod.forall.2 ?_; intro _; try dsimp only) | (intro _; try dsimp only))
  all_goals (repeat (rename x.1[_]? = some _ => hq; have hq2 := sgO_at hq; clear hq; subst hq2))
  all_goals first
    | rfl
    | ((try simp only [i64max]); omega)
    | (rw [Bool.eq_iff_iff]; simp [spAt, isAt, *]; done)
    | (rw [Bool.eq_iff_iff]; simp [spAt, isAt, *]; omega)
    | skip)
def s_iLeft  : Sig := { X := List Sg, args := fun x => [sgs x], pre := fun x => x.length < 2 ^ 30, Y := Unit, post := fun x y => True, res := fun x y => sgs (leftA x), outs := fun x y => [.top], keep := true }
def i_iLeft  (x : List Sg) : LS := { ι := Int × List Sg, inv := fun i => lfI x i.1 i.2, regs := fun i => [(0, sgs x), (3, osgs i.2), (6, sgs x), (7, .int .i64 x.length), (8, .int .i64 i.1)], als := [], meas := fun i => x.length - i.1.toNat }
theorem iLeft_ok  : Contract G Tryz.prog 52 s_iLeft :=
  vcFun_okP [(94, 0, s_isSpare)] [(36, ⟨Sg,sgA⟩)] false (fun x => [(3, i_iLeft  x)]) Tryz.func52 rfl (by decide) ⟨isSpare_ok, trivial⟩ (fun (x : List Sg) => True ∧ eA (i_iLeft x) [sgs x, .nil, sgs x, .int .i64 (↑(List.length x) : Int), .int .i64 (0 : Int)] ∧ ∀ (i : Int × List Sg), lfI x i.1 i.2 → bcase (decide (i.1 < (↑(List.length x) : Int))) (((0 : Int) ≤ i.1 ∧ i.1 < (↑(List.length x) : Int)) ∧ ∀ (e : Sg), x[Int.toNat i.1]? = some e → cA s_isSpare [sgs x, .int .i64 i.1] fun x_1 y => bcase (!spAt x_1.1 x_1.2) (∃ (x_2 : Sg), e.kind = x_2.kind ∧ e.text = x_2.text ∧ e.pos = x_2.pos ∧ e.blank = x_2.blank ∧ ∃ (zs : List Sg), osgs [x_2] = osgs zs ∧ leafy sgA ∧ room (List.length i.2 + List.length zs) (40 : Nat) ∧ inR IntKind.i64 (i.1 + (1 : Int)) ∧ eN (i_iLeft x) i [sgs x, osgs (i.2 ++ zs), sgs x, .int .i64 (↑(List.length x) : Int), .int .i64 (i.1 + (1 : Int))]) (inR IntKind.i64 (i.1 + (1 : Int)) ∧ eN (i_iLeft x) i [sgs x, osgs i.2, sgs x, .int .i64 (↑(List.length x) : Int), .int .i64 (i.1 + (1 : Int))])) (rA s_iLeft x [osgs i.2, .top])) (fun x => by kernel_rfl) fun (x : List Sg) (hx : x.length < 2 ^ 30) => (by
  dsimp only [cA, eA, eN, i_iLeft, osgs, rA, s_iLeft, s_isSpare, sgA_e, sgs, hndL, hnd1, mvL, lnL, mvE, lnE, sndL]
  have hx : x.length < 2 ^ 30 := hx
  (repeat' first | (with_reducible first | rfl | exact True.intro | apply inR_i64 | apply And.intro | ((first | apply bcase_dec | apply bcase_bne | apply bcase_beq | apply bcase_not) <;> intro _)) | (apply bcase_intro <;> intro _) | apply sl_eq | refine ex_flip () ?_ ?_ | ((first | apply ex_flip10 | apply ex_flip9 | apply ex_flip8 | apply ex_flip7 | apply ex_flip6 | apply ex_flip5 | apply ex_flip4 | apply ex_flip3 | apply ex_flip2) <;> try dsimp only) | apply ex_flip | (refine Prod.forall.2 ?_; intro _; try dsimp only) | (intro _; try dsimp only))
  all_goals first
    | rfl
    | exact lf_0
    | exact lf_y (by assumption) (by assumption) (by assumption)
    | exact lf_n (by assumption) (by assumption) (by assumption) (by assumption)
    | exact lf_e (by assumption) (by assumption)
    | exact congrArg _ (lf_e (by assumption) (by assumption))
    | omega
    | (have hq := lf_b (show lfI _ _ _ by assumption); (try simp only [i64max]); omega)
    | (have hq := lf_b (show lfI _ _ _ by assumption); (try simp only [room, List.length_append, List.length_cons, List.length_nil]); omega)
    | skip)
def s_sLeft  : Sig := { X := List Sg, args := fun x => [sgs x], pre := fun x => x.length < 2 ^ 30, Y := Unit, post := fun x y => True, res := fun x y => sgs (leftA x), outs := fun x y => [.top], keep := true }
def i_sLeft  (x : List Sg) : LS := { ι := Int × List Sg, inv := fun i => lfI x i.1 i.2, regs := fun i => [(0, sgs x), (3, osgs i.2), (4, .int .i64 i.1)], als := [], meas := fun i => x.length - i.1.toNat }
theorem sLeft_ok  : Contract G Tryz.prog 35 s_sLeft :=
  vcFun_okP [] [(36, ⟨Sg,sgA⟩)] false (fun x => [(3, i_sLeft  x)]) Tryz.func35 rfl (by decide) trivial (fun (x : List Sg) => True ∧ eA (i_sLeft x) [sgs x, osgs [], .int .i64 (0 : Int)] ∧ ∀ (i : Int × List Sg), lfI x i.1 i.2 → bcase (decide (i.1 < (↑(List.length x) : Int))) (((0 : Int) ≤ i.1 ∧ i.1 < (↑(List.length x) : Int)) ∧ ∀ (e : Sg), x[Int.toNat i.1]? = some e → bcase (e.kind == (4 : Int)) (((0 : Int) ≤ i.1 ∧ i.1 < (↑(List.length x) : Int)) ∧ ∀ (e : Sg), x[Int.toNat i.1]? = some e → bcase (e.text == #[(44 : UInt8)].toList) (inR IntKind.i64 (i.1 + (1 : Int)) ∧ bcase (decide (i.1 + (1 : Int) < (↑(List.length x) : Int))) (inR IntKind.i64 (i.1 + (1 : Int)) ∧ ((0 : Int) ≤ i.1 + (1 : Int) ∧ i.1 + (1 : Int) < (↑(List.length x) : Int)) ∧ ∀ (e : Sg), x[Int.toNat (i.1 + (1 : Int))]? = some e → bcase (e.kind == (4 : Int)) (inR IntKind.i64 (i.1 + (1 : Int)) ∧ ((0 : Int) ≤ i.1 + (1 : Int) ∧ i.1 + (1 : Int) < (↑(List.length x) : Int)) ∧ ∀ (e : Sg), x[Int.toNat (i.1 + (1 : Int))]? = some e → bcase (e.text == #[(41 : UInt8)].toList) (inR IntKind.i64 (i.1 + (1 : Int)) ∧ eN (i_sLeft x) i [sgs x, osgs i.2, .int .i64 (i.1 + (1 : Int))]) (inR IntKind.i64 (i.1 + (1 : Int)) ∧ ((0 : Int) ≤ i.1 + (1 : Int) ∧ i.1 + (1 : Int) < (↑(List.length x) : Int)) ∧ ∀ (e : Sg), x[Int.toNat (i.1 + (1 : Int))]? = some e → bcase (e.text == #[(93 : UInt8)].toList) (inR IntKind.i64 (i.1 + (1 : Int)) ∧ eN (i_sLeft x) i [sgs x, osgs i.2, .int .i64 (i.1 + (1 : Int))]) (((0 : Int) ≤ i.1 ∧ i.1 < (↑(List.length x) : Int)) ∧ ∀ (e : Sg), x[Int.toNat i.1]? = some e → ∃ (x_1 : Sg), e.kind = x_1.kind ∧ e.text = x_1.text ∧ e.pos = x_1.pos ∧ e.blank = x_1.blank ∧ ∃ (zs : List Sg), osgs [x_1] = osgs zs ∧ leafy sgA ∧ room (List.length i.2 + List.length zs) (40 : Nat) ∧ inR IntKind.i64 (i.1 + (1 : Int)) ∧ eN (i_sLeft x) i [sgs x, osgs (i.2 ++ zs), .int .i64 (i.1 + (1 : Int))]))) (((0 : Int) ≤ i.1 ∧ i.1 < (↑(List.length x) : Int)) ∧ ∀ (e : Sg), x[Int.toNat i.1]? = some e → ∃ (x_1 : Sg), e.kind = x_1.kind ∧ e.text = x_1.text ∧ e.pos = x_1.pos ∧ e.blank = x_1.blank ∧ ∃ (zs : List Sg), osgs [x_1] = osgs zs ∧ leafy sgA ∧ room (List.length i.2 + List.length zs) (40 : Nat) ∧ inR IntKind.i64 (i.1 + (1 : Int)) ∧ eN (i_sLeft x) i [sgs x, osgs (i.2 ++ zs), .int .i64 (i.1 + (1 : Int))])) (((0 : Int) ≤ i.1 ∧ i.1 < (↑(List.length x) : Int)) ∧ ∀ (e : Sg), x[Int.toNat i.1]? = some e → ∃ (x_1 : Sg), e.kind = x_1.kind ∧ e.text = x_1.text ∧ e.pos = x_1.pos ∧ e.blank = x_1.blank ∧ ∃ (zs : List Sg), osgs [x_1] = osgs zs ∧ leafy sgA ∧ room (List.length i.2 + List.length zs) (40 : Nat) ∧ inR IntKind.i64 (i.1 + (1 : Int)) ∧ eN (i_sLeft x) i [sgs x, osgs (i.2 ++ zs), .int .i64 (i.1 + (1 : Int))])) (((0 : Int) ≤ i.1 ∧ i.1 < (↑(List.length x) : Int)) ∧ ∀ (e : Sg), x[Int.toNat i.1]? = some e → ∃ (x_1 : Sg), e.kind = x_1.kind ∧ e.text = x_1.text ∧ e.pos = x_1.pos ∧ e.blank = x_1.blank ∧ ∃ (zs : List Sg), osgs [x_1] = osgs zs ∧ leafy sgA ∧ room (List.length i.2 + List.length zs) (40 : Nat) ∧ inR IntKind.i64 (i.1 + (1 : Int)) ∧ eN (i_sLeft x) i [sgs x, osgs (i.2 ++ zs), .int .i64 (i.1 + (1 : Int))])) (((0 : Int) ≤ i.1 ∧ i.1 < (↑(List.length x) : Int)) ∧ ∀ (e : Sg), x[Int.toNat i.1]? = some e → ∃ (x_1 : Sg), e.kind = x_1.kind ∧ e.text = x_1.text ∧ e.pos = x_1.pos ∧ e.blank = x_1.blank ∧ ∃ (zs : List Sg), osgs [x_1] = osgs zs ∧ leafy sgA ∧ room (List.length i.2 + List.length zs) (40 : Nat) ∧ inR IntKind.i64 (i.1 + (1 : Int)) ∧ eN (i_sLeft x) i [sgs x, osgs (i.2 ++ zs), .int .i64 (i.1 + (1 : Int))])) (rA s_sLeft x [osgs i.2, .top])) (fun x => by kernel_rfl) fun (x : List Sg) (hx : x.length < 2 ^ 30) => (by
  dsimp only [eA, eN, i_sLeft, osgs, rA, s_sLeft, sgA_e, sgs, hndL, hnd1, sndL]
  have hx : x.length < 2 ^ 30 := hx
  (repeat' first | (with_reducible first | rfl | exact True.intro | apply inR_i64 | apply And.intro | ((first | apply bcase_dec | apply bcase_bne | apply bcase_beq | apply bcase_not) <;> intro _)) | (apply bcase_intro <;> intro _) | apply sl_eq | refine ex_flip () ?_ ?_ | ((first | apply ex_flip10 | apply ex_flip9 | apply ex_flip8 | apply ex_flip7 | apply ex_flip6 | apply ex_flip5 | apply ex_flip4 | apply ex_flip3 | apply ex_flip2) <;> try dsimp only) | apply ex_flip | (refine Prod.forall.2 ?_; intro _; try dsimp only) | (intro _; try dsimp only))
  all_goals first
    | rfl
    | exact lf_0
    | exact lf_y (by assumption) (by assumption) (by assumption)
    | exact lf_n (by assumption) (by assumption) (by assumption) (by assumption)
    | exact lf_e (by assumption) (by assumption)
    | exact congrArg _ (lf_e (by assumption) (by assumption))
    | omega
    | (have hq := lf_b (show lfI _ _ _ by assumption); (try simp only [i64max]); omega)
    | (have hq := lf_b (show lfI _ _ _ by assumption); (try simp only [room, List.length_append, List.length_cons, List.length_nil]); omega)
    | skip
  all_goals (repeat (rename x[_]? = some _ => hq; have hq2 := sgO_at hq; clear hq; subst hq2))
  all_goals first
    | (refine lf_y (by assumption) (by assumption) ?_; simp [spAt, isAt, *]; done)
    | (refine lf_nA (by assumption) (by assumption) ?_; simp [spAt, isAt, *]; done)
    | skip)
def s_iNotes  : Sig := { X := List Sg, args := fun x => [sgs x], pre := fun x => x.length < 2 ^ 30, Y := Unit, post := fun x y => True, res := fun x y => .sl false 0 1 (List UInt8) strA (notA x), outs := fun x y => [.top], keep := true }
def i_iNotes  (x : List Sg) : LS := { ι := Int × List (List UInt8), inv := fun i => ntI x i.1 i.2, regs := fun i => [(0, sgs x), (3, .sl true 0 1 (List UInt8) strA i.2), (6, sgs x), (7, .int .i64 x.length), (8, .int .i64 i.1)], als := [], meas := fun i => x.length - i.1.toNat }
theorem iNotes_ok  : Contract G Tryz.prog 27 s_iNotes :=
  vcFun_okP [] [(41, ⟨List UInt8,strA⟩)] false (fun x => [(3, i_iNotes  x)]) Tryz.func27 rfl (by decide) trivial (fun (x : List Sg) => True ∧ eA (i_iNotes x) [sgs x, .nil, sgs x, .int .i64 (↑(List.length x) : Int), .int .i64 (0 : Int)] ∧ ∀ (i : Int × List (List UInt8)), ntI x i.1 i.2 → bcase (decide (i.1 < (↑(List.length x) : Int))) (((0 : Int) ≤ i.1 ∧ i.1 < (↑(List.length x) : Int)) ∧ ∀ (e : Sg), x[Int.toNat i.1]? = some e → bcase (e.kind == (5 : Int)) (∃ (x_1 : List UInt8), e.text = x_1 ∧ ∃ (zs : List (List UInt8)), AV.sl true (0 : Nat) (1 : Nat) (List UInt8) strA [x_1] = AV.sl true (0 : Nat) (1 : Nat) (List UInt8) strA zs ∧ leafy strA ∧ room (List.length i.2 + List.length zs) (16 : Nat) ∧ inR IntKind.i64 (i.1 + (1 : Int)) ∧ eN (i_iNotes x) i [sgs x, AV.sl true (0 : Nat) (1 : Nat) (List UInt8) strA (i.2 ++ zs), sgs x, .int .i64 (↑(List.length x) : Int), .int .i64 (i.1 + (1 : Int))]) (inR IntKind.i64 (i.1 + (1 : Int)) ∧ eN (i_iNotes x) i [sgs x, AV.sl true (0 : Nat) (1 : Nat) (List UInt8) strA i.2, sgs x, .int .i64 (↑(List.length x) : Int), .int .i64 (i.1 + (1 : Int))])) (rA s_iNotes x [AV.sl true (0 : Nat) (1 : Nat) (List UInt8) strA i.2, .top])) (fun x => by kernel_rfl) fun (x : List Sg) (hx : x.length < 2 ^ 30) => (by
  dsimp only [eA, eN, i_iNotes, rA, s_iNotes, sgA_e, sgs, hndL, hnd1, sndL]
  have hx : x.length < 2 ^ 30 := hx
  (repeat' first | (with_reducible first | rfl | exact True.intro | apply inR_i64 | apply And.intro | ((first | apply bcase_dec | apply bcase_bne | apply bcase_beq | apply bcase_not) <;> intro _)) | (apply bcase_intro <;> intro _) | apply sl_eq | refine ex_flip () ?_ ?_ | ((first | apply ex_flip10 | apply ex_flip9 | apply ex_flip8 | apply ex_flip7 | apply ex_flip6 | apply ex_flip5 | apply ex_flip4 | apply ex_flip3 | apply ex_flip2) <;> try dsimp only) | apply ex_flip | (refine Prod.forall.2 ?_; intro _; try dsimp only) | (intro _; try dsimp only))
  all_goals first
    | rfl
    | exact nt_0
    | exact nt_n (by assumption) (by assumption) (by assumption) (by assumption)
    | exact nt_y (by assumption) (by assumption) (by assumption) (by assumption) (by assumption)
    | exact nt_e (by assumption) (by assumption)
    | omega
    | (have hq := nt_b (show ntI _ _ _ by assumption); (try simp only [i64max]); omega)
    | (have hq := nt_b (show ntI _ _ _ by assumption); (try simp only [room, List.length_append, List.length_cons, List.length_nil]); omega)
    | skip)
def s_sNotes  : Sig := { X := List Sg, args := fun x => [sgs x], pre := fun x => x.length < 2 ^ 30, Y := Unit, post := fun x y => True, res := fun x y => .sl false 0 1 (List UInt8) strA (notA x), outs := fun x y => [.top], keep := true }
def i_sNotes  (x : List Sg) : LS := { ι := Int × List (List UInt8), inv := fun i => ntI x i.1 i.2, regs := fun i => [(0, sgs x), (3, .sl true 0 1 (List UInt8) strA i.2), (4, .int .i64 i.1)], als := [], meas := fun i => x.length - i.1.toNat }
theorem sNotes_ok  : Contract G Tryz.prog 21 s_sNotes :=
  vcFun_okP [] [(41, ⟨List UInt8,strA⟩)] false (fun x => [(3, i_sNotes  x)]) Tryz.func21 rfl (by decide) trivial (fun (x : List Sg) => True ∧ eA (i_sNotes x) [sgs x, AV.sl true (0 : Nat) (1 : Nat) (List UInt8) strA [], .int .i64 (0 : Int)] ∧ ∀ (i : Int × List (List UInt8)), ntI x i.1 i.2 → bcase (decide (i.1 < (↑(List.length x) : Int))) (((0 : Int) ≤ i.1 ∧ i.1 < (↑(List.length x) : Int)) ∧ ∀ (e : Sg), x[Int.toNat i.1]? = some e → bcase (e.kind == (5 : Int)) (((0 : Int) ≤ i.1 ∧ i.1 < (↑(List.length x) : Int)) ∧ ∀ (e : Sg), x[Int.toNat i.1]? = some e → ∃ (x_1 : List UInt8), e.text = x_1 ∧ ∃ (zs : List (List UInt8)), AV.sl true (0 : Nat) (1 : Nat) (List UInt8) strA [x_1] = AV.sl true (0 : Nat) (1 : Nat) (List UInt8) strA zs ∧ leafy strA ∧ room (List.length i.2 + List.length zs) (16 : Nat) ∧ inR IntKind.i64 (i.1 + (1 : Int)) ∧ eN (i_sNotes x) i [sgs x, AV.sl true (0 : Nat) (1 : Nat) (List UInt8) strA (i.2 ++ zs), .int .i64 (i.1 + (1 : Int))]) (inR IntKind.i64 (i.1 + (1 : Int)) ∧ eN (i_sNotes x) i [sgs x, AV.sl true (0 : Nat) (1 : Nat) (List UInt8) strA i.2, .int .i64 (i.1 + (1 : Int))])) (rA s_sNotes x [AV.sl true (0 : Nat) (1 : Nat) (List UInt8) strA i.2, .top])) (fun x => by kernel_rfl) fun (x : List Sg) (hx : x.length < 2 ^ 30) => (by
  dsimp only [eA, eN, i_sNotes, rA, s_sNotes, sgA_e, sgs, hndL, hnd1, sndL]
  have hx : x.length < 2 ^ 30 := hx
  (repeat' first | (with_reducible first | rfl | exact True.intro | apply inR_i64 | apply And.intro | ((first | apply bcase_dec | apply bcase_bne | apply bcase_beq | apply bcase_not) <;> intro _)) | (apply bcase_intro <;> intro _) | apply sl_eq | refine ex_flip () ?_ ?_ | ((first | apply ex_flip10 | apply ex_flip9 | apply ex_flip8 | apply ex_flip7 | apply ex_flip6 | apply ex_flip5 | apply ex_flip4 | apply ex_flip3 | apply ex_flip2) <;> try dsimp only) | apply ex_flip | (refine Prod.forall.2 ?_; intro _; try dsimp only) | (intro _; try dsimp only))
  all_goals first
    | rfl
    | exact nt_0
    | exact nt_n (by assumption) (by assumption) (by assumption) (by assumption)
    | exact nt_y (by assumption) (by assumption) (by assumption) (by assumption) (by assumption)
    | exact nt_e (by assumption) (by assumption)
    | omega
    | (have hq := nt_b (show ntI _ _ _ by assumption); (try simp only [i64max]); omega)
    | (have hq := nt_b (show ntI _ _ _ by assumption); (try simp only [room, List.length_append, List.length_cons, List.length_nil]); omega)
    | skip)
def kwF (p q : List Sg) : Bool := eqF sgEq (leftA p) (leftA q)
def s_iWords  : Sig := { X := List Sg × List Sg, args := fun x => [sgs x.1, sgs x.2], pre := fun x => x.1.length < 2 ^ 30 ∧ x.2.length < 2 ^ 30, Y := Unit, post := fun x y => True, res := fun x y => .bool (kwF x.1 x.2), outs := fun x y => [.top, .top], keep := false }
theorem iWords_ok  : Contract G Tryz.prog 25 s_iWords :=
  vcFun_okP [(52, 0, s_iLeft), (51, 0, s_iSameS)] [] false (fun x => []) Tryz.func25 rfl (by decide) ⟨iLeft_ok, iSameS_ok, trivial⟩ (fun (x : List Sg × List Sg) => (∀ (y : Unit), True → True ∧ True ∧ True ∧ True) ∧ cA s_iLeft [sgs x.1] fun x_1 y => cA s_iLeft [sgs x.2] fun x_2 y => cA s_iSameS [sgs (leftA x_1), sgs (leftA x_2)] fun x_3 y => rA s_iWords x [.bool (eqF sgEq x_3.1 x_3.2), .top, .top]) (fun x => by kernel_rfl) fun (x : List Sg × List Sg) (hx : x.1.length < 2 ^ 30 ∧ x.2.length < 2 ^ 30) => (by
  dsimp only [cA, osgs, rA, s_iLeft, s_iSameS, s_iWords, sgA_e, sgs, hndL, hnd1, mvL, lnL, mvE, lnE]
  obtain ⟨h1, h2⟩ := hx
  have hl1 := @leftA_len x.1; have hl2 := @leftA_len x.2
  (repeat' first | (with_reducible first | rfl | exact True.intro | apply inR_i64 | apply And.intro | ((first | apply bcase_dec | apply bcase_bne | apply bcase_beq | apply bcase_not) <;> intro _)) | (apply bcase_intro <;> intro _) | apply sl_eq | refine ex_flip () ?_ ?_ | ((first | apply ex_flip10 | apply ex_flip9 | apply ex_flip8 | apply ex_flip7 | apply ex_flip6 | apply ex_flip5 | apply ex_flip4 | apply ex_flip3 | apply ex_flip2) <;> try dsimp only) | apply ex_flip | (refine Prod.forall.2 ?_; intro _; try dsimp only) | (intro _; try dsimp only))
  all_goals first
    | rfl
    | omega
    | skip)
def s_sWords  : Sig := { X := List Sg × List Sg, args := fun x => [sgs x.1, sgs x.2], pre := fun x => x.1.length < 2 ^ 30 ∧ x.2.length < 2 ^ 30, Y := Unit, post := fun x y => True, res := fun x y => .bool (kwF x.1 x.2), outs := fun x y => [.top, .top], keep := false }
theorem sWords_ok  : Contract G Tryz.prog 19 s_sWords :=
  vcFun_okP [(35, 0, s_sLeft), (46, 0, s_sSameS)] [] false (fun x => []) Tryz.func19 rfl (by decide) ⟨sLeft_ok, sSameS_ok, trivial⟩ (fun (x : List Sg × List Sg) => (∀ (y : Unit), True → True ∧ True ∧ True ∧ True) ∧ cA s_sLeft [sgs x.1] fun x_1 y => cA s_sLeft [sgs x.2] fun x_2 y => cA s_sSameS [sgs (leftA x_1), sgs (leftA x_2)] fun x_3 y => rA s_sWords x [.bool (eqF sgEq x_3.1 x_3.2), .top, .top]) (fun x => by kernel_rfl) fun (x : List Sg × List Sg) (hx : x.1.length < 2 ^ 30 ∧ x.2.length < 2 ^ 30) => (by
  dsimp only [cA, osgs, rA, s_sLeft, s_sSameS, s_sWords, sgA_e, sgs, hndL, hnd1, mvL, lnL, mvE, lnE]
  obtain ⟨h1, h2⟩ := hx
  have hl1 := @leftA_len x.1; have hl2 := @leftA_len x.2
  (repeat' first | (with_reducible first | rfl | exact True.intro | apply inR_i64 | apply And.intro | ((first | apply bcase_dec | apply bcase_bne | apply bcase_beq | apply bcase_not) <;> intro _)) | (apply bcase_intro <;> intro _) | apply sl_eq | refine ex_flip () ?_ ?_ | ((first | apply ex_flip10 | apply ex_flip9 | apply ex_flip8 | apply ex_flip7 | apply ex_flip6 | apply ex_flip5 | apply ex_flip4 | apply ex_flip3 | apply ex_flip2) <;> try dsimp only) | apply ex_flip | (refine Prod.forall.2 ?_; intro _; try dsimp only) | (intro _; try dsimp only))
  all_goals first
    | rfl
    | omega
    | skip)
theorem notA_lt {l : List Sg} (h : l.length < 2 ^ 30) : (notA l).length < 4611686018427387904 := by have := @notN_len l l.length; unfold notA; omega
def sgD (t : List UInt8) : List Sg := (sgnsOf t).getD []
theorem sgQ_D {t : List UInt8} {l : List Sg} (h : sgQ t l) : l = sgD t ∧ l.length < 2 ^ 30 := by
  rcases h with h | h
  · exact ⟨by rw [sgD, h.1]; rfl, by have := h.2.1; omega⟩
  · exact ⟨by rw [sgD, h.1, h.2]; rfl, by rw [h.2]; simp⟩
def keptF (a b : List UInt8) : Bool := (readT a).isSome && ((readT b).isSome && (eqF ndEq ((readT a).getD []) ((readT b).getD []) && (kwF (sgD a) (sgD b) && eqF tEq (notA (sgD a)) (notA (sgD b)))))
attribute [local irreducible] readT sgnsOf kwF sgD eqF
def s_iKept  : Sig := { X := List UInt8 × List UInt8, args := fun x => [.str x.1, .str x.2], pre := fun x => x.1.length < 2 ^ 62 ∧ x.2.length < 2 ^ 62, Y := Unit, post := fun x y => True, res := fun x y => .bool (keptF x.1 x.2), outs := fun x y => [.top, .top], keep := false }
theorem iKept_ok  : Contract G Tryz.prog 7 s_iKept :=
  vcFun_okP [(22, 0, s_iRead), (23, 0, s_iSameT), (24, 0, s_iSigns), (25, 0, s_iWords), (27, 0, s_iNotes), (26, 0, s_eqStr)] [] false (fun x => []) Tryz.func7 rfl (by decide) ⟨iRead_ok, iSameT_ok, iSigns_ok, iWords_ok, iNotes_ok, eqStr_ok, trivial⟩ (fun (x : List UInt8 × List UInt8) => (∀ (y : Unit), True → True ∧ True ∧ True ∧ True) ∧ cA s_iRead [.str x.1] fun x_1 y => cA s_iRead [.str x.2] fun x_2 y_1 => bcase (!Option.isSome (readT x_1)) (rA s_iKept x [.bool false, .top, .top]) (bcase (!Option.isSome (readT x_2)) (rA s_iKept x [.bool false, .top, .top]) (cA s_iSameT [nds y.1, nds y_1.1] fun x_3 y => bcase (!eqF ndEq x_3.1 x_3.2) (rA s_iKept x [.bool false, .top, .top]) (cA s_iSigns [.str x.1] fun x_4 y => cA s_iSigns [.str x.2] fun x_5 y_2 => cA s_iWords [sgs y.1, sgs y_2.1] fun x_6 y_3 => bcase (kwF x_6.1 x_6.2) (cA s_iNotes [sgs y.1] fun x_7 y => cA s_iNotes [sgs y_2.1] fun x_8 y => cA s_eqStr [AV.sl false (0 : Nat) (1 : Nat) (List UInt8) strA (notA x_7), AV.sl false (0 : Nat) (1 : Nat) (List UInt8) strA (notA x_8)] fun x_9 y => rA s_iKept x [.bool (eqF tEq x_9.1 x_9.2), .top, .top]) (rA s_iKept x [.bool false, .top, .top]))))) (fun x => by kernel_rfl) fun (x : List UInt8 × List UInt8) (hx : x.1.length < 2 ^ 62 ∧ x.2.length < 2 ^ 62) => (by
  dsimp only [cA, ndA_e, nds, osgs, rA, s_eqStr, s_iKept, s_iNotes, s_iRead, s_iSameT, s_iSigns, s_iWords, sgA_e, sgs, hndL, hnd1, mvL, lnL, mvE, lnE]
  obtain ⟨h1, h2⟩ := hx
  (repeat' first | (with_reducible first | rfl | exact True.intro | apply inR_i64 | apply And.intro | ((first | apply bcase_dec | apply bcase_bne | apply bcase_beq | apply bcase_not) <;> intro _)) | (apply bcase_intro <;> intro _) | apply sl_eq | refine ex_flip () ?_ ?_ | ((first | apply ex_flip10 | apply ex_flip9 | apply ex_flip8 | apply ex_flip7 | apply ex_flip6 | apply ex_flip5 | apply ex_flip4 | apply ex_flip3 | apply ex_flip2) <;> try dsimp only) | apply ex_flip | (refine Prod.forall.2 ?_; intro _; try dsimp only) | (intro _; try dsimp only))
  all_goals first
    | rfl
    | exact h1
    | exact h2
    | skip
  all_goals (rename _ = (readT x.1).getD [] ∧ _ => p1; obtain ⟨e1, o1⟩ := p1; subst e1)
  all_goals (rename _ = (readT x.2).getD [] ∧ _ => p2; obtain ⟨e2, o2⟩ := p2; subst e2)
  all_goals (try (rename sgQ x.1 _ => q1; obtain ⟨w1, l1⟩ := sgQ_D q1; clear q1; subst w1))
  all_goals (try (rename sgQ x.2 _ => q2; obtain ⟨w2, l2⟩ := sgQ_D q2; clear q2; subst w2))
  all_goals first
    | exact o1
    | exact o2
    | exact l1
    | exact l2
    | exact notA_lt l1
    | exact notA_lt l2
    | (simp [keptF, *]; done)
    | skip)
def s_sKept  : Sig := { X := List UInt8 × List UInt8, args := fun x => [.str x.1, .str x.2], pre := fun x => x.1.length < 2 ^ 62 ∧ x.2.length < 2 ^ 62, Y := Unit, post := fun x y => True, res := fun x y => .bool (keptF x.1 x.2), outs := fun x y => [.top, .top], keep := false }
theorem sKept_ok  : Contract G Tryz.prog 6 s_sKept :=
  vcFun_okP [(16, 0, s_sRead), (17, 0, s_sSameT), (18, 0, s_sSigns), (19, 0, s_sWords), (21, 0, s_sNotes), (20, 0, s_sNotes16)] [] false (fun x => []) Tryz.func6 rfl (by decide) ⟨sRead_ok, sSameT_ok, sSigns_ok, sWords_ok, sNotes_ok, sNotes16_ok, trivial⟩ (fun (x : List UInt8 × List UInt8) => (∀ (y : Unit), True → True ∧ True ∧ True ∧ True) ∧ cA s_sRead [.str x.1] fun x_1 y => cA s_sRead [.str x.2] fun x_2 y_1 => bcase (!Option.isSome (readT x_1)) (rA s_sKept x [.bool false, .top, .top]) (bcase (!Option.isSome (readT x_2)) (rA s_sKept x [.bool false, .top, .top]) (cA s_sSameT [nds y.1, nds y_1.1] fun x_3 y => bcase (!eqF ndEq x_3.1 x_3.2) (rA s_sKept x [.bool false, .top, .top]) (cA s_sSigns [.str x.1] fun x_4 y => cA s_sSigns [.str x.2] fun x_5 y_2 => cA s_sWords [sgs y.1, sgs y_2.1] fun x_6 y_3 => bcase (kwF x_6.1 x_6.2) (cA s_sNotes [sgs y.1] fun x_7 y => cA s_sNotes [sgs y_2.1] fun x_8 y => cA s_sNotes16 [AV.sl false (0 : Nat) (1 : Nat) (List UInt8) strA (notA x_7), AV.sl false (0 : Nat) (1 : Nat) (List UInt8) strA (notA x_8)] fun x_9 y => rA s_sKept x [.bool (eqF tEq x_9.1 x_9.2), .top, .top]) (rA s_sKept x [.bool false, .top, .top]))))) (fun x => by kernel_rfl) fun (x : List UInt8 × List UInt8) (hx : x.1.length < 2 ^ 62 ∧ x.2.length < 2 ^ 62) => (by
  dsimp only [cA, ndA_e, nds, oints, onds, osgs, rA, s_sKept, s_sNotes, s_sNotes16, s_sRead, s_sSameT, s_sSigns, s_sWords, sgA_e, sgs, srd, hndL, hnd1, mvL, lnL, mvE, lnE]
  obtain ⟨h1, h2⟩ := hx
  (repeat' first | (with_reducible first | rfl | exact True.intro | apply inR_i64 | apply And.intro | ((first | apply bcase_dec | apply bcase_bne | apply bcase_beq | apply bcase_not) <;> intro _)) | (apply bcase_intro <;> intro _) | apply sl_eq | refine ex_flip () ?_ ?_ | ((first | apply ex_flip10 | apply ex_flip9 | apply ex_flip8 | apply ex_flip7 | apply ex_flip6 | apply ex_flip5 | apply ex_flip4 | apply ex_flip3 | apply ex_flip2) <;> try dsimp only) | apply ex_flip | (refine Prod.forall.2 ?_; intro _; try dsimp only) | (intro _; try dsimp only))
  all_goals first
    | rfl
    | exact h1
    | exact h2
    | skip
  all_goals (rename _ = (readT x.1).getD [] ∧ _ => p1; obtain ⟨e1, o1⟩ := p1; subst e1)
  all_goals (rename _ = (readT x.2).getD [] ∧ _ => p2; obtain ⟨e2, o2⟩ := p2; subst e2)
  all_goals (try (rename sgQ x.1 _ => q1; obtain ⟨w1, l1⟩ := sgQ_D q1; clear q1; subst w1))
  all_goals (try (rename sgQ x.2 _ => q2; obtain ⟨w2, l2⟩ := sgQ_D q2; clear q2; subst w2))
  all_goals first
    | exact o1
    | exact o2
    | exact l1
    | exact l2
    | exact notA_lt l1
    | exact notA_lt l2
    | (simp [keptF, *]; done)
    | skip)
end Go.My
end
section
set_option linter.unusedVariables false
set_option linter.unusedSimpArgs false
namespace Go.My
open Go.Eng Go.Proofs
variable {G : GInv}
attribute [local irreducible] keptF
def s_lawKept  : Sig := { X := List UInt8 × List UInt8, args := fun x => [.str x.1, .str x.2], pre := fun x => x.1.length < 2 ^ 63 ∧ x.2.length < 2 ^ 63, Y := Unit, post := fun x y => True, res := fun x y => .bool true, outs := fun x y => [.top, .top], keep := false }
theorem lawKept_ok  : Contract G Tryz.prog 3 s_lawKept :=
  vcFun_okP [(6, 0, s_sKept), (7, 0, s_iKept)] [] false (fun x => []) Tryz.func3 rfl (by decide) ⟨sKept_ok, iKept_ok, trivial⟩ (fun (x : List UInt8 × List UInt8) => (∀ (y : Unit), True → True ∧ True ∧ True ∧ True) ∧ bcase (decide ((↑(List.length x.1) : Int) > (1048576 : Int))) (rA s_lawKept x [.bool true, .top, .top]) (bcase (decide ((↑(List.length x.2) : Int) > (1048576 : Int))) (rA s_lawKept x [.bool true, .top, .top]) (cA s_sKept [.str x.1, .str x.2] fun x_1 y => cA s_iKept [.str x.1, .str x.2] fun x_2 y => bcase (!keptF x_2.1 x_2.2 == keptF x_1.1 x_1.2) (rA s_lawKept x [.bool false, .top, .top]) (rA s_lawKept x [.bool true, .top, .top])))) (fun x => by kernel_rfl) fun (x : List UInt8 × List UInt8) (hx : x.1.length < 2 ^ 63 ∧ x.2.length < 2 ^ 63) => (by
  dsimp only [cA, rA, s_iKept, s_lawKept, s_sKept, hndL, hnd1, mvL, lnL, mvE, lnE]
  obtain ⟨h1, h2⟩ := hx
  (repeat' first | (with_reducible first | rfl | exact True.intro | apply inR_i64 | apply And.intro | ((first | apply bcase_dec | apply bcase_bne | apply bcase_beq | apply bcase_not) <;> intro _)) | (apply bcase_intro <;> intro _) | apply sl_eq | refine ex_flip () ?_ ?_ | ((first | apply ex_flip10 | apply ex_flip9 | apply ex_flip8 | apply ex_flip7 | apply ex_flip6 | apply ex_flip5 | apply ex_flip4 | apply ex_flip3 | apply ex_flip2) <;> try dsimp only) | apply ex_flip | (refine Prod.forall.2 ?_; intro _; try dsimp only) | (intro _; try dsimp only))
  all_goals first
    | rfl
    | omega
    | (exfalso; simp at *; done)
    | (simp at *; done)
    | skip)
end Go.My
end
section
set_option linter.unusedVariables false
set_option linter.unusedSimpArgs false
namespace Go.Eng
def Old (w : World) : FP := fun b => w.heap.size ≤ b
def Opens (P : Program) (t : TypeId) {α : Type} (f : α → List AV) (good : α → Prop) : Prop :=
  ∀ {H : Type} (enc : TypeId × Value → H) (w : World) (spare : Nat → Bool) (held : Bool) (fuel : Nat) (cs : List Value) (y : DataW H × List MemPlace),
    DataW.trod enc P w 0 spare held fuel t cs = some y → ∃ x : α, good x ∧ rel0L (Old w) w (f x) cs (fun _ => False)
theorem rel0L_one {Z : FP} {w : World} {a : AV} {v : Value} : rel0L Z w [a] [v] (fun _ => False) ↔ rel0 Z w a v (fun _ => False) := by
  simp only [rel0L]
  constructor
  · rintro ⟨u, cs', A, B, e, hj, h1, h2, h3⟩
    simp only [List.cons.injEq] at e
    obtain ⟨rfl, rfl⟩ := e
    have := (emp_of_join hj emp_false).1
    rwa [emp_eq this] at h1
  · intro h
    exact ⟨v, [], fun _ => False, fun _ => False, rfl, join_emp_left _, h, rfl, emp_false⟩
theorem rel0L_cons {Z : FP} {w : World} {a : AV} {azs : List AV} {v : Value} {vs : List Value} (h1 : rel0 Z w a v (fun _ => False)) (h2 : rel0L Z w azs vs (fun _ => False)) :
    rel0L Z w (a :: azs) (v :: vs) (fun _ => False) := by
  simp only [rel0L]
  exact ⟨v, vs, _, _, rfl, join_emp_left _, h1, h2⟩
theorem opens_str {P : Program} {t : TypeId} (ht : P.underlying t = some .string) : Opens P t (fun s : List UInt8 => [.str s]) (fun s => s.length < 2 ^ 63) := by
  intro H enc w spare held fuel cs y h
  obtain ⟨n, rfl, _, hl⟩ := DataW.trod_string ht h
  refine ⟨n.data.toList, ?_, rel0L_one.2 ?_⟩
  · have : n.data.toList.length ≤ maxLen := hl
    unfold maxLen at this; omega
  · simp only [rel0]; exact ⟨trivial, emp_false⟩
end Go.Eng
end
section
set_option linter.unusedVariables false
set_option linter.unusedSimpArgs false
namespace Go.Eng
open Go.ChangeShapes Go.WideShapes Go.ChangeAt Go.RowKit
theorem after_below {Z Z' A' : FP} {w w' : World} (h : After Z w (fun _ => False) Z' w' A') : Below w.heap.size w w' :=
  ⟨h.os, h.tape, h.output, h.size, fun b hb => (h.old b hb (fun x => x)).1⟩
theorem trodAll_below {H : Type} {enc : TypeId × Value → H} {P : Program} (hl : laidOutB P = true) {W W' : World} (hb : Below W.heap.size W W') :
    ∀ (ts : List TypeId) (vs : List Value) (ds : List (DataW H)) (ps : List MemPlace), ts.all (fun t => P.readableRec t && decide (t < P.types.size)) = true →
    DataW.TrodAll enc P W 0 (fun _ => true) true ts vs ds ps → (∀ x ∈ ps, x.block < W.heap.size) → DataW.TrodAll enc P W' 0 (fun b => decide (b < W.heap.size)) true ts vs ds ps
  | [], [], [], ps, ht, h, hp => h
  | t :: ts, v :: vs, d :: ds, ps, ht, h, hp => by
    obtain ⟨p, q, h1, h2, rfl⟩ := h
    simp only [List.all_cons, Bool.and_eq_true, decide_eq_true_eq] at ht
    exact ⟨p, q, Below.trod hl ht.1.1 ht.1.2 h1 hb (fun x hx => hp x (List.mem_append_left _ hx)), trodAll_below hl hb ts vs ds q ht.2 h2 (fun x hx => hp x (List.mem_append_right _ hx)), rfl⟩
  | [], _ :: _, _, _, ht, h, hp => h.elim
  | [], [], _ :: _, _, ht, h, hp => h.elim
  | _ :: _, [], _, _, ht, h, hp => h.elim
  | _ :: _, _ :: _, [], _, ht, h, hp => h.elim
theorem law_post {H : Type} {enc : TypeId × Value → H} {P : Program} {f : Func} {s : ChangeSpec} {W W' : World} {args : Array Value} {ds gs : List (DataW H)} {before : List MemPlace} {tb : TypeId}
    (hl : laidOutB P = true) (ht : f.params.toList.all (fun t => P.readableRec t && decide (t < P.types.size)) = true) (hv : s.vars = [])
    (hs : s.fn H ds = { results := [.lit (.bool true)], args := ds }) (hr : f.resultTypes = #[tb]) (htb : P.underlying tb = some .bool)
    (hW : DataW.Whole enc P f.params.toList s.vars false W args.toList ds gs before) (hb : Below W.heap.size W W') : s.post enc P f false true false false W args (.bool true) W' := by
  have hW0 := hW
  obtain ⟨p, q, hA, hV, rfl, hfz, hnd⟩ := hW
  rw [hv] at hV
  obtain ⟨rfl, rfl⟩ := trodVars_none hV
  refine ⟨ds, [], p ++ [], [], p, [], hW0, ?_, ?_, ?_, hb.frame _, fun h => by cases h⟩
  · simp only [List.append_nil]
    rw [hs, hr]
    exact trodAll_mk1 (shut_bool htb _)
  · simp only [List.append_nil]
    rw [hs]
    exact trodAll_below hl hb _ _ _ _ ht hA (fun x hx => by simpa using hW0.lt x (by simpa using hx))
  · simp only [List.append_nil]
    rw [hs, hv]
    rfl
def noG : GInv := ⟨fun _ _ => True, fun _ _ _ _ _ _ => trivial⟩
def lawSig (X : Type) (args : X → List AV) (pre : X → Prop) (n : Nat) : Sig :=
  { X := X, args := args, pre := pre, Y := Unit, post := fun _ _ => True, res := fun _ _ => .bool true, outs := fun _ _ => List.replicate n .top, keep := false }
theorem law_calls {H : Type} {enc : TypeId × Value → H} {P : Program} {fi : FuncId} {f : Func} {s : ChangeSpec} {W : World} {args : Array Value} {ds gs : List (DataW H)} {before : List MemPlace} {tb : TypeId}
    {X : Type} {azs : X → List AV} {pre : X → Prop} {n : Nat} {G : GInv} (hc : Contract G P fi (lawSig X azs pre n)) (hG : G.p (Old W) W)
    (hl : laidOutB P = true) (ht : f.params.toList.all (fun t => P.readableRec t && decide (t < P.types.size)) = true) (hv : s.vars = [])
    (hs : s.fn H ds = { results := [.lit (.bool true)], args := ds }) (hr : f.resultTypes = #[tb]) (htb : P.underlying tb = some .bool)
    (hW : DataW.Whole enc P f.params.toList s.vars false W args.toList ds gs before)
    (ho : ∃ x, pre x ∧ rel0L (Old W) W (azs x) args.toList (fun _ => False)) :
    Calls P fi args W fun e W' => ∃ v, e = .returned v ∧ s.post enc P f false true false false W args v W' := by
  obtain ⟨x, hx, hrel⟩ := ho
  refine (hc.2 x hx (Old W) W args.toList _ hG hrel (fun b h => h.elim) trivial).mono fun e W' h => ?_
  obtain ⟨y, v, Z', A', _, rfl, hr2, hafter⟩ := h
  simp only [rel0L] at hr2
  obtain ⟨v', us, A1, A2, e1, _, h1, _⟩ := hr2
  simp only [List.cons.injEq] at e1
  obtain ⟨rfl, _⟩ := e1
  have : v = .bool true := by
    have h1 : rel0 Z' W' (.bool true) v A1 := h1
    simp only [rel0] at h1; exact h1.1
  subst this
  exact ⟨_, rfl, law_post hl ht hv hs hr htb hW (after_below hafter)⟩
end Go.Eng
end
section
set_option linter.unusedVariables false
set_option linter.unusedSimpArgs false
namespace Go.Eng
open Go.ChangeShapes Go.WideShapes Go.ChangeAt Go.RowKit
theorem open_one {H : Type} {enc : TypeId × Value → H} {P : Program} {t : TypeId} {α : Type} {f : α → AV} {good : α → Prop} (hO : Opens P t (fun x => [f x]) good) {W : World} {v : Value} (hc : isCell v)
    {d : DataW H} {ps : List MemPlace} (h : DataW.Trod enc P W 0 (fun _ => true) true t v d ps) : ∃ x, good x ∧ rel0 (Old W) W (f x) v (fun _ => False) := by
  obtain ⟨fuel, hf⟩ := h
  rw [cells_of_cell hc] at hf
  obtain ⟨x, hg, hr⟩ := hO enc W _ _ fuel _ _ hf
  exact ⟨x, hg, rel0L_one.1 hr⟩
theorem open_str1 {H : Type} {enc : TypeId × Value → H} {P : Program} {t : TypeId} (ht : P.underlying t = some .string) {W : World} {r : Reach} {base : Nat} {v : Value} (hv : Value.okWide P W r base t v)
    {d : DataW H} {ps : List MemPlace} (h : DataW.Trod enc P W 0 (fun _ => true) true t v d ps) : ∃ s : List UInt8, s.length < 2 ^ 63 ∧ rel0 (Old W) W (.str s) v (fun _ => False) :=
  open_one (opens_str ht) (by obtain ⟨n, rfl⟩ := okWide_string ht hv; trivial) h
theorem rel0L_nil {Z : FP} {w : World} : rel0L Z w [] [] (fun _ => False) := ⟨rfl, emp_false⟩
end Go.Eng
end
section
namespace Go.My
end Go.My
end
