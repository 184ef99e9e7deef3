/- A part of the proof: the engine and the contracts, joined. -/
import Derived.Test.YtinkjpfkemkhaaaDoorQG
import Derived.ProofKit
import Derived.Test.YtinkjpfkemkhaaaDoorProg
section
/- The laws' helpers over groups and marks; the laws of order and of groups. -/
set_option linter.unusedVariables false
set_option linter.unusedSimpArgs false
namespace Go.My
open Go.Eng Go.Proofs
variable {G : GInv}

theorem ex_gr {p q : Gr → Prop} (a : List Int) (b : Int) (h1 : p ⟨a, b⟩) (h2 : q ⟨a, b⟩) : ∃ x, p x ∧ q x := ⟨_, h1, h2⟩
theorem ex_nd {p q : Nd → Prop} (a : Int) (b : List UInt8) (c : List Int) (d : Bool) (h1 : p ⟨a, b, c, d⟩) (h2 : q ⟨a, b, c, d⟩) : ∃ x, p x ∧ q x := ⟨_, h1, h2⟩
theorem ex_gr2 {p q : Gr → Prop} (a : List Int) (b : Int) (h2 : q ⟨a, b⟩) (h1 : p ⟨a, b⟩) : ∃ x, p x ∧ q x := ⟨_, h1, h2⟩
theorem ex_nd2 {p q : Nd → Prop} (a : Int) (b : List UInt8) (c : List Int) (d : Bool) (h2 : q ⟨a, b, c, d⟩) (h1 : p ⟨a, b, c, d⟩) : ∃ x, p x ∧ q x := ⟨_, h1, h2⟩
def s_eqGr  : Sig := { X := Gr × Gr, args := fun x => [.agg (grA false x.1), .agg (grA false x.2)], pre := fun x => x.1.notes.length < 2 ^ 62 ∧ x.2.notes.length < 2 ^ 62, Y := Unit, post := fun x y => True, res := fun x y => .bool (beqGr x.1 x.2), outs := fun x y => [.top, .top], keep := false }
theorem eqGr_vc (x : Gr × Gr) : vcFun Go.Proofs.Tryd.prog (Γof [(53, 0, s_eqInts)]) (Eof []) false (Lof ([])) Go.Proofs.Tryd.f39.ntmps Go.Proofs.Tryd.f39.results.toList (Go.Proofs.Tryd.f39.body.getD .skip) s_eqGr x = ((∀ (y : Unit), True → True ∧ True ∧ True ∧ True) ∧ ∃ (x_1 : List Int × List Int), (List.length x_1.fst < (9223372036854775808 : Nat) ∧ List.length x_1.snd < (9223372036854775808 : Nat)) ∧ AV.sl false (0 : Nat) (1 : Nat) Int intA x.fst.notes = AV.sl false (0 : Nat) (1 : Nat) Int intA x_1.fst ∧ AV.sl false (0 : Nat) (1 : Nat) Int intA x.snd.notes = AV.sl false (0 : Nat) (1 : Nat) Int intA x_1.snd ∧ ∀ (y : Unit), True → bcase (!x_1.fst == x_1.snd) (∃ (y : Unit), True ∧ false = beqGr x.fst x.snd ∧ True) (bcase (x.fst.member != x.snd.member) (∃ (y : Unit), True ∧ false = beqGr x.fst x.snd ∧ True) (∃ (y : Unit), True ∧ true = beqGr x.fst x.snd ∧ True))) := by kernel_rfl
theorem eqGr_ok  : Contract G Tryd.prog 39 s_eqGr :=
  vcFun_ok (Γ := Γof [(53, 0, s_eqInts)]) (E := Eof []) (ov := false) (L := fun x => Lof ([])) Tryd.func39 rfl (by decide) (Γof_ok (l := [(53, 0, s_eqInts)]) ⟨eqInts_ok, trivial⟩) fun (x : Gr × Gr) (hx : x.1.notes.length < 2 ^ 62 ∧ x.2.notes.length < 2 ^ 62) => (eqGr_vc  x).mpr (by
  obtain ⟨h1, h2⟩ := hx
  (repeat' first | with_reducible rfl | exact True.intro | refine inR_i64 ?_ ?_ | with_reducible refine And.intro ?_ ?_ | with_reducible refine bcase_dec (fun _ => ?_) (fun _ => ?_) | with_reducible refine bcase_bne (fun _ => ?_) (fun _ => ?_) | with_reducible refine bcase_beq (fun _ => ?_) (fun _ => ?_) | with_reducible refine bcase_not (fun _ => ?_) (fun _ => ?_) | refine bcase_intro (fun _ => ?_) (fun _ => ?_) | refine sl_eq ?_ | refine ex_flip () ?_ ?_ | (apply ex_flip6 <;> try dsimp only) | (apply ex_flip5 <;> try dsimp only) | (apply ex_flip4 <;> try dsimp only) | (apply ex_flip3 <;> try dsimp only) | (apply ex_flip2 <;> try dsimp only) | apply ex_flip | (refine Prod.forall.2 ?_; intro _; try dsimp only) | (intro _; try dsimp only)) <;> (try dsimp only at *) <;> (try simp only [i64max, List.length_cons, List.length_nil]) <;> (try omega)
  all_goals simp_all [beqGr]
  all_goals omega)

def lEqGrs (x : List Gr × List Gr) : LS := {
  ι := Int, inv := fun i => 0 ≤ i ∧ i ≤ x.1.length ∧ x.1.take i.toNat = x.2.take i.toNat, regs := fun i => [(0, grs x.1), (1, grs x.2), (5, .int .i64 i)], als := [], meas := fun i => x.1.length - i.toNat }
def s_eqGrs  : Sig := { X := List Gr × List Gr, args := fun x => [grs x.1, grs x.2], pre := fun x => smallGrs x.1 ∧ smallGrs x.2, Y := Unit, post := fun x y => True, res := fun x y => .bool (beqGrs x.1 x.2), outs := fun x y => [.top, .top], keep := false }
theorem eqGrs_vc (x : List Gr × List Gr) : vcFun Go.Proofs.Tryd.prog (Γof [(39, 0, s_eqGr)]) (Eof []) false (Lof ([(4,lEqGrs x)])) Go.Proofs.Tryd.f18.ntmps Go.Proofs.Tryd.f18.results.toList (Go.Proofs.Tryd.f18.body.getD .skip) s_eqGrs x = ((∀ (y : Unit), True → True ∧ True ∧ True ∧ True) ∧ bcase ((↑(List.length x.fst) : Int) != (↑(List.length x.snd) : Int)) (∃ (y : Unit), True ∧ false = beqGrs x.fst x.snd ∧ True) ((∃ (i : Int), ((0 : Int) ≤ i ∧ i ≤ (↑(List.length x.fst) : Int) ∧ List.take (Int.toNat i) x.fst = List.take (Int.toNat i) x.snd) ∧ (AV.sl false (0 : Nat) (2 : Nat) Gr (grA false) x.fst = AV.sl false (0 : Nat) (2 : Nat) Gr (grA false) x.fst ∧ AV.sl false (0 : Nat) (2 : Nat) Gr (grA false) x.snd = AV.sl false (0 : Nat) (2 : Nat) Gr (grA false) x.snd ∧ (0 : Int) = i ∧ True) ∧ True) ∧ ∀ (i : Int), (0 : Int) ≤ i ∧ i ≤ (↑(List.length x.fst) : Int) ∧ List.take (Int.toNat i) x.fst = List.take (Int.toNat i) x.snd → bcase (decide (i < (↑(List.length x.fst) : Int))) (true = true ∧ true = true ∧ ((0 : Int) ≤ i ∧ i < (↑(List.length x.fst) : Int)) ∧ ∀ (e : Gr), x.fst[Int.toNat i]? = some e → ((0 : Int) ≤ i ∧ i < (↑(List.length x.snd) : Int)) ∧ ∀ (e_1 : Gr), x.snd[Int.toNat i]? = some e_1 → ∃ (x_1 : Gr × Gr), (List.length x_1.fst.notes < (4611686018427387904 : Nat) ∧ List.length x_1.snd.notes < (4611686018427387904 : Nat)) ∧ AV.sl false (0 : Nat) (1 : Nat) Int intA e.notes = AV.sl false (0 : Nat) (1 : Nat) Int intA x_1.fst.notes ∧ e.member = x_1.fst.member ∧ AV.sl false (0 : Nat) (1 : Nat) Int intA e_1.notes = AV.sl false (0 : Nat) (1 : Nat) Int intA x_1.snd.notes ∧ e_1.member = x_1.snd.member ∧ ∃ (y0 : Unit), (∀ (y : Unit), True → AV.bool (beqGr x_1.fst x_1.snd) = AV.bool (beqGr x_1.fst x_1.snd)) ∧ true = true ∧ bcase (!beqGr x_1.fst x_1.snd) (∃ (y : Unit), True ∧ false = beqGrs x.fst x.snd ∧ True) (inR IntKind.i64 (i + (1 : Int)) ∧ ∃ (i' : Int), ((0 : Int) ≤ i' ∧ i' ≤ (↑(List.length x.fst) : Int) ∧ List.take (Int.toNat i') x.fst = List.take (Int.toNat i') x.snd) ∧ List.length x.fst - Int.toNat i' < List.length x.fst - Int.toNat i ∧ (AV.sl false (0 : Nat) (2 : Nat) Gr (grA false) x.fst = AV.sl false (0 : Nat) (2 : Nat) Gr (grA false) x.fst ∧ AV.sl false (0 : Nat) (2 : Nat) Gr (grA false) x.snd = AV.sl false (0 : Nat) (2 : Nat) Gr (grA false) x.snd ∧ i + (1 : Int) = i' ∧ True) ∧ True)) (∃ (y : Unit), True ∧ true = beqGrs x.fst x.snd ∧ True))) := by kernel_rfl
theorem eqGrs_ok  : Contract G Tryd.prog 18 s_eqGrs :=
  vcFun_ok (Γ := Γof [(39, 0, s_eqGr)]) (E := Eof []) (ov := false) (L := fun x => Lof ([(4,lEqGrs x)])) Tryd.func18 rfl (by decide) (Γof_ok (l := [(39, 0, s_eqGr)]) ⟨eqGr_ok, trivial⟩) fun (x : List Gr × List Gr) (hx : smallGrs x.1 ∧ smallGrs x.2) => (eqGrs_vc  x).mpr (by
  obtain ⟨h1, h2⟩ := hx; have hl1 := h1.1; have hl2 := h2.1
  (repeat' first | with_reducible rfl | exact True.intro | refine inR_i64 ?_ ?_ | with_reducible refine And.intro ?_ ?_ | with_reducible refine bcase_dec (fun _ => ?_) (fun _ => ?_) | with_reducible refine bcase_bne (fun _ => ?_) (fun _ => ?_) | with_reducible refine bcase_beq (fun _ => ?_) (fun _ => ?_) | with_reducible refine bcase_not (fun _ => ?_) (fun _ => ?_) | refine bcase_intro (fun _ => ?_) (fun _ => ?_) | refine sl_eq ?_ | refine ex_flip () ?_ ?_ | (apply ex_flip6 <;> try dsimp only) | (apply ex_flip5 <;> try dsimp only) | (apply ex_flip4 <;> try dsimp only) | (apply ex_flip3 <;> try dsimp only) | (apply ex_flip2 <;> try dsimp only) | apply ex_flip | (refine Prod.forall.2 ?_; intro _; try dsimp only) | (intro _; try dsimp only)) <;> (try dsimp only at *) <;> (try simp only [i64max, List.length_cons, List.length_nil]) <;> (try omega)
  · rename_i h; exact beqGrs_false (fun e => h (by rw [e]))
  · rfl
  · rename_i h i hi hl e he f hf hn
    exact beqGrs_false (fun e => by rw [e, hf] at he; rw [Option.some.inj he, beqGr_self] at hn; cases hn)
  · rename_i h i hi hl e he f hf hn
    exact takeEq hi.1 hi.2.2 he hf (beqGr_eq.1 hn)
  · rename_i h i hi hl e he f hf
    have := h1.2 _ (memE he); omega
  · rename_i h i hi hl e he f hf
    have := h2.2 _ (memE hf); omega
  · rename_i h i hi hl
    exact beqGrs_true (takeAll (by omega) hi.2.2 (by omega)))

theorem mk_len {k i : Int} {l : List Int} (h : 0 ≤ i ∧ i ≤ l.length) : (mkI k i.toNat ++ l.drop i.toNat).length = l.length := by rw [List.length_append, mkI_len, List.length_drop]; omega
theorem mk_set {k i : Int} {l : List Int} (h : 0 ≤ i ∧ i ≤ l.length) (hl : i < ((mkI k i.toNat ++ l.drop i.toNat).length : Int)) : (mkI k i.toNat ++ l.drop i.toNat).set i.toNat (k + i) = mkI k (i + 1).toNat ++ l.drop (i + 1).toNat := by
  rw [mk_len h] at hl
  have := @mkI_set k l i.toNat (by omega)
  rw [show ((i.toNat : Nat) : Int) = i by omega] at this
  rw [this, toNat1 h.1]
theorem mk_end {k i : Int} {l : List Int} (h : 0 ≤ i ∧ i ≤ l.length) (hl : ¬ i < ((mkI k i.toNat ++ l.drop i.toNat).length : Int)) : mkI k i.toNat ++ l.drop i.toNat = mkI k l.length := by
  rw [mk_len h] at hl
  exact mkI_full (by omega) (by omega)
theorem mk_end2 {k i : Int} {l : List Int} (h : 0 ≤ i ∧ i ≤ l.length) (hl : ¬ i < ((mkI k i.toNat ++ l.drop i.toNat).length : Int)) : k + i = k + l.length := by
  rw [mk_len h] at hl; omega
def s_markInts  : Sig := { X := List Int × Int, args := fun x => [oints x.1, .int .i64 x.2], pre := fun x => x.1.length ≤ 2 ^ 40 ∧ 0 ≤ x.2 ∧ x.2 ≤ 2 ^ 60, Y := Unit, post := fun x y => True, res := fun x y => .int .i64 (x.2 + x.1.length), outs := fun x y => [oints (mkI x.2 x.1.length), .top], keep := false, fixed := [0] }
theorem markInts_vc (x : List Int × Int) : vcFun Go.Proofs.Tryd.prog (Γof []) (Eof []) false (Lof ([(2,{ ι := Int, inv := fun i => 0 ≤ i ∧ i ≤ x.1.length, regs := fun i => [(0, oints (mkI x.2 i.toNat ++ x.1.drop i.toNat)), (1, .int .i64 (x.2 + i)), (5, .int .i64 i)], als := [], meas := fun i => x.1.length - i.toNat })])) Go.Proofs.Tryd.f41.ntmps Go.Proofs.Tryd.f41.results.toList (Go.Proofs.Tryd.f41.body.getD .skip) s_markInts x = ((∀ (y : Unit), True → True ∧ (∀ (x : Int), True ∧ True) ∧ True ∧ True) ∧ (∃ (i : Int), ((0 : Int) ≤ i ∧ i ≤ (↑(List.length x.fst) : Int)) ∧ (AV.sl true (0 : Nat) (1 : Nat) Int intA x.fst = AV.sl true (0 : Nat) (1 : Nat) Int intA (mkI x.snd (Int.toNat i) ++ List.drop (Int.toNat i) x.fst) ∧ x.snd = x.snd + i ∧ (0 : Int) = i ∧ True) ∧ True) ∧ ∀ (i : Int), (0 : Int) ≤ i ∧ i ≤ (↑(List.length x.fst) : Int) → bcase (decide (i < (↑(List.length (mkI x.snd (Int.toNat i) ++ List.drop (Int.toNat i) x.fst)) : Int))) (((0 : Int) ≤ i ∧ i < (↑(List.length (mkI x.snd (Int.toNat i) ++ List.drop (Int.toNat i) x.fst)) : Int)) ∧ Int.toNat i < List.length (mkI x.snd (Int.toNat i) ++ List.drop (Int.toNat i) x.fst) ∧ ∀ (x_1 : Int), (mkI x.snd (Int.toNat i) ++ List.drop (Int.toNat i) x.fst)[Int.toNat i]? = some x_1 → ∃ (x' : Int), ((@List.nil AV) = [] ∧ (@List.nil AV) = []) ∧ x.snd + i = x' ∧ inR IntKind.i64 (x.snd + i + (1 : Int)) ∧ inR IntKind.i64 (i + (1 : Int)) ∧ ∃ (i' : Int), ((0 : Int) ≤ i' ∧ i' ≤ (↑(List.length x.fst) : Int)) ∧ List.length x.fst - Int.toNat i' < List.length x.fst - Int.toNat i ∧ (AV.sl true (0 : Nat) (1 : Nat) Int intA (List.set (mkI x.snd (Int.toNat i) ++ List.drop (Int.toNat i) x.fst) (Int.toNat i) x') = AV.sl true (0 : Nat) (1 : Nat) Int intA (mkI x.snd (Int.toNat i') ++ List.drop (Int.toNat i') x.fst) ∧ x.snd + i + (1 : Int) = x.snd + i' ∧ i + (1 : Int) = i' ∧ True) ∧ True) (∃ (y : Unit), True ∧ x.snd + i = x.snd + (↑(List.length x.fst) : Int) ∧ AV.sl true (0 : Nat) (1 : Nat) Int intA (mkI x.snd (Int.toNat i) ++ List.drop (Int.toNat i) x.fst) = AV.sl true (0 : Nat) (1 : Nat) Int intA (mkI x.snd (List.length x.fst)) ∧ True)) := by kernel_rfl
theorem markInts_ok  : Contract G Tryd.prog 41 s_markInts :=
  vcFun_ok (Γ := Γof []) (E := Eof []) (ov := false) (L := fun x => Lof ([(2,{ ι := Int, inv := fun i => 0 ≤ i ∧ i ≤ x.1.length, regs := fun i => [(0, oints (mkI x.2 i.toNat ++ x.1.drop i.toNat)), (1, .int .i64 (x.2 + i)), (5, .int .i64 i)], als := [], meas := fun i => x.1.length - i.toNat })])) Tryd.func41 rfl (by decide) (Γof_ok (l := []) trivial) fun (x : List Int × Int) (hx : x.1.length ≤ 2 ^ 40 ∧ 0 ≤ x.2 ∧ x.2 ≤ 2 ^ 60) => (markInts_vc  x).mpr (by
  obtain ⟨h1, h2, h3⟩ := hx
  (repeat' first | with_reducible rfl | exact True.intro | refine inR_i64 ?_ ?_ | with_reducible refine And.intro ?_ ?_ | with_reducible refine bcase_dec (fun _ => ?_) (fun _ => ?_) | with_reducible refine bcase_bne (fun _ => ?_) (fun _ => ?_) | with_reducible refine bcase_beq (fun _ => ?_) (fun _ => ?_) | with_reducible refine bcase_not (fun _ => ?_) (fun _ => ?_) | refine bcase_intro (fun _ => ?_) (fun _ => ?_) | refine sl_eq ?_ | refine ex_flip () ?_ ?_ | (apply ex_flip6 <;> try dsimp only) | (apply ex_flip5 <;> try dsimp only) | (apply ex_flip4 <;> try dsimp only) | (apply ex_flip3 <;> try dsimp only) | (apply ex_flip2 <;> try dsimp only) | apply ex_flip | (refine Prod.forall.2 ?_; intro _; try dsimp only) | (intro _; try dsimp only))
  all_goals first
    | rfl
    | (simp [mkI]; done)
    | exact mk_set (by assumption) (by assumption)
    | exact mk_end (by assumption) (by assumption)
    | exact mk_end2 (by assumption) (by assumption)
    | ((try simp only [i64max]); omega)
    | (have hi := (show (0 : Int) ≤ _ ∧ _ ≤ (x.1.length : Int) by assumption); have hl := @mk_len x.2 _ x.1 hi; (try simp only [i64max]); omega)
    | skip)

def s_heldInts  : Sig := { X := List Int × Int, args := fun x => [ints x.1, .int .i64 x.2], pre := fun x => x.1 = mkI x.2 x.1.length ∧ x.1.length ≤ 2 ^ 40 ∧ 0 ≤ x.2 ∧ x.2 ≤ 2 ^ 60, Y := Unit, post := fun x y => True, res := fun x y => .int .i64 (x.2 + x.1.length), outs := fun x y => [.top, .top], keep := false }
theorem heldInts_vc (x : List Int × Int) : vcFun Go.Proofs.Tryd.prog (Γof []) (Eof []) false (Lof ([(2,{ ι := Int, inv := fun i => 0 ≤ i ∧ i ≤ x.1.length, regs := fun i => [(0, ints x.1), (1, .int .i64 (x.2 + i)), (5, .int .i64 i)], als := [], meas := fun i => x.1.length - i.toNat })])) Go.Proofs.Tryd.f42.ntmps Go.Proofs.Tryd.f42.results.toList (Go.Proofs.Tryd.f42.body.getD .skip) s_heldInts x = ((∀ (y : Unit), True → True ∧ True ∧ True ∧ True) ∧ (∃ (i : Int), ((0 : Int) ≤ i ∧ i ≤ (↑(List.length x.fst) : Int)) ∧ (AV.sl false (0 : Nat) (1 : Nat) Int intA x.fst = AV.sl false (0 : Nat) (1 : Nat) Int intA x.fst ∧ x.snd = x.snd + i ∧ (0 : Int) = i ∧ True) ∧ True) ∧ ∀ (i : Int), (0 : Int) ≤ i ∧ i ≤ (↑(List.length x.fst) : Int) → bcase (decide (i < (↑(List.length x.fst) : Int))) (((0 : Int) ≤ i ∧ i < (↑(List.length x.fst) : Int)) ∧ ∀ (e : Int), x.fst[Int.toNat i]? = some e → bcase (e != x.snd + i) (∃ (y : Unit), True ∧ (-1 : Int) = x.snd + (↑(List.length x.fst) : Int) ∧ True) (inR IntKind.i64 (x.snd + i + (1 : Int)) ∧ inR IntKind.i64 (i + (1 : Int)) ∧ ∃ (i' : Int), ((0 : Int) ≤ i' ∧ i' ≤ (↑(List.length x.fst) : Int)) ∧ List.length x.fst - Int.toNat i' < List.length x.fst - Int.toNat i ∧ (AV.sl false (0 : Nat) (1 : Nat) Int intA x.fst = AV.sl false (0 : Nat) (1 : Nat) Int intA x.fst ∧ x.snd + i + (1 : Int) = x.snd + i' ∧ i + (1 : Int) = i' ∧ True) ∧ True)) (∃ (y : Unit), True ∧ x.snd + i = x.snd + (↑(List.length x.fst) : Int) ∧ True)) := by kernel_rfl
theorem heldInts_ok  : Contract G Tryd.prog 42 s_heldInts :=
  vcFun_ok (Γ := Γof []) (E := Eof []) (ov := false) (L := fun x => Lof ([(2,{ ι := Int, inv := fun i => 0 ≤ i ∧ i ≤ x.1.length, regs := fun i => [(0, ints x.1), (1, .int .i64 (x.2 + i)), (5, .int .i64 i)], als := [], meas := fun i => x.1.length - i.toNat })])) Tryd.func42 rfl (by decide) (Γof_ok (l := []) trivial) fun (x : List Int × Int) (hx : x.1 = mkI x.2 x.1.length ∧ x.1.length ≤ 2 ^ 40 ∧ 0 ≤ x.2 ∧ x.2 ≤ 2 ^ 60) => (heldInts_vc  x).mpr (by
  obtain ⟨h0, h1, h2, h3⟩ := hx
  have hat : ∀ {i v : Int}, 0 ≤ i → x.1[i.toNat]? = some v → v = x.2 + i := by
    intro i v hi hv
    have hl := (getE hv).1
    rw [h0, mkI_at hl] at hv
    simp only [Option.some.injEq] at hv; omega
  (repeat' first | with_reducible rfl | exact True.intro | refine inR_i64 ?_ ?_ | with_reducible refine And.intro ?_ ?_ | with_reducible refine bcase_dec (fun _ => ?_) (fun _ => ?_) | with_reducible refine bcase_bne (fun _ => ?_) (fun _ => ?_) | with_reducible refine bcase_beq (fun _ => ?_) (fun _ => ?_) | with_reducible refine bcase_not (fun _ => ?_) (fun _ => ?_) | refine bcase_intro (fun _ => ?_) (fun _ => ?_) | refine sl_eq ?_ | refine ex_flip () ?_ ?_ | (apply ex_flip6 <;> try dsimp only) | (apply ex_flip5 <;> try dsimp only) | (apply ex_flip4 <;> try dsimp only) | (apply ex_flip3 <;> try dsimp only) | (apply ex_flip2 <;> try dsimp only) | apply ex_flip | (refine Prod.forall.2 ?_; intro _; try dsimp only) | (intro _; try dsimp only))
  all_goals try (have hv := hat (show 0 ≤ _ from And.left (by assumption)) (by assumption))
  all_goals first
    | rfl
    | ((try simp only [i64max]); omega)
    | skip)

def mkB (l : List Gr) : Prop := l.length ≤ 12 ∧ ∀ g ∈ l, g.notes.length ≤ 12
theorem mkB_tot {l : List Gr} {i : Nat} (h : mkB l) : 0 ≤ totG (l.take i) ∧ totG (l.take i) ≤ 200 := by
  have := @totG_bd (l.take i) 12 fun g hg => h.2 g (List.mem_of_mem_take hg)
  have h2 : (l.take i).length ≤ 12 := by rw [List.length_take]; have := h.1; omega
  omega
def mgI (l : List Gr) (i : Int) : Prop := mkB l ∧ 0 ≤ i ∧ i ≤ l.length
theorem mgI_len {k i : Int} {l : List Gr} (h : mgI l i) : (mkGs k (l.take i.toNat) ++ l.drop i.toNat).length = l.length := by
  obtain ⟨_, h1, h2⟩ := h
  rw [List.length_append, mkGs_len, List.length_take, List.length_drop]; omega
theorem mgI_at {k i : Int} {l : List Gr} {g : Gr} (h : mgI l i) (hg : (mkGs k (l.take i.toNat) ++ l.drop i.toNat)[i.toNat]? = some g) : l[i.toNat]? = some g := by
  have hlt := (getE hg).1
  rw [mgI_len h] at hlt
  have hl : (mkGs k (l.take i.toNat)).length = i.toNat := by rw [mkGs_len, List.length_take]; omega
  rw [List.getElem?_append_right (by omega), hl, Nat.sub_self] at hg
  simpa using hg
theorem mgI_g {k i : Int} {l : List Gr} {g : Gr} (h : mgI l i) (hg : (mkGs k (l.take i.toNat) ++ l.drop i.toNat)[i.toNat]? = some g) : g.notes.length ≤ 12 := h.1.2 g (memE (mgI_at h hg))
theorem mg_set1 {l : List Gr} {i : Nat} {a b : Gr} (h : i < l.length) : (l.set i a)[i]? = some b ↔ a = b := by
  rw [List.getElem?_set_self h]; simp
theorem mg_set2 {l : List Gr} {i : Nat} {a b : Gr} : (l.set i a).set i b = l.set i b := List.set_set ..
theorem mg_step {k i : Int} {l : List Gr} {g b : Gr} (h : mgI l i) (hg : (mkGs k (l.take i.toNat) ++ l.drop i.toNat)[i.toNat]? = some g) (hb : b = mkG (k + totG (l.take i.toNat)) g) :
    (mkGs k (l.take i.toNat) ++ l.drop i.toNat).set i.toNat b = mkGs k (l.take (i + 1).toNat) ++ l.drop (i + 1).toNat := by
  rw [hb, mkGs_set (mgI_at h hg), toNat1 h.2.1]
theorem mg_tot {k i : Int} {l : List Gr} {g : Gr} (h : mgI l i) (hg : (mkGs k (l.take i.toNat) ++ l.drop i.toNat)[i.toNat]? = some g) : k + totG (l.take i.toNat) + g.notes.length + 1 = k + totG (l.take (i + 1).toNat) := by
  rw [toNat1 h.2.1, takeE (mgI_at h hg), totG_snoc]; omega
theorem mg_end {k i : Int} {l : List Gr} (h : mgI l i) (hl : ¬ i < ((mkGs k (l.take i.toNat) ++ l.drop i.toNat).length : Int)) : mkGs k (l.take i.toNat) ++ l.drop i.toNat = mkGs k l ∧ k + totG (l.take i.toNat) = k + totG l := by
  rw [mgI_len h] at hl
  rw [List.take_of_length_le (by omega), List.drop_eq_nil_of_le (by omega)]; simp
theorem mg_set2' {k i : Int} {l : List Gr} {g b c : Gr} (h : mgI l i) (hg : (mkGs k (l.take i.toNat) ++ l.drop i.toNat)[i.toNat]? = some g) (hb : b = mkG (k + totG (l.take i.toNat)) g) :
    ((mkGs k (l.take i.toNat) ++ l.drop i.toNat).set i.toNat c).set i.toNat b = mkGs k (l.take (i + 1).toNat) ++ l.drop (i + 1).toNat := by
  rw [mg_set2]; exact mg_step h hg hb
theorem mg_set3 {k i : Int} {l : List Gr} {g c b : Gr} (h : mgI l i) (hg : (mkGs k (l.take i.toNat) ++ l.drop i.toNat)[i.toNat]? = some g) (hb : ((mkGs k (l.take i.toNat) ++ l.drop i.toNat).set i.toNat c)[i.toNat]? = some b) : c = b :=
  (mg_set1 (getE hg).1).1 hb
theorem mgI_tot {i : Int} {l : List Gr} (h : mgI l i) : 0 ≤ totG (l.take i.toNat) ∧ totG (l.take i.toNat) ≤ 200 := mkB_tot h.1
def lMkGrs (x : List Gr × Int) : LS := {
  ι := Int, inv := mgI x.1, regs := fun i => [(0, ogrs (mkGs x.2 (x.1.take i.toNat) ++ x.1.drop i.toNat)), (1, .int .i64 (x.2 + totG (x.1.take i.toNat))), (5, .int .i64 i)], als := [], meas := fun i => x.1.length - i.toNat }
def s_markGrs  : Sig := { X := List Gr × Int, args := fun x => [ogrs x.1, .int .i64 x.2], pre := fun x => mkB x.1 ∧ 0 ≤ x.2 ∧ x.2 ≤ 2 ^ 50, Y := Unit, post := fun x y => True, res := fun x y => .int .i64 (x.2 + totG x.1), outs := fun x y => [ogrs (mkGs x.2 x.1), .top], keep := false, fixed := [0] }
theorem markGrs_vc (x : List Gr × Int) : vcFun Go.Proofs.Tryd.prog (Γof [(41, 0, s_markInts)]) (Eof []) false (Lof ([(2,lMkGrs x)])) Go.Proofs.Tryd.f20.ntmps Go.Proofs.Tryd.f20.results.toList (Go.Proofs.Tryd.f20.body.getD .skip) s_markGrs x = ((∀ (y : Unit), True → True ∧ (∀ (x : Gr), (∀ (x : Int), True ∧ True) ∧ True ∧ True) ∧ True ∧ True) ∧ (∃ (i : Int), mgI x.fst i ∧ (AV.sl true (0 : Nat) (2 : Nat) Gr (grA true) x.fst = AV.sl true (0 : Nat) (2 : Nat) Gr (grA true) (mkGs x.snd (List.take (Int.toNat i) x.fst) ++ List.drop (Int.toNat i) x.fst) ∧ x.snd = x.snd + totG (List.take (Int.toNat i) x.fst) ∧ (0 : Int) = i ∧ True) ∧ True) ∧ ∀ (i : Int), mgI x.fst i → bcase (decide (i < (↑(List.length (mkGs x.snd (List.take (Int.toNat i) x.fst) ++ List.drop (Int.toNat i) x.fst)) : Int))) (((0 : Int) ≤ i ∧ i < (↑(List.length (mkGs x.snd (List.take (Int.toNat i) x.fst) ++ List.drop (Int.toNat i) x.fst)) : Int)) ∧ Int.toNat i < List.length (mkGs x.snd (List.take (Int.toNat i) x.fst) ++ List.drop (Int.toNat i) x.fst) ∧ ∀ (z : Gr), (mkGs x.snd (List.take (Int.toNat i) x.fst) ++ List.drop (Int.toNat i) x.fst)[Int.toNat i]? = some z → ∃ (x_1 : List Int × Int), (List.length x_1.fst ≤ (1099511627776 : Nat) ∧ (0 : Int) ≤ x_1.snd ∧ x_1.snd ≤ (2 : Int) ^ (60 : Nat)) ∧ AV.sl true (0 : Nat) (1 : Nat) Int intA z.notes = AV.sl true (0 : Nat) (1 : Nat) Int intA x_1.fst ∧ x.snd + totG (List.take (Int.toNat i) x.fst) = x_1.snd ∧ ∀ (y : Unit), True → ∃ (z' : Gr), [AV.sl true (0 : Nat) (1 : Nat) Int intA z'.notes, AV.int IntKind.i64 z'.member] = [AV.sl true (0 : Nat) (1 : Nat) Int intA (mkI x_1.snd (List.length x_1.fst)), AV.int IntKind.i64 z.member] ∧ ((0 : Int) ≤ i ∧ i < (↑(List.length (List.set (mkGs x.snd (List.take (Int.toNat i) x.fst) ++ List.drop (Int.toNat i) x.fst) (Int.toNat i) z')) : Int)) ∧ Int.toNat i < List.length (List.set (mkGs x.snd (List.take (Int.toNat i) x.fst) ++ List.drop (Int.toNat i) x.fst) (Int.toNat i) z') ∧ ∀ (x_2 : Gr), (List.set (mkGs x.snd (List.take (Int.toNat i) x.fst) ++ List.drop (Int.toNat i) x.fst) (Int.toNat i) z')[Int.toNat i]? = some x_2 → ∃ (x' : Gr), ([AV.sl true (0 : Nat) (1 : Nat) Int intA x'.notes] = [AV.sl true (0 : Nat) (1 : Nat) Int intA x_2.notes] ∧ (@List.nil AV) = []) ∧ x_1.snd + (↑(List.length x_1.fst) : Int) = x'.member ∧ inR IntKind.i64 (x_1.snd + (↑(List.length x_1.fst) : Int) + (1 : Int)) ∧ inR IntKind.i64 (i + (1 : Int)) ∧ ∃ (i' : Int), mgI x.fst i' ∧ List.length x.fst - Int.toNat i' < List.length x.fst - Int.toNat i ∧ (AV.sl true (0 : Nat) (2 : Nat) Gr (grA true) (List.set (List.set (mkGs x.snd (List.take (Int.toNat i) x.fst) ++ List.drop (Int.toNat i) x.fst) (Int.toNat i) z') (Int.toNat i) x') = AV.sl true (0 : Nat) (2 : Nat) Gr (grA true) (mkGs x.snd (List.take (Int.toNat i') x.fst) ++ List.drop (Int.toNat i') x.fst) ∧ x_1.snd + (↑(List.length x_1.fst) : Int) + (1 : Int) = x.snd + totG (List.take (Int.toNat i') x.fst) ∧ i + (1 : Int) = i' ∧ True) ∧ True) (∃ (y : Unit), True ∧ x.snd + totG (List.take (Int.toNat i) x.fst) = x.snd + totG x.fst ∧ AV.sl true (0 : Nat) (2 : Nat) Gr (grA true) (mkGs x.snd (List.take (Int.toNat i) x.fst) ++ List.drop (Int.toNat i) x.fst) = AV.sl true (0 : Nat) (2 : Nat) Gr (grA true) (mkGs x.snd x.fst) ∧ True)) := by kernel_rfl
theorem markGrs_ok  : Contract G Tryd.prog 20 s_markGrs :=
  vcFun_ok (Γ := Γof [(41, 0, s_markInts)]) (E := Eof []) (ov := false) (L := fun x => Lof ([(2,lMkGrs x)])) Tryd.func20 rfl (by decide) (Γof_ok (l := [(41, 0, s_markInts)]) ⟨markInts_ok, trivial⟩) fun (x : List Gr × Int) (hx : mkB x.1 ∧ 0 ≤ x.2 ∧ x.2 ≤ 2 ^ 50) => (markGrs_vc  x).mpr (by
  obtain ⟨h1, h2, h3⟩ := hx
  (repeat' first | refine ex_gr (mkI _ _) _ rfl ?_ | refine ex_gr2 _ _ ⟨rfl, ?_⟩ ⟨rfl, rfl⟩ | with_reducible rfl | exact True.intro | refine inR_i64 ?_ ?_ | with_reducible refine And.intro ?_ ?_ | with_reducible refine bcase_dec (fun _ => ?_) (fun _ => ?_) | with_reducible refine bcase_bne (fun _ => ?_) (fun _ => ?_) | with_reducible refine bcase_beq (fun _ => ?_) (fun _ => ?_) | with_reducible refine bcase_not (fun _ => ?_) (fun _ => ?_) | refine bcase_intro (fun _ => ?_) (fun _ => ?_) | refine sl_eq ?_ | refine ex_flip () ?_ ?_ | (apply ex_flip6 <;> try dsimp only) | (apply ex_flip5 <;> try dsimp only) | (apply ex_flip4 <;> try dsimp only) | (apply ex_flip3 <;> try dsimp only) | (apply ex_flip2 <;> try dsimp only) | apply ex_flip | (refine Prod.forall.2 ?_; intro _; try dsimp only) | (intro _; try dsimp only))
  all_goals try (have e := mg_set3 (show mgI _ _ by assumption) (show (mkGs _ _ ++ _)[Int.toNat _]? = some _ by assumption) (show (List.set _ _ _)[_]? = some _ by assumption); subst e)
  all_goals first
    | rfl
    | exact ⟨h1, by omega, by omega⟩
    | (simp [totG, mkGs]; done)
    | exact (show mgI _ _ by assumption).2.1
    | exact mg_tot (by assumption) (by assumption)
    | exact (mg_end (by assumption) (by assumption)).1
    | exact (mg_end (by assumption) (by assumption)).2
    | exact mg_set2' (by assumption) (by assumption) rfl
    | (have hi := (show mgI _ _ by assumption); have hl := @mgI_len x.2 _ x.1 hi; exact ⟨h1, by have := hi.2.1; omega, by have := hi.2.2; omega⟩)
    | (have hi := (show mgI _ _ by assumption); have hl := @mgI_len x.2 _ x.1 hi; have hg := mgI_g hi (show (mkGs _ _ ++ _)[Int.toNat _]? = some _ by assumption); (try dsimp only); omega)
    | (have hi := (show mgI _ _ by assumption); have hl := @mgI_len x.2 _ x.1 hi; have ht := mgI_tot hi; have := hi.2.1; have := hi.2.2; have hg := mgI_g hi (show (mkGs _ _ ++ _)[Int.toNat _]? = some _ by assumption); (try rw [List.length_set]); (try simp only [i64max]); omega)
    | (have hi := (show mgI _ _ by assumption); have hl := @mgI_len x.2 _ x.1 hi; have := hi.2.1; have := hi.2.2; have := h1.1; (try rw [List.length_set]); (try simp only [i64max]); omega)
    | skip)

def hgI (k : Int) (l : List Gr) (i : Int) : Prop := (mkB l ∧ l = mkGs k l) ∧ 0 ≤ i ∧ i ≤ l.length
theorem hgI_at {k i : Int} {l : List Gr} {g : Gr} (h : hgI k l i) (hg : l[i.toNat]? = some g) : g = mkG (k + totG (l.take i.toNat)) g := by
  have h1 : (mkGs k l)[i.toNat]? = some g := by rw [← h.1.2]; exact hg
  have h2 := mkGs_at (k := k) hg
  rw [h1] at h2; exact Option.some.inj h2
theorem hgI_1 {k i : Int} {l : List Gr} {g : Gr} (h : hgI k l i) (hg : l[i.toNat]? = some g) : g.notes = mkI (k + totG (l.take i.toNat)) g.notes.length ∧ g.member = k + totG (l.take i.toNat) + g.notes.length := by
  have h2 := hgI_at h hg
  have h3 := congrArg Gr.notes h2; have h4 := congrArg Gr.member h2
  exact ⟨h3, h4⟩
theorem hgI_tot {k i : Int} {l : List Gr} {g : Gr} (h : hgI k l i) (hg : l[i.toNat]? = some g) : k + totG (l.take i.toNat) + g.notes.length + 1 = k + totG (l.take (i + 1).toNat) := by
  rw [toNat1 h.2.1, takeE hg, totG_snoc]; omega
theorem hgI_bd {k i : Int} {l : List Gr} (h : hgI k l i) : (0 ≤ totG (l.take i.toNat) ∧ totG (l.take i.toNat) ≤ 200) ∧ l.length ≤ 12 := ⟨mkB_tot h.1.1, h.1.1.1⟩
theorem hgI_nt {k i : Int} {l : List Gr} {g : Gr} (h : hgI k l i) (hg : l[i.toNat]? = some g) : g.notes.length ≤ 12 := h.1.1.2 g (memE hg)
theorem hgI_end {k i : Int} {l : List Gr} (h : hgI k l i) (hl : ¬ i < l.length) : k + totG (l.take i.toNat) = k + totG l := by
  rw [List.take_of_length_le (by have := h.2.2; omega)]
def lHdGrs (x : List Gr × Int) : LS := {
  ι := Int, inv := hgI x.2 x.1, regs := fun i => [(0, grs x.1), (1, .int .i64 (x.2 + totG (x.1.take i.toNat))), (5, .int .i64 i)], als := [], meas := fun i => x.1.length - i.toNat }
def s_heldGrs  : Sig := { X := List Gr × Int, args := fun x => [grs x.1, .int .i64 x.2], pre := fun x => (mkB x.1 ∧ x.1 = mkGs x.2 x.1) ∧ 0 ≤ x.2 ∧ x.2 ≤ 2 ^ 50, Y := Unit, post := fun x y => True, res := fun x y => .int .i64 (x.2 + totG x.1), outs := fun x y => [.top, .top], keep := false }
theorem heldGrs_vc (x : List Gr × Int) : vcFun Go.Proofs.Tryd.prog (Γof [(42, 0, s_heldInts)]) (Eof []) false (Lof ([(2,lHdGrs x)])) Go.Proofs.Tryd.f21.ntmps Go.Proofs.Tryd.f21.results.toList (Go.Proofs.Tryd.f21.body.getD .skip) s_heldGrs x = ((∀ (y : Unit), True → True ∧ True ∧ True ∧ True) ∧ (∃ (i : Int), hgI x.snd x.fst i ∧ (AV.sl false (0 : Nat) (2 : Nat) Gr (grA false) x.fst = AV.sl false (0 : Nat) (2 : Nat) Gr (grA false) x.fst ∧ x.snd = x.snd + totG (List.take (Int.toNat i) x.fst) ∧ (0 : Int) = i ∧ True) ∧ True) ∧ ∀ (i : Int), hgI x.snd x.fst i → bcase (decide (i < (↑(List.length x.fst) : Int))) (((0 : Int) ≤ i ∧ i < (↑(List.length x.fst) : Int)) ∧ ∀ (e : Gr), x.fst[Int.toNat i]? = some e → ∃ (x_1 : List Int × Int), (x_1.fst = mkI x_1.snd (List.length x_1.fst) ∧ List.length x_1.fst ≤ (1099511627776 : Nat) ∧ (0 : Int) ≤ x_1.snd ∧ x_1.snd ≤ (2 : Int) ^ (60 : Nat)) ∧ AV.sl false (0 : Nat) (1 : Nat) Int intA e.notes = AV.sl false (0 : Nat) (1 : Nat) Int intA x_1.fst ∧ x.snd + totG (List.take (Int.toNat i) x.fst) = x_1.snd ∧ ∀ (y : Unit), True → bcase (decide (x_1.snd + (↑(List.length x_1.fst) : Int) < (0 : Int))) (∃ (y : Unit), True ∧ (-1 : Int) = x.snd + totG x.fst ∧ True) (((0 : Int) ≤ i ∧ i < (↑(List.length x.fst) : Int)) ∧ ∀ (e : Gr), x.fst[Int.toNat i]? = some e → bcase (e.member != x_1.snd + (↑(List.length x_1.fst) : Int)) (∃ (y : Unit), True ∧ (-1 : Int) = x.snd + totG x.fst ∧ True) (inR IntKind.i64 (x_1.snd + (↑(List.length x_1.fst) : Int) + (1 : Int)) ∧ inR IntKind.i64 (i + (1 : Int)) ∧ ∃ (i' : Int), hgI x.snd x.fst i' ∧ List.length x.fst - Int.toNat i' < List.length x.fst - Int.toNat i ∧ (AV.sl false (0 : Nat) (2 : Nat) Gr (grA false) x.fst = AV.sl false (0 : Nat) (2 : Nat) Gr (grA false) x.fst ∧ x_1.snd + (↑(List.length x_1.fst) : Int) + (1 : Int) = x.snd + totG (List.take (Int.toNat i') x.fst) ∧ i + (1 : Int) = i' ∧ True) ∧ True))) (∃ (y : Unit), True ∧ x.snd + totG (List.take (Int.toNat i) x.fst) = x.snd + totG x.fst ∧ True)) := by kernel_rfl
theorem heldGrs_ok  : Contract G Tryd.prog 21 s_heldGrs :=
  vcFun_ok (Γ := Γof [(42, 0, s_heldInts)]) (E := Eof []) (ov := false) (L := fun x => Lof ([(2,lHdGrs x)])) Tryd.func21 rfl (by decide) (Γof_ok (l := [(42, 0, s_heldInts)]) ⟨heldInts_ok, trivial⟩) fun (x : List Gr × Int) (hx : (mkB x.1 ∧ x.1 = mkGs x.2 x.1) ∧ 0 ≤ x.2 ∧ x.2 ≤ 2 ^ 50) => (heldGrs_vc  x).mpr (by
  obtain ⟨h1, h2, h3⟩ := hx
  (repeat' first | with_reducible rfl | exact True.intro | refine inR_i64 ?_ ?_ | with_reducible refine And.intro ?_ ?_ | with_reducible refine bcase_dec (fun _ => ?_) (fun _ => ?_) | with_reducible refine bcase_bne (fun _ => ?_) (fun _ => ?_) | with_reducible refine bcase_beq (fun _ => ?_) (fun _ => ?_) | with_reducible refine bcase_not (fun _ => ?_) (fun _ => ?_) | refine bcase_intro (fun _ => ?_) (fun _ => ?_) | refine sl_eq ?_ | refine ex_flip () ?_ ?_ | (apply ex_flip6 <;> try dsimp only) | (apply ex_flip5 <;> try dsimp only) | (apply ex_flip4 <;> try dsimp only) | (apply ex_flip3 <;> try dsimp only) | (apply ex_flip2 <;> try dsimp only) | apply ex_flip | (refine Prod.forall.2 ?_; intro _; try dsimp only) | (intro _; try dsimp only))
  all_goals (repeat (rename x.1[Int.toNat _]? = some _ => hq; revert hq; rename x.1[Int.toNat _]? = some _ => hr; intro hq; rw [hr] at hq; cases hq))
  all_goals first
    | rfl
    | exact ⟨h1, by omega, by omega⟩
    | (simp [totG]; done)
    | exact (show hgI _ _ _ by assumption).2.1
    | exact hgI_tot (by assumption) (by assumption)
    | exact hgI_end (by assumption) (by assumption)
    | exact (hgI_1 (by assumption) (by assumption)).1
    | (have hi := (show hgI _ _ _ by assumption); exact ⟨h1, by have := hi.2.1; omega, by have := hi.2.2; omega⟩)
    | (have hi := (show hgI _ _ _ by assumption); have hb := hgI_bd hi; have := hi.2.1; have := hi.2.2; (try simp only [i64max]); omega)
    | (have hi := (show hgI _ _ _ by assumption); have hb := hgI_bd hi; have hn := hgI_nt hi (by assumption); have hm := (hgI_1 hi (by assumption)).2; have := hi.2.1; have := hi.2.2; (try simp only [i64max]); omega)
    | skip)

theorem gText {l : List Nd} (h : ¬ szNds l 1048576 < 0) {e : Nd} (he : e ∈ l) : e.text.length ≤ 1099511627776 := by have := gB2 h he; omega
end Go.My
end
section
/- Marks of nodes. -/
set_option linter.unusedVariables false
set_option linter.unusedSimpArgs false
namespace Go.My
open Go.Eng Go.Proofs
variable {G : GInv}

/- marks of nodes: what they are does not matter -/
def digs : Nat → Nat → List UInt8
  | 0, _ => []
  | n + 1, k => if k = 0 then [] else digs n (k / 10) ++ [UInt8.ofNat (48 + k % 10)]
def mText (k : Int) : List UInt8 := if k ≤ 0 then [109, 48] else 109 :: digs 64 k.toNat
theorem digs_len : ∀ {n k : Nat}, (digs n k).length ≤ n
  | 0, k => Nat.le_refl _
  | n + 1, k => by
    unfold digs; split
    · simp
    · have := @digs_len n (k / 10); simp; omega
theorem digs_eq : ∀ {n m k : Nat}, k < 10 ^ n → k < 10 ^ m → digs n k = digs m k
  | 0, 0, k, _, _ => rfl
  | 0, m + 1, k, h, _ => by
    have : k = 0 := by simp at h; exact h
    subst this; simp [digs]
  | n + 1, 0, k, _, h => by
    have : k = 0 := by simp at h; exact h
    subst this; simp [digs]
  | n + 1, m + 1, k, h1, h2 => by
    simp only [digs]
    split
    · rfl
    · rw [digs_eq (n := n) (m := m) (by rw [Nat.pow_succ] at h1; omega) (by rw [Nat.pow_succ] at h2; omega)]
def mdI (k0 k : Int) (out : List UInt8) : Prop := (0 ≤ k ∧ k ≤ k0 ∧ k0 ≤ 2 ^ 60) ∧ digs 64 k.toNat ++ out = digs 64 k0.toNat
theorem mdI_init {k : Int} (h : ¬ k ≤ 0) (h2 : k ≤ 2 ^ 60) : mdI k k [] := ⟨by omega, by simp⟩
theorem mdI_next {k0 k : Int} {out : List UInt8} {c : UInt8} (h : mdI k0 k out) (hk : k > 0) (hc : 48 + k.tmod 10 = (c.toNat : Int)) : mdI k0 (k.tdiv 10) ([c] ++ out) := by
  obtain ⟨h1, h2⟩ := h
  have e1 : k.tdiv 10 = k / 10 := Int.tdiv_eq_ediv_of_nonneg (by omega)
  have e2 : k.tmod 10 = k % 10 := Int.tmod_eq_emod_of_nonneg (by omega)
  rw [e1]; rw [e2] at hc
  refine ⟨by omega, ?_⟩
  rw [← h2]
  have e3 : (k / 10).toNat = k.toNat / 10 := by omega
  have e4 : c = UInt8.ofNat (48 + k.toNat % 10) := by
    apply UInt8.toNat_inj.1
    have : (48 + k.toNat % 10) % 256 = 48 + k.toNat % 10 := by omega
    simp; omega
  have e5 : digs 64 k.toNat = digs 63 (k.toNat / 10) ++ [UInt8.ofNat (48 + k.toNat % 10)] := by
    rw [digs, if_neg (by omega)]
  rw [e3, e5, e4, digs_eq (n := 64) (m := 63) (by omega) (by omega)]; simp
theorem mdI_done {k0 k : Int} {out : List UInt8} (h : mdI k0 k out) (hk : ¬ k > 0) : out = digs 64 k0.toNat := by
  obtain ⟨h1, h2⟩ := h
  obtain rfl : k = 0 := by omega
  rw [← h2]; simp [digs]
theorem mdI_len {k0 k : Int} {out : List UInt8} (h : mdI k0 k out) : out.length ≤ 64 := by
  have := congrArg List.length h.2
  have h2 := @digs_len 64 k0.toNat
  simp at this; omega
theorem mdI_0 {k0 k : Int} {out : List UInt8} (h : mdI k0 k out) (hk : k > 0) : 0 ≤ k.tmod 10 ∧ k.tmod 10 < 10 ∧ 0 ≤ k.tdiv 10 ∧ k.tdiv 10 < k ∧ k ≤ 2 ^ 60 := by
  have e1 : k.tdiv 10 = k / 10 := Int.tdiv_eq_ediv_of_nonneg (by omega)
  have e2 : k.tmod 10 = k % 10 := Int.tmod_eq_emod_of_nonneg (by omega)
  have := h.1
  rw [e1, e2]; omega
theorem inR_u8 {n : Int} (h1 : 0 ≤ n) (h2 : n ≤ 255) : inR .u8 n := by
  unfold inR; simp [IntKind.min, IntKind.max, IntKind.bits, IntKind.signed]; omega
theorem u8_of {n : Int} (h0 : 0 ≤ n) (h1 : n < 256) : ∃ c : UInt8, n = (c.toNat : Int) := ⟨UInt8.ofNat n.toNat, by
  have : n.toNat % 256 = n.toNat := by omega
  simp; omega⟩
theorem ex_u8 {n : Int} {q : UInt8 → Prop} (h0 : 0 ≤ n) (h1 : n < 256) (h : ∀ c : UInt8, n = (c.toNat : Int) → q c) : ∃ c : UInt8, n = (c.toNat : Int) ∧ q c := by
  obtain ⟨c, hc⟩ := u8_of h0 h1
  exact ⟨c, hc, h c hc⟩
def s_markText  : Sig := { X := Int, args := fun x => [.int .i64 x], pre := fun x => x ≤ 2 ^ 60, Y := Unit, post := fun x y => True, res := fun x y => .str (mText x), outs := fun x y => [.top], keep := false }
theorem markText_vc (x : Int) : vcFun Go.Proofs.Tryd.prog (Γof []) (Eof [(63, ⟨UInt8,bytA⟩)]) false (Lof ([(4,{ ι := Int × List UInt8, inv := fun i => mdI x i.1 i.2, regs := fun i => [(0, .int .i64 i.1), (3, .str i.2)], als := [], meas := fun i => i.1.toNat })])) Go.Proofs.Tryd.f40.ntmps Go.Proofs.Tryd.f40.results.toList (Go.Proofs.Tryd.f40.body.getD .skip) s_markText x = ((∀ (y : Unit), True → True ∧ True ∧ True) ∧ bcase (decide (x ≤ (0 : Int))) (∃ (y : Unit), True ∧ #[(109 : UInt8), (48 : UInt8)].toList = mText x ∧ True) ((∃ (i : Int × List UInt8), mdI x i.fst i.snd ∧ (x = i.fst ∧ #[].toList = i.snd ∧ True) ∧ True) ∧ ∀ (i : Int × List UInt8), mdI x i.fst i.snd → bcase (decide (i.fst > (0 : Int))) ((10 : Int) ≠ (0 : Int) ∧ inR IntKind.i64 ((48 : Int) + Int.tmod i.fst (10 : Int)) ∧ inR IntKind.u8 ((48 : Int) + Int.tmod i.fst (10 : Int)) ∧ ∃ (x_1 : UInt8), (48 : Int) + Int.tmod i.fst (10 : Int) = (↑(UInt8.toNat x_1) : Int) ∧ ∃ (l : List UInt8), AV.sl false (0 : Nat) (1 : Nat) UInt8 bytA [x_1] = AV.sl false (0 : Nat) (1 : Nat) UInt8 bytA l ∧ (↑(List.length l + List.length i.snd) : Int) ≤ IntKind.max IntKind.i64 ∧ (10 : Int) ≠ (0 : Int) ∧ inR IntKind.i64 (Int.tdiv i.fst (10 : Int)) ∧ ∃ (i' : Int × List UInt8), mdI x i'.fst i'.snd ∧ Int.toNat i'.fst < Int.toNat i.fst ∧ (Int.tdiv i.fst (10 : Int) = i'.fst ∧ l ++ i.snd = i'.snd ∧ True) ∧ True) ((↑((1 : Nat) + List.length i.snd) : Int) ≤ IntKind.max IntKind.i64 ∧ ∃ (y : Unit), True ∧ #[(109 : UInt8)].toList ++ i.snd = mText x ∧ True))) := by kernel_rfl
theorem markText_ok  : Contract G Tryd.prog 40 s_markText :=
  vcFun_ok (Γ := Γof []) (E := Eof [(63, ⟨UInt8,bytA⟩)]) (ov := false) (L := fun x => Lof ([(4,{ ι := Int × List UInt8, inv := fun i => mdI x i.1 i.2, regs := fun i => [(0, .int .i64 i.1), (3, .str i.2)], als := [], meas := fun i => i.1.toNat })])) Tryd.func40 rfl (by decide) (Γof_ok (l := []) trivial) fun (x : Int) (hx : x ≤ 2 ^ 60) => (markText_vc  x).mpr (by
  have hx : x ≤ 2 ^ 60 := hx
  (repeat' first | refine ex_u8 ?_ ?_ ?_ | with_reducible rfl | exact True.intro | refine inR_i64 ?_ ?_ | with_reducible refine And.intro ?_ ?_ | with_reducible refine bcase_dec (fun _ => ?_) (fun _ => ?_) | with_reducible refine bcase_bne (fun _ => ?_) (fun _ => ?_) | with_reducible refine bcase_beq (fun _ => ?_) (fun _ => ?_) | with_reducible refine bcase_not (fun _ => ?_) (fun _ => ?_) | refine bcase_intro (fun _ => ?_) (fun _ => ?_) | refine sl_eq ?_ | refine ex_flip () ?_ ?_ | (apply ex_flip6 <;> try dsimp only) | (apply ex_flip5 <;> try dsimp only) | (apply ex_flip4 <;> try dsimp only) | (apply ex_flip3 <;> try dsimp only) | (apply ex_flip2 <;> try dsimp only) | apply ex_flip | (refine Prod.forall.2 ?_; intro _; try dsimp only) | (intro _; try dsimp only))
  all_goals first
    | rfl
    | (simp [mText, *]; done)
    | exact mdI_init (by assumption) hx
    | exact mdI_next (by assumption) (by assumption) (by assumption)
    | (rw [mdI_done (by assumption) (by assumption), mText, if_neg (by assumption)]; rfl)
    | (have h0 := mdI_0 (by assumption) (by assumption); exact inR_u8 (by omega) (by omega))
    | (have h0 := mdI_0 (by assumption) (by assumption); have h1 := mdI_len (by assumption); (try simp only [i64max, List.length_cons, List.length_nil]); omega)
    | (have h1 := mdI_len (by assumption); (try simp only [i64max, List.length_cons, List.length_nil]); omega)
    | skip
  have hd := mdI_done (show mdI _ _ _ by assumption) (by assumption)
  rw [hd, mText, if_neg (by assumption)]
  rfl)

section
variable {α : Type}
def gTot (sz : α → Nat) : List α → Int
  | [] => 0
  | g :: l => sz g + gTot sz l
def gMk (mk : Int → α → α) (sz : α → Nat) (k : Int) : List α → List α
  | [] => []
  | g :: l => mk k g :: gMk mk sz (k + sz g) l
variable {mk : Int → α → α} {sz : α → Nat}
theorem gTot_snoc : ∀ {l : List α} {g : α}, gTot sz (l ++ [g]) = gTot sz l + sz g
  | [], g => by simp [gTot]
  | x :: l, g => by simp only [List.cons_append, gTot]; rw [gTot_snoc]; omega
theorem gMk_snoc : ∀ {l : List α} {g : α} {k : Int}, gMk mk sz k (l ++ [g]) = gMk mk sz k l ++ [mk (k + gTot sz l) g]
  | [], g, k => by simp [gMk, gTot]
  | x :: l, g, k => by
    simp only [List.cons_append, gMk, gTot]; rw [gMk_snoc]
    rw [show k + (sz x : Int) + gTot sz l = k + (sz x + gTot sz l) by omega]
theorem gMk_len : ∀ {l : List α} {k : Int}, (gMk mk sz k l).length = l.length
  | [], k => rfl
  | x :: l, k => by simp [gMk, gMk_len]
theorem gMk_at : ∀ {l : List α} {k : Int} {i : Nat} {g : α}, l[i]? = some g → (gMk mk sz k l)[i]? = some (mk (k + gTot sz (l.take i)) g)
  | [], k, i, g, h => by simp at h
  | x :: l, k, 0, g, h => by simp at h; subst h; simp [gMk, gTot]
  | x :: l, k, i + 1, g, h => by
    simp only [gMk, List.getElem?_cons_succ, List.take_succ_cons, gTot] at h ⊢
    rw [gMk_at h]; congr 2; omega
theorem gTot_bd : ∀ {l : List α} {n : Nat}, (∀ g ∈ l, sz g ≤ n) → 0 ≤ gTot sz l ∧ gTot sz l ≤ l.length * n
  | [], n, h => by simp [gTot]
  | x :: l, n, h => by
    have h1 := h x (by simp)
    have h2 := gTot_bd (l := l) (n := n) fun g hg => h g (by simp [hg])
    rw [gTot, List.length_cons]
    have e : ((l.length + 1 : Nat) : Int) * (n : Int) = l.length * n + n := by rw [Int.natCast_add, Int.add_mul]; simp
    rw [e]; omega
theorem gMk_set {l : List α} {k : Int} {i : Nat} {g : α} (h : l[i]? = some g) : (gMk mk sz k (l.take i) ++ l.drop i).set i (mk (k + gTot sz (l.take i)) g) = gMk mk sz k (l.take (i + 1)) ++ l.drop (i + 1) := by
  have hi := (getE h).1
  have e : (gMk mk sz k (l.take i)).length = i := by rw [gMk_len, List.length_take]; omega
  rw [List.set_append_right _ _ (by rw [e]; exact Nat.le_refl i), e, Nat.sub_self, dropE h, List.set_cons_zero, takeE h, gMk_snoc]
  simp
theorem gset {L : List α} {i : Nat} {a b : α} (hb : (L.set i a)[i]? = some b) : a = b := by
  rw [List.getElem?_set] at hb
  split at hb
  · split at hb
    · exact Option.some.inj hb
    · cases hb
  · rename_i h; exact (h rfl).elim
/- the state while marks are written -/
def gSt (mk : Int → α → α) (sz : α → Nat) (k : Int) (l : List α) (i : Int) : List α := gMk mk sz k (l.take i.toNat) ++ l.drop i.toNat
def qgB (sz : α → Nat) (l : List α) : Prop := l.length ≤ 1048576 ∧ ∀ g ∈ l, sz g ≤ 1048600
def qgI (sz : α → Nat) (l : List α) (i : Int) : Prop := qgB sz l ∧ 0 ≤ i ∧ i ≤ l.length
theorem gSt_len {k i : Int} {l : List α} (h : qgI sz l i) : (gSt mk sz k l i).length = l.length := by
  have := h.2
  rw [gSt, List.length_append, gMk_len, List.length_take, List.length_drop]; omega
theorem gSt_at {k i : Int} {l : List α} {g : α} (h : qgI sz l i) (hg : (gSt mk sz k l i)[i.toNat]? = some g) : l[i.toNat]? = some g := by
  have hlt := (getE hg).1
  rw [gSt_len h] at hlt
  have hl : (gMk mk sz k (l.take i.toNat)).length = i.toNat := by rw [gMk_len, List.length_take]; omega
  rw [gSt, List.getElem?_append_right (by omega), hl, Nat.sub_self] at hg
  simpa using hg
theorem qgI_tot {i : Int} {l : List α} (h : qgI sz l i) : 0 ≤ gTot sz (l.take i.toNat) ∧ gTot sz (l.take i.toNat) ≤ 2000000000000 := by
  have h1 := @gTot_bd _ sz (l.take i.toNat) 1048600 fun g hg => h.1.2 g (List.mem_of_mem_take hg)
  have h2 : (l.take i.toNat).length ≤ 1048576 := by rw [List.length_take]; have := h.1.1; omega
  omega
theorem gSt_end {k i : Int} {l : List α} (h : qgI sz l i) (hl : ¬ i < ((gSt mk sz k l i).length : Int)) : gSt mk sz k l i = gMk mk sz k l ∧ k + gTot sz (l.take i.toNat) = k + gTot sz l := by
  rw [gSt_len h] at hl
  rw [gSt, List.take_of_length_le (by omega), List.drop_eq_nil_of_le (by omega)]; simp
theorem gSt_0 {k : Int} {l : List α} : l = gSt mk sz k l 0 := by simp [gSt, gMk]
theorem gSt_step {k i : Int} {l : List α} {g b : α} (h : qgI sz l i) (hg : (gSt mk sz k l i)[i.toNat]? = some g) (hb : b = mk (k + gTot sz (l.take i.toNat)) g) : (gSt mk sz k l i).set i.toNat b = gSt mk sz k l (i + 1) := by
  rw [hb, gSt, gMk_set (gSt_at h hg), gSt, toNat1 h.2.1]
theorem gTot_step {k i : Int} {l : List α} {g : α} (h : qgI sz l i) (hg : (gSt mk sz k l i)[i.toNat]? = some g) : k + gTot sz (l.take (i + 1).toNat) = k + gTot sz (l.take i.toNat) + sz g := by
  rw [toNat1 h.2.1, takeE (gSt_at h hg), gTot_snoc]; omega
theorem qgI_sz {k i : Int} {l : List α} {g : α} (h : qgI sz l i) (hg : (gSt mk sz k l i)[i.toNat]? = some g) : sz g ≤ 1048600 := h.1.2 g (memE (gSt_at h hg))
theorem qgI_next {k i : Int} {l : List α} {g : α} (h : qgI sz l i) (hg : (gSt mk sz k l i)[i.toNat]? = some g) : qgI sz l (i + 1) := by
  have := (getE (gSt_at h hg)).1
  exact ⟨h.1, by have := h.2.1; omega, by have := h.2.1; omega⟩
/- held -/
def qhI (mk : Int → α → α) (sz : α → Nat) (k : Int) (l : List α) (i : Int) : Prop := l = gMk mk sz k l ∧ qgI sz l i
theorem qhI_at {k i : Int} {l : List α} {g : α} (h : qhI mk sz k l i) (hg : l[i.toNat]? = some g) : g = mk (k + gTot sz (l.take i.toNat)) g := by
  have h1 : (gMk mk sz k l)[i.toNat]? = some g := by rw [← h.1]; exact hg
  have h2 := gMk_at (mk := mk) (sz := sz) (k := k) hg
  rw [h1] at h2; exact Option.some.inj h2
theorem qhI_step {k i : Int} {l : List α} {g : α} (h : qhI mk sz k l i) (hg : l[i.toNat]? = some g) : k + gTot sz (l.take (i + 1).toNat) = k + gTot sz (l.take i.toNat) + sz g := by
  rw [toNat1 h.2.2.1, takeE hg, gTot_snoc]; omega
theorem qhI_next {k i : Int} {l : List α} {g : α} (h : qhI mk sz k l i) (hg : l[i.toNat]? = some g) : qhI mk sz k l (i + 1) := by
  have := (getE hg).1
  exact ⟨h.1, h.2.1, by have := h.2.2.1; omega, by have := h.2.2.1; omega⟩
theorem qhI_sz {k i : Int} {l : List α} {g : α} (h : qhI mk sz k l i) (hg : l[i.toNat]? = some g) : sz g ≤ 1048600 := h.2.1.2 g (memE hg)
theorem qhI_end {k i : Int} {l : List α} (h : qhI mk sz k l i) (hl : ¬ i < (l.length : Int)) : k + gTot sz (l.take i.toNat) = k + gTot sz l := by
  rw [List.take_of_length_le (by have := h.2.2.2; omega)]
theorem gMk_idem (hs : ∀ k g, sz (mk k g) = sz g) (hm : ∀ k g, mk k (mk k g) = mk k g) : ∀ {l : List α} {k : Int}, gMk mk sz k (gMk mk sz k l) = gMk mk sz k l ∧ gTot sz (gMk mk sz k l) = gTot sz l
  | [], k => ⟨rfl, rfl⟩
  | g :: l, k => by
    simp only [gMk, gTot, hs, hm]
    have := @gMk_idem hs hm l (k + sz g)
    rw [this.1, this.2]; exact ⟨rfl, rfl⟩
theorem gMk_mem (hs : ∀ k g, sz (mk k g) = sz g) : ∀ {l : List α} {k : Int} {n : Nat}, (∀ g ∈ l, sz g ≤ n) → ∀ g ∈ gMk mk sz k l, sz g ≤ n
  | [], k, n, h, g, hg => by cases hg
  | x :: l, k, n, h, g, hg => by
    rcases List.mem_cons.1 hg with e | e
    · rw [e, hs]; exact h x (by simp)
    · exact gMk_mem hs (fun y hy => h y (by simp [hy])) g e
theorem gB_mk (hs : ∀ k g, sz (mk k g) = sz g) {l : List α} {k : Int} (h : qgB sz l) : qgB sz (gMk mk sz k l) := ⟨by rw [gMk_len]; exact h.1, gMk_mem hs h.2⟩
end
def mkN (k : Int) (x : Nd) : Nd := ⟨k, mText (k + 1), mkI (k + 1 + 1) x.kids.length, (k + 1 + 1 + x.kids.length).tmod 3 == 0⟩
def szN (x : Nd) : Nat := x.kids.length + 3
theorem szN_mk (k : Int) (x : Nd) : szN (mkN k x) = szN x := by simp [szN, mkN, mkI_len]
theorem mkN_mk (k : Int) (x : Nd) : mkN k (mkN k x) = mkN k x := by simp [mkN, mkI_len]
def lMkNs (x : List Nd × Int) : LS := {
  ι := Int, inv := qgI szN x.1, regs := fun i => [(0, onds (gSt mkN szN x.2 x.1 i)), (1, .int .i64 (x.2 + gTot szN (x.1.take i.toNat))), (5, .int .i64 i)], als := [], meas := fun i => x.1.length - i.toNat }
def s_markNds  : Sig := { X := List Nd × Int, args := fun x => [onds x.1, .int .i64 x.2], pre := fun x => qgB szN x.1 ∧ 0 ≤ x.2 ∧ x.2 ≤ 2 ^ 50, Y := Unit, post := fun x y => True, res := fun x y => .int .i64 (x.2 + gTot szN x.1), outs := fun x y => [onds (gMk mkN szN x.2 x.1), .top], keep := false, fixed := [0] }
theorem markNds_vc (x : List Nd × Int) : vcFun Go.Proofs.Tryd.prog (Γof [(41, 0, s_markInts), (40, 0, s_markText)]) (Eof []) false (Lof ([(2,lMkNs x)])) Go.Proofs.Tryd.f19.ntmps Go.Proofs.Tryd.f19.results.toList (Go.Proofs.Tryd.f19.body.getD .skip) s_markNds x = ((∀ (y : Unit), True → True ∧ (∀ (x : Nd), True ∧ True ∧ (∀ (x : Int), True ∧ True) ∧ True ∧ True) ∧ True ∧ True) ∧ (∃ (i : Int), qgI szN x.fst i ∧ (AV.sl true (0 : Nat) (4 : Nat) Nd (ndA true) x.fst = AV.sl true (0 : Nat) (4 : Nat) Nd (ndA true) (gSt mkN szN x.snd x.fst i) ∧ x.snd = x.snd + gTot szN (List.take (Int.toNat i) x.fst) ∧ (0 : Int) = i ∧ True) ∧ True) ∧ ∀ (i : Int), qgI szN x.fst i → bcase (decide (i < (↑(List.length (gSt mkN szN x.snd x.fst i)) : Int))) (((0 : Int) ≤ i ∧ i < (↑(List.length (gSt mkN szN x.snd x.fst i)) : Int)) ∧ Int.toNat i < List.length (gSt mkN szN x.snd x.fst i) ∧ ∀ (x_1 : Nd), (gSt mkN szN x.snd x.fst i)[Int.toNat i]? = some x_1 → ∃ (x' : Nd), ((@List.nil AV) = [] ∧ [AV.str x'.text, AV.sl true (0 : Nat) (1 : Nat) Int intA x'.kids, AV.bool x'.blank] = [AV.str x_1.text, AV.sl true (0 : Nat) (1 : Nat) Int intA x_1.kids, AV.bool x_1.blank]) ∧ x.snd + gTot szN (List.take (Int.toNat i) x.fst) = x'.kind ∧ inR IntKind.i64 (x.snd + gTot szN (List.take (Int.toNat i) x.fst) + (1 : Int)) ∧ ∃ (x_2 : Int), x_2 ≤ (2 : Int) ^ (60 : Nat) ∧ x.snd + gTot szN (List.take (Int.toNat i) x.fst) + (1 : Int) = x_2 ∧ ∀ (y : Unit), True → ((0 : Int) ≤ i ∧ i < (↑(List.length (List.set (gSt mkN szN x.snd x.fst i) (Int.toNat i) x')) : Int)) ∧ Int.toNat i < List.length (List.set (gSt mkN szN x.snd x.fst i) (Int.toNat i) x') ∧ ∀ (x_3 : Nd), (List.set (gSt mkN szN x.snd x.fst i) (Int.toNat i) x')[Int.toNat i]? = some x_3 → ∃ (x'_1 : Nd), ([AV.int IntKind.i64 x'_1.kind] = [AV.int IntKind.i64 x_3.kind] ∧ [AV.sl true (0 : Nat) (1 : Nat) Int intA x'_1.kids, AV.bool x'_1.blank] = [AV.sl true (0 : Nat) (1 : Nat) Int intA x_3.kids, AV.bool x_3.blank]) ∧ mText x_2 = x'_1.text ∧ inR IntKind.i64 (x.snd + gTot szN (List.take (Int.toNat i) x.fst) + (1 : Int) + (1 : Int)) ∧ ((0 : Int) ≤ i ∧ i < (↑(List.length (List.set (List.set (gSt mkN szN x.snd x.fst i) (Int.toNat i) x') (Int.toNat i) x'_1)) : Int)) ∧ Int.toNat i < List.length (List.set (List.set (gSt mkN szN x.snd x.fst i) (Int.toNat i) x') (Int.toNat i) x'_1) ∧ ∀ (z : Nd), (List.set (List.set (gSt mkN szN x.snd x.fst i) (Int.toNat i) x') (Int.toNat i) x'_1)[Int.toNat i]? = some z → ∃ (x_4 : List Int × Int), (List.length x_4.fst ≤ (1099511627776 : Nat) ∧ (0 : Int) ≤ x_4.snd ∧ x_4.snd ≤ (2 : Int) ^ (60 : Nat)) ∧ AV.sl true (0 : Nat) (1 : Nat) Int intA z.kids = AV.sl true (0 : Nat) (1 : Nat) Int intA x_4.fst ∧ x.snd + gTot szN (List.take (Int.toNat i) x.fst) + (1 : Int) + (1 : Int) = x_4.snd ∧ ∀ (y : Unit), True → ∃ (z' : Nd), [AV.int IntKind.i64 z'.kind, AV.str z'.text, AV.sl true (0 : Nat) (1 : Nat) Int intA z'.kids, AV.bool z'.blank] = [AV.int IntKind.i64 z.kind, AV.str z.text, AV.sl true (0 : Nat) (1 : Nat) Int intA (mkI x_4.snd (List.length x_4.fst)), AV.bool z.blank] ∧ (3 : Int) ≠ (0 : Int) ∧ ((0 : Int) ≤ i ∧ i < (↑(List.length (List.set (List.set (List.set (gSt mkN szN x.snd x.fst i) (Int.toNat i) x') (Int.toNat i) x'_1) (Int.toNat i) z')) : Int)) ∧ Int.toNat i < List.length (List.set (List.set (List.set (gSt mkN szN x.snd x.fst i) (Int.toNat i) x') (Int.toNat i) x'_1) (Int.toNat i) z') ∧ ∀ (x_5 : Nd), (List.set (List.set (List.set (gSt mkN szN x.snd x.fst i) (Int.toNat i) x') (Int.toNat i) x'_1) (Int.toNat i) z')[Int.toNat i]? = some x_5 → ∃ (x'_2 : Nd), ([AV.int IntKind.i64 x'_2.kind, AV.str x'_2.text, AV.sl true (0 : Nat) (1 : Nat) Int intA x'_2.kids] = [AV.int IntKind.i64 x_5.kind, AV.str x_5.text, AV.sl true (0 : Nat) (1 : Nat) Int intA x_5.kids] ∧ (@List.nil AV) = []) ∧ (Int.tmod (x_4.snd + (↑(List.length x_4.fst) : Int)) (3 : Int) == (0 : Int)) = x'_2.blank ∧ inR IntKind.i64 (x_4.snd + (↑(List.length x_4.fst) : Int) + (1 : Int)) ∧ inR IntKind.i64 (i + (1 : Int)) ∧ ∃ (i' : Int), qgI szN x.fst i' ∧ List.length x.fst - Int.toNat i' < List.length x.fst - Int.toNat i ∧ (AV.sl true (0 : Nat) (4 : Nat) Nd (ndA true) (List.set (List.set (List.set (List.set (gSt mkN szN x.snd x.fst i) (Int.toNat i) x') (Int.toNat i) x'_1) (Int.toNat i) z') (Int.toNat i) x'_2) = AV.sl true (0 : Nat) (4 : Nat) Nd (ndA true) (gSt mkN szN x.snd x.fst i') ∧ x_4.snd + (↑(List.length x_4.fst) : Int) + (1 : Int) = x.snd + gTot szN (List.take (Int.toNat i') x.fst) ∧ i + (1 : Int) = i' ∧ True) ∧ True) (∃ (y : Unit), True ∧ x.snd + gTot szN (List.take (Int.toNat i) x.fst) = x.snd + gTot szN x.fst ∧ AV.sl true (0 : Nat) (4 : Nat) Nd (ndA true) (gSt mkN szN x.snd x.fst i) = AV.sl true (0 : Nat) (4 : Nat) Nd (ndA true) (gMk mkN szN x.snd x.fst) ∧ True)) := by kernel_rfl
theorem markNds_ok  : Contract G Tryd.prog 19 s_markNds :=
  vcFun_ok (Γ := Γof [(41, 0, s_markInts), (40, 0, s_markText)]) (E := Eof []) (ov := false) (L := fun x => Lof ([(2,lMkNs x)])) Tryd.func19 rfl (by decide) (Γof_ok (l := [(41, 0, s_markInts), (40, 0, s_markText)]) ⟨markInts_ok, markText_ok, trivial⟩) fun (x : List Nd × Int) (hx : qgB szN x.1 ∧ 0 ≤ x.2 ∧ x.2 ≤ 2 ^ 50) => (markNds_vc  x).mpr (by
  obtain ⟨h1, h2, h3⟩ := hx
  (repeat' first | refine ex_nd _ _ (mkI _ _) _ rfl ?_ | refine ex_nd2 _ (mText _) _ _ ⟨rfl, ?_⟩ ⟨rfl, rfl⟩ | refine ex_nd2 _ _ _ _ ⟨rfl, ?_⟩ ⟨rfl, rfl⟩ | with_reducible rfl | exact True.intro | refine inR_i64 ?_ ?_ | with_reducible refine And.intro ?_ ?_ | with_reducible refine bcase_dec (fun _ => ?_) (fun _ => ?_) | with_reducible refine bcase_bne (fun _ => ?_) (fun _ => ?_) | with_reducible refine bcase_beq (fun _ => ?_) (fun _ => ?_) | with_reducible refine bcase_not (fun _ => ?_) (fun _ => ?_) | refine bcase_intro (fun _ => ?_) (fun _ => ?_) | refine sl_eq ?_ | refine ex_flip () ?_ ?_ | (apply ex_flip6 <;> try dsimp only) | (apply ex_flip5 <;> try dsimp only) | (apply ex_flip4 <;> try dsimp only) | (apply ex_flip3 <;> try dsimp only) | (apply ex_flip2 <;> try dsimp only) | apply ex_flip | (refine Prod.forall.2 ?_; intro _; try dsimp only) | (intro _; try dsimp only))
  all_goals (repeat (rename (List.set _ _ _)[_]? = some _ => hq; have e := gset hq; clear hq; subst e))
  all_goals (try (rename Nd => zz; obtain ⟨_, _, _, _⟩ := zz; dsimp only at *))
  all_goals (try simp only [List.length_set, List.set_set])
  all_goals first
    | rfl
    | exact gSt_0
    | exact ⟨h1, by omega, by omega⟩
    | (simp [gTot]; done)
    | exact (show qgI _ _ _ by assumption).2.1
    | assumption
    | exact (gSt_end (by assumption) (by assumption)).1
    | exact (gSt_end (by assumption) (by assumption)).2
    | exact gSt_step (by assumption) (by assumption) rfl
    | exact qgI_next (by assumption) (by assumption)
    | (have ht := gTot_step (k := x.2) (show qgI _ _ _ by assumption) (by assumption); rw [ht]; simp [szN]; omega)
    | (have hi := (show qgI _ _ _ by assumption); have hl := @gSt_len _ mkN szN x.2 _ _ hi; have ht := qgI_tot hi; have := hi.2.1; have := hi.2.2; have := h1.1; (try simp only [i64max]); omega)
    | (have hi := (show qgI _ _ _ by assumption); have hl := @gSt_len _ mkN szN x.2 _ _ hi; have ht := qgI_tot hi; have := hi.2.1; have := hi.2.2; have hg := qgI_sz hi (by assumption); simp only [szN] at hg; have := h1.1; (try simp only [i64max]); omega)
    | skip)

end Go.My
end
section
/- A right tree is gone through once: how many nodes are met below its last one. -/
set_option linter.unusedVariables false
set_option linter.unusedSimpArgs false
namespace Go.My
open Go.Eng

def kidsOf (ns : List Nd) (k : Int) : List Int := (ndAt ns k).kids
def vis (ns : List Nd) : Nat → Int → List Int
  | 0, _ => []
  | n + 1, k => k :: (kidsOf ns k).flatMap (vis ns n)
def WL (ns : List Nd) : Nat → List Int → List Int
  | 0, _ => []
  | n + 1, l => l ++ WL ns n (l.flatMap (kidsOf ns))
theorem visL_len {ns : List Nd} : ∀ {n : Nat} {l : List Int}, (l.flatMap (vis ns n)).length = (WL ns n l).length
  | 0, l => by
    have : l.flatMap (vis ns 0) = [] := by simp [vis]
    rw [this]; rfl
  | n + 1, l => by
    rw [WL, List.length_append, ← visL_len (l := l.flatMap (kidsOf ns)), List.flatMap_assoc]
    have : ∀ l : List Int, (l.flatMap (vis ns (n + 1))).length = l.length + (l.flatMap fun x => (kidsOf ns x).flatMap (vis ns n)).length := by
      intro l
      induction l with
      | nil => rfl
      | cons k l ih =>
        rw [List.flatMap_cons, List.flatMap_cons, List.length_append, List.length_append, ih, vis, List.length_cons, List.length_cons]; omega
    rw [this]
theorem WL_K {ns : List Nd} : ∀ {n : Nat} {l : List Int}, WL ns n (l.flatMap (kidsOf ns)) = (WL ns n l).flatMap (kidsOf ns)
  | 0, l => rfl
  | n + 1, l => by rw [WL, WL, List.flatMap_append, WL_K (l := l.flatMap (kidsOf ns))]
theorem WL_succ {ns : List Nd} {n : Nat} {l : List Int} : WL ns (n + 1) l = l ++ (WL ns n l).flatMap (kidsOf ns) := by rw [WL, WL_K]
/- a list without doubles, below a bound -/
theorem sum_le (f : Int → Nat) : ∀ (n : Nat) (V : List Int), V.Nodup → (∀ p ∈ V, 0 ≤ p ∧ p < n) → (V.map f).sum ≤ ((List.range n).map fun i : Nat => f i).sum
  | 0, V, _, h => by
    have : V = [] := by
      cases V with
      | nil => rfl
      | cons p V => have := h p (by simp); omega
    subst this; simp
  | n + 1, V, hn, h => by
    rw [List.range_succ, List.map_append, List.sum_append]
    by_cases hm : (n : Int) ∈ V
    · have hp := List.perm_cons_erase hm
      have e : (V.map f).sum = f n + ((V.erase n).map f).sum := by
        have := (hp.map f).sum_nat
        rw [this]; simp
      have h2 := sum_le f n (V.erase n) (hn.erase _) (fun p hp => by
        have h3 := (List.Nodup.mem_erase_iff hn).1 hp
        have := h p h3.2
        have h4 := h3.1
        omega)
      rw [e]; simp; omega
    · have h2 := sum_le f n V hn (fun p hp => by
        have := h p hp
        have : p ≠ n := fun e => hm (e ▸ hp)
        omega)
      simp; omega
theorem length_le_of {V : List Int} {n : Nat} (hn : V.Nodup) (h : ∀ p ∈ V, 0 ≤ p ∧ p < n) : V.length ≤ n := by
  have := sum_le (fun _ => 1) n V hn h
  have e1 : ∀ l : List Int, (l.map fun _ => 1).sum = l.length := by
    intro l; induction l with
    | nil => rfl
    | cons a l ih => simp only [List.map_cons, List.sum_cons, ih, List.length_cons]; omega
  have e2 : ∀ l : List Nat, (l.map fun _ => 1).sum = l.length := by
    intro l; induction l with
    | nil => rfl
    | cons a l ih => simp only [List.map_cons, List.sum_cons, ih, List.length_cons]; omega
  rw [e1, e2, List.length_range] at this; exact this
theorem ns_range {ns : List Nd} : ns = (List.range ns.length).map fun i : Nat => ndAt ns i := by
  apply List.ext_getElem?
  intro i
  by_cases h : i < ns.length
  · have : ns[i]? = some ns[i] := by simp
    rw [List.getElem?_map, List.getElem?_range h, this]
    simp only [Option.map_some]
    congr 1
    exact (ndAt_of (c := (i : Int)) (by simp)).symm
  · rw [List.getElem?_eq_none (by omega), List.getElem?_eq_none (by simp; omega)]
theorem count_kids {ns : List Nd} {j : Int} : (allKids ns).count j = ((List.range ns.length).map fun i : Nat => (kidsOf ns i).count j).sum := by
  have h : allKids ns = ((List.range ns.length).map fun i : Nat => ndAt ns i).flatMap (·.kids) := by rw [← ns_range]; rfl
  rw [h, List.count_flatMap, List.map_map]; rfl
theorem sum_zero : ∀ {l : List Nat}, (∀ m ∈ l, m = 0) → l.sum = 0
  | [], _ => rfl
  | m :: l, h => by rw [List.sum_cons, h m (by simp), sum_zero fun n hn => h n (by simp [hn])]
def tree1 (ns : List Nd) : Prop := (∀ i : Nat, i < ns.length → nodeOk ns i = true) ∧ ∀ i : Nat, i < ns.length - 1 → (allKids ns).count (i : Int) = 1
theorem WL_nodup {ns : List Nd} (h : tree1 ns) (h0 : 1 ≤ ns.length) : ∀ n : Nat, (WL ns n [(ns.length : Int) - 1]).Nodup ∧ ∀ p ∈ WL ns n [(ns.length : Int) - 1], 0 ≤ p ∧ p < ns.length
  | 0 => ⟨List.nodup_nil, fun p hp => by cases hp⟩
  | n + 1 => by
    obtain ⟨ih1, ih2⟩ := WL_nodup h h0 n
    rw [WL_succ]
    have hk : ∀ p ∈ WL ns n [(ns.length : Int) - 1], ∀ c ∈ kidsOf ns p, 0 ≤ c ∧ c < p := by
      intro p hp c hc
      have h2 := ih2 p hp
      have h3 := h.1 p.toNat (by omega)
      have e : ((p.toNat : Nat) : Int) = p := by omega
      rw [e] at h3
      exact (nodeOk_parts h3).2.2.2.1 c hc
    refine ⟨?_, ?_⟩
    · rw [List.nodup_iff_count]
      intro j
      rw [List.count_append, List.count_flatMap]
      by_cases hj : j = (ns.length : Int) - 1
      · subst hj
        have : ((WL ns n [(ns.length : Int) - 1]).map (List.count ((ns.length : Int) - 1) ∘ kidsOf ns)).sum = 0 := by
          refine sum_zero fun m hm => ?_
          obtain ⟨p, hp, rfl⟩ := List.mem_map.1 hm
          simp only [Function.comp]
          rw [List.count_eq_zero]
          intro hc
          have := hk p hp _ hc
          have := ih2 p hp
          omega
        rw [this]; simp
      · have h1 : List.count j [(ns.length : Int) - 1] = 0 := by
          rw [List.count_eq_zero]; simpa using hj
        have h2 := sum_le (fun p => (kidsOf ns p).count j) ns.length _ ih1 ih2
        rw [← count_kids] at h2
        have h3 : (allKids ns).count j ≤ 1 := by
          by_cases hr : 0 ≤ j ∧ j < ns.length
          · have := h.2 j.toNat (by omega)
            rw [show ((j.toNat : Nat) : Int) = j by omega] at this; omega
          · have : (allKids ns).count j = 0 := by
              rw [List.count_eq_zero]
              intro hm
              obtain ⟨y, hy, hc⟩ := List.mem_flatMap.1 hm
              obtain ⟨i, hi⟩ := List.mem_iff_getElem?.1 hy
              have hlt := (getE hi).1
              have := (nodeOk_parts (h.1 i hlt)).2.2.2.1 j
              rw [ndAt_of (c := (i : Int)) (by simpa using hi)] at this
              have := this hc
              omega
            omega
        rw [h1]
        have e : (List.count j ∘ kidsOf ns) = fun p => (kidsOf ns p).count j := rfl
        rw [e]; omega
    · intro p hp
      rcases List.mem_append.1 hp with hp | hp
      · simp at hp; omega
      · obtain ⟨q, hq, hc⟩ := List.mem_flatMap.1 hp
        have := hk q hq p hc
        have := ih2 q hq
        omega
theorem tree1_of {ns : List Nd} (h : treeOk ns = true) : tree1 ns ∧ 1 ≤ ns.length ∧ ns.length ≤ 300 ∧ okUp ns ((ns.length : Int) - 1) := by
  simp only [treeOk, Bool.and_eq_true, decide_eq_true_eq, Bool.not_eq_true', decide_eq_false_iff_not, List.all_eq_true, List.mem_range] at h
  have hu := okUp_of h.2.2.1
  refine ⟨⟨fun i hi => hu.2 i (by omega), fun i hi => ?_⟩, h.1.1, h.1.2, hu⟩
  exact h.2.2.2 i hi
theorem vis_len {ns : List Nd} {n : Nat} (h : treeOk ns = true) : (vis ns n ((ns.length : Int) - 1)).length ≤ 300 := by
  obtain ⟨h1, h2, h3, _⟩ := tree1_of h
  have e := @visL_len ns n [(ns.length : Int) - 1]
  simp only [List.flatMap_cons, List.flatMap_nil, List.append_nil] at e
  rw [e]
  have := WL_nodup h1 h2 n
  have := length_le_of this.1 this.2
  omega
/- the visits below kids -/
def visK (ns : List Nd) (n : Nat) (l : List Int) : Nat := (l.flatMap (vis ns n)).length
theorem vis_succ {ns : List Nd} {n : Nat} {k : Int} : (vis ns (n + 1) k).length = 1 + visK ns n (kidsOf ns k) := by rw [vis, List.length_cons, visK]; omega
theorem visK_cons {ns : List Nd} {n : Nat} {c : Int} {l : List Int} : visK ns n (c :: l) = (vis ns n c).length + visK ns n l := by simp [visK]
theorem visK_drop {ns : List Nd} {n : Nat} {i : Nat} {c : Int} {l : List Int} (h : l[i]? = some c) : visK ns n (l.drop i) = (vis ns n c).length + visK ns n (l.drop (i + 1)) := by
  rw [dropE h, visK_cons]
theorem visK_pos {ns : List Nd} {n : Nat} {k : Int} : 1 ≤ (vis ns (n + 1) k).length := by rw [vis_succ]; omega
end Go.My
end
section
/- A tree put anew behind other nodes, plainly: what the rewriting functions make. -/
set_option linter.unusedVariables false
set_option linter.unusedSimpArgs false
namespace Go.My
open Go.Eng

structure Rw where
  stop : Int → Option Nd
  tgt : Int → Int → Int → Int
  par : Int → Int → Int → Bool
def parNd (o : List Nd) : Nd := ⟨11, [], [(o.length : Int) - 1], false⟩
def put1 (R : Rw) (f : Int → List Nd → List Nd) (k i c : Int) (out : List Nd) : List Nd :=
  if R.par k i c then f (R.tgt k i c) out ++ [parNd (f (R.tgt k i c) out)] else f (R.tgt k i c) out
def putK (R : Rw) (f : Int → List Nd → List Nd) (k : Int) : List Int → Int → List Nd → List Int → List Nd × List Int
  | [], _, out, ks => (out, ks)
  | c :: l, i, out, ks => putK R f k l (i + 1) (put1 R f k i c out) (ks ++ [((put1 R f k i c out).length : Int) - 1])
def putN (ns : List Nd) (R : Rw) : Nat → Int → List Nd → List Nd
  | 0, _, out => out
  | n + 1, k, out => match R.stop k with
    | some x => out ++ [x]
    | none => (putK R (putN ns R n) k (ndAt ns k).kids 0 out []).1 ++ [⟨(ndAt ns k).kind, (ndAt ns k).text, (putK R (putN ns R n) k (ndAt ns k).kids 0 out []).2, (ndAt ns k).blank⟩]
def RwOk (ns : List Nd) (R : Rw) : Prop := ∀ (n : Nat) (k : Int) (i : Nat) (c : Int), okUp ns k → (ndAt ns k).kids[i]? = some c → c < n →
  okUp ns (R.tgt k i c) ∧ R.tgt k i c ≤ c ∧ (vis ns n (R.tgt k i c)).length + (if R.par k i c then 1 else 0) ≤ (vis ns n c).length
theorem putN_bd {ns : List Nd} {R : Rw} (hR : RwOk ns R) : ∀ {n : Nat} {k : Int} {out : List Nd}, okUp ns k → k < n → out.length < (putN ns R n k out).length ∧ (putN ns R n k out).length ≤ out.length + 2 * (vis ns n k).length
  | 0, k, out, h, hk => by have := isNd_iff.1 h.1; omega
  | n + 1, k, out, h, hk => by
    rw [vis_succ, putN]
    cases hs : R.stop k with
    | some x => simp only [List.length_append, List.length_cons, List.length_nil]; omega
    | none =>
      simp only [List.length_append, List.length_cons, List.length_nil]
      have key : ∀ (l : List Int) (i : Nat) (o : List Nd) (ks : List Int), (ndAt ns k).kids.drop i = l → o.length ≤ (putK R (putN ns R n) k l i o ks).1.length ∧ (putK R (putN ns R n) k l i o ks).1.length ≤ o.length + 2 * visK ns n l := by
        intro l
        induction l with
        | nil => intro i o ks _; simp [putK, visK]
        | cons c l ih =>
          intro i o ks hd
          have hc : (ndAt ns k).kids[i]? = some c := by
            have := congrArg (fun l : List Int => l[0]?) hd
            simpa using this
          have hm := okUp_kid h (memE hc)
          obtain ⟨g1, g2, g3⟩ := hR n k i c h hc (by omega)
          obtain ⟨p1, p2⟩ := putN_bd hR (n := n) (k := R.tgt k i c) (out := o) g1 (by omega)
          have hd2 : (ndAt ns k).kids.drop (i + 1) = l := by
            rw [← List.drop_drop, hd]; rfl
          obtain ⟨q1, q2⟩ := ih (i + 1) (put1 R (putN ns R n) k i c o) (ks ++ [((put1 R (putN ns R n) k i c o).length : Int) - 1]) hd2
          have hb : o.length ≤ (put1 R (putN ns R n) k i c o).length ∧ (put1 R (putN ns R n) k i c o).length ≤ o.length + 2 * (vis ns n c).length := by
            unfold put1
            split
            · rename_i hp; rw [if_pos hp] at g3; simp; omega
            · rename_i hp; rw [if_neg hp] at g3; omega
          rw [putK, visK_cons]
          have e : ((i : Int) + 1) = ((i + 1 : Nat) : Int) := by omega
          rw [e]
          omega
      have := key (ndAt ns k).kids 0 out [] (by simp)
      simp only [kidsOf] at this ⊢
      have e : ((0 : Nat) : Int) = 0 := rfl
      rw [e] at this
      omega
/- within a node: after some kids -/
def pk (ns : List Nd) (R : Rw) (n : Nat) (k : Int) (out0 : List Nd) (i : Int) (out : List Nd) (ks : List Int) : Prop :=
  (0 ≤ i ∧ i ≤ (ndAt ns k).kids.length) ∧ putK R (putN ns R n) k ((ndAt ns k).kids.drop i.toNat) i out ks = putK R (putN ns R n) k (ndAt ns k).kids 0 out0 [] ∧
    out.length + 2 * visK ns n ((ndAt ns k).kids.drop i.toNat) ≤ out0.length + 2 * visK ns n (ndAt ns k).kids ∧ out0.length ≤ out.length ∧ ks.length = i
theorem pk_init {ns : List Nd} {R : Rw} {n : Nat} {k : Int} {out0 : List Nd} : pk ns R n k out0 0 out0 [] := ⟨⟨by omega, by omega⟩, by simp, by simp, Nat.le_refl _, rfl⟩
theorem pk_next {ns : List Nd} {R : Rw} (hR : RwOk ns R) {n : Nat} {k : Int} {out0 : List Nd} {i c : Int} {out : List Nd} {ks : List Int} (h : pk ns R n k out0 i out ks) (hu : okUp ns k) (hk : k < n + 1)
    (hc : (ndAt ns k).kids[i.toNat]? = some c) : pk ns R n k out0 (i + 1) (put1 R (putN ns R n) k i c out) (ks ++ [((put1 R (putN ns R n) k i c out).length : Int) - 1]) := by
  obtain ⟨⟨h0, h1⟩, h2, h3, h4, h5⟩ := h
  have hlt := (getE hc).1
  have hm := okUp_kid hu (memE hc)
  obtain ⟨g1, g2, g3⟩ := hR n k i.toNat c hu hc (by omega)
  have e : ((i.toNat : Nat) : Int) = i := by omega
  rw [e] at g1 g2 g3
  obtain ⟨p1, p2⟩ := putN_bd hR (n := n) (k := R.tgt k i c) (out := out) g1 (by omega)
  have hb : out.length ≤ (put1 R (putN ns R n) k i c out).length ∧ (put1 R (putN ns R n) k i c out).length ≤ out.length + 2 * (vis ns n c).length := by
    unfold put1
    split
    · rename_i hp; rw [if_pos hp] at g3; simp; omega
    · rename_i hp; rw [if_neg hp] at g3; omega
  refine ⟨⟨by omega, by omega⟩, ?_, ?_, by omega, by simp; omega⟩
  · rw [← h2, dropE hc, toNat1 h0]; rfl
  · rw [dropE hc, visK_cons] at h3
    rw [toNat1 h0]; omega
theorem pk_done {ns : List Nd} {R : Rw} {n : Nat} {k : Int} {out0 : List Nd} {i : Int} {out : List Nd} {ks : List Int} (h : pk ns R n k out0 i out ks) (hl : ¬ i < (ndAt ns k).kids.length) (hs : R.stop k = none) :
    out ++ [⟨(ndAt ns k).kind, (ndAt ns k).text, ks, (ndAt ns k).blank⟩] = putN ns R (n + 1) k out0 := by
  obtain ⟨⟨h0, h1⟩, h2, _⟩ := h
  rw [List.drop_eq_nil_of_le (by omega), putK] at h2
  rw [putN, hs]
  simp only
  rw [← h2]
/- the place for what is asked of a kid -/
theorem pk_pre {ns : List Nd} {R : Rw} (hR : RwOk ns R) {n : Nat} {k : Int} {out0 : List Nd} {i c : Int} {out : List Nd} {ks : List Int} (h : pk ns R n k out0 i out ks) (hu : okUp ns k) (hk : k < n + 1)
    (hc : (ndAt ns k).kids[i.toNat]? = some c) {B : Nat} (hB : out0.length + 2 * (vis ns (n + 1) k).length ≤ B) :
    okUp ns (R.tgt k i c) ∧ R.tgt k i c < n ∧ out.length + 2 * (vis ns n (R.tgt k i c)).length ≤ B := by
  obtain ⟨⟨h0, h1⟩, h2, h3, h4, h5⟩ := h
  have hlt := (getE hc).1
  have hm := okUp_kid hu (memE hc)
  obtain ⟨g1, g2, g3⟩ := hR n k i.toNat c hu hc (by omega)
  have e : ((i.toNat : Nat) : Int) = i := by omega
  rw [e] at g1 g2 g3
  refine ⟨g1, by omega, ?_⟩
  rw [dropE hc, visK_cons] at h3
  rw [vis_succ] at hB
  simp only [kidsOf] at hB
  omega
theorem pk_bd {ns : List Nd} {R : Rw} {n : Nat} {k : Int} {out0 : List Nd} {i : Int} {out : List Nd} {ks : List Int} (h : pk ns R n k out0 i out ks) {B : Nat} (hB : out0.length + 2 * (vis ns (n + 1) k).length ≤ B) :
    (0 ≤ i ∧ i ≤ (ndAt ns k).kids.length) ∧ out.length + 2 ≤ B ∧ ks.length = i := by
  obtain ⟨h0, h2, h3, h4, h5⟩ := h
  rw [vis_succ] at hB
  simp only [kidsOf] at hB
  exact ⟨h0, by omega, h5⟩
end Go.My
end
section
/- What is put anew is no greater than what was. -/
set_option linter.unusedVariables false
set_option linter.unusedSimpArgs false
namespace Go.My
open Go.Eng

theorem putN_all {ns : List Nd} {R : Rw} (hR : RwOk ns R) {p : Nd → Prop} (hpar : ∀ o, p (parNd o)) (hst : ∀ k x, R.stop k = some x → p x)
    (hnd : ∀ k ks, okUp ns k → ks.length = (ndAt ns k).kids.length → p ⟨(ndAt ns k).kind, (ndAt ns k).text, ks, (ndAt ns k).blank⟩) :
    ∀ {n : Nat} {k : Int} {out : List Nd}, okUp ns k → k < n → (∀ e ∈ out, p e) → ∀ e ∈ putN ns R n k out, p e
  | 0, k, out, h, hk, ho => by have := isNd_iff.1 h.1; omega
  | n + 1, k, out, h, hk, ho => by
    rw [putN]
    cases hs : R.stop k with
    | some x =>
      intro e he
      rcases List.mem_append.1 he with he | he
      · exact ho e he
      · simp at he; subst he; exact hst k _ hs
    | none =>
      simp only
      have key : ∀ (l : List Int) (i : Nat) (o : List Nd) (ks : List Int), (ndAt ns k).kids.drop i = l → (∀ e ∈ o, p e) → (∀ e ∈ (putK R (putN ns R n) k l i o ks).1, p e) ∧ (putK R (putN ns R n) k l i o ks).2.length = ks.length + l.length := by
        intro l
        induction l with
        | nil => intro i o ks _ ho; exact ⟨ho, by simp [putK]⟩
        | cons c l ih =>
          intro i o ks hd ho
          have hc : (ndAt ns k).kids[i]? = some c := by
            have := congrArg (fun l : List Int => l[0]?) hd
            simpa using this
          have hm := okUp_kid h (memE hc)
          obtain ⟨g1, g2, g3⟩ := hR n k i c h hc (by omega)
          have hp := putN_all hR hpar hst hnd (n := n) (k := R.tgt k i c) (out := o) g1 (by omega) ho
          have hd2 : (ndAt ns k).kids.drop (i + 1) = l := by
            rw [← List.drop_drop, hd]; rfl
          have hq : ∀ e ∈ put1 R (putN ns R n) k i c o, p e := by
            unfold put1
            split
            · intro e he
              rcases List.mem_append.1 he with he | he
              · exact hp e he
              · simp at he; subst he; exact hpar _
            · exact hp
          have := ih (i + 1) _ (ks ++ [((put1 R (putN ns R n) k i c o).length : Int) - 1]) hd2 hq
          rw [putK]
          have e : ((i : Int) + 1) = ((i + 1 : Nat) : Int) := by omega
          rw [e]
          refine ⟨this.1, ?_⟩
          rw [this.2]; simp; omega
      have := key (ndAt ns k).kids 0 out [] (by simp) ho
      intro e he
      rcases List.mem_append.1 he with he | he
      · exact this.1 e he
      · simp only [List.mem_singleton] at he
        rw [he]
        exact hnd k _ h (by have := this.2; simpa using this)
theorem gTot_nn {α : Type} (sz : α → Nat) : ∀ l : List α, 0 ≤ gTot sz l
  | [] => Int.le_refl 0
  | x :: l => by have := gTot_nn sz l; simp only [gTot]; omega
theorem mk_tot (l : List Nd) (k : Int) : gTot szN (gMk mkN szN k l) = gTot szN l := (gMk_idem szN_mk mkN_mk).2
theorem mk_idem (l : List Nd) (k : Int) : gMk mkN szN k l = gMk mkN szN k (gMk mkN szN k l) := (gMk_idem szN_mk mkN_mk).1.symm
def resB (l : List Nd) : Prop := l.length ≤ 1048576 ∧ ∀ e ∈ l, e.text.length ≤ 1048576 ∧ e.kids.length ≤ 1048576
theorem resB_of {l : List Nd} (h : ¬ szNds l 1048576 < 0) : resB l := by
  have := szNds_bd (l := l) (n := 1048576) (by omega) h
  exact ⟨by have := this.1; omega, fun e he => by have := this.2 e he; omega⟩
theorem resB_small {l : List Nd} (h : resB l) : smallNds l := ⟨by have := h.1; omega, fun e he => by have := h.2 e he; exact ⟨by omega, by omega⟩⟩
theorem resB_g {l : List Nd} (h : resB l) : qgB szN l := ⟨h.1, fun e he => by have := h.2 e he; simp [szN]; omega⟩
def kidsB' (l : List Nd) : Prop := l.length ≤ 2 ^ 30 ∧ ∀ e ∈ l, e.kids.length ≤ 2 ^ 30
theorem resB_kids {l : List Nd} (h : resB l) : kidsB' l := ⟨by have := h.1; omega, fun e he => by have := h.2 e he; omega⟩
theorem resB_ok {l : List Nd} (h : resB l) : okNds l := ⟨by have := h.1; omega, fun e he => by have := h.2 e he; exact ⟨by omega, by omega⟩⟩
theorem putN_resB {ns : List Nd} {R : Rw} (hR : RwOk ns R) (hst : ∀ k x, R.stop k = some x → x.text.length ≤ 1048576 ∧ x.kids.length ≤ 1048576) (ht : treeOk ns = true) (hb : resB ns) {n : Nat} (hn : 301 ≤ n) : resB (putN ns R n ((ns.length : Int) - 1) []) := by
  obtain ⟨h1, h2, h3, h4⟩ := tree1_of ht
  have hlen := putN_bd hR (n := n) (out := []) h4 (by omega)
  have hv := @vis_len ns n ht
  refine ⟨by simp at hlen; omega, ?_⟩
  refine putN_all hR (fun o => by simp [parNd]) hst (fun k ks hu hk => ?_) h4 (by omega) (fun e he => by cases he)
  have hr := isNd_iff.1 hu.1
  have e : ns[k.toNat]? = some ns[k.toNat] := by simp
  have hm := hb.2 _ (memE e)
  rw [ndAt_of e] at hk ⊢
  exact ⟨hm.1, by rw [hk]; exact hm.2⟩
end Go.My
end
section
/- The law of GroupsOf. -/
set_option linter.unusedVariables false
set_option linter.unusedSimpArgs false
namespace Go.My
open Go.Eng Go.Proofs
variable {G : GInv}

def txtB (l : List Nd) : Prop := l.length < 2 ^ 62 ∧ ∀ e ∈ l, e.text.length ≤ 2 ^ 40
theorem resB_txt {l : List Nd} (h : resB l) : txtB l := ⟨by have := h.1; omega, fun e he => by have := h.2 e he; omega⟩
theorem groupsOf_B {ns : List Nd} : mkB (groupsOf ns) ∧ smallGrs (groupsOf ns) := by
  have h := @groupsOf_len ns
  exact ⟨h, by have := h.1; omega, fun g hg => by have := h.2 g hg; omega⟩
theorem totG_nn : ∀ l : List Gr, 0 ≤ totG l
  | [] => Int.le_refl 0
  | x :: l => by have := totG_nn l; simp only [totG]; omega
theorem mkGs_tot : ∀ (l : List Gr) (k : Int), totG (mkGs k l) = totG l
  | [], k => rfl
  | x :: l, k => by simp only [mkGs, totG, mkGs_tot l]; simp [mkG, mkI_len]
theorem mkGs_idem : ∀ (l : List Gr) (k : Int), mkGs k l = mkGs k (mkGs k l)
  | [], k => rfl
  | x :: l, k => by
    simp only [mkGs]
    have e : (mkG k x).notes.length = x.notes.length := by simp [mkG, mkI_len]
    rw [e, ← mkGs_idem l]
    simp [mkG, mkI_len]
theorem mkGs_B {l : List Gr} (k : Int) (h : mkB l) : mkB (mkGs k l) := by
  refine ⟨by rw [mkGs_len]; exact h.1, ?_⟩
  have : ∀ (l : List Gr) (k : Int), (∀ g ∈ l, g.notes.length ≤ 12) → ∀ g ∈ mkGs k l, g.notes.length ≤ 12 := by
    intro l
    induction l with
    | nil => intro k _ g hg; cases hg
    | cons x l ih =>
      intro k hl g hg
      rcases List.mem_cons.1 hg with e | e
      · subst e; simp only [mkG, mkI_len]; exact hl x (by simp)
      · exact ih _ (fun y hy => hl y (by simp [hy])) g e
  exact this l k h.2
def s_lawGroupsOf  : Sig := { X := List Nd, args := fun x => [nds x], pre := fun x => smallNds x, Y := Unit, post := fun x y => True, res := fun x y => .bool true, outs := fun x y => [.top], keep := false }
theorem lawGroupsOf_vc (x : List Nd) : vcFun Go.Proofs.Tryd.prog (Γof [(7, 0, s_szNds), (9, 0, s_toNds), (16, 0, s_sGroupsOf), (17, 0, s_iGroupsOf), (11, 0, s_eqNds), (18, 0, s_eqGrs), (19, 0, s_markNds), (20, 0, s_markGrs), (21, 0, s_heldGrs)]) (Eof []) false (Lof ([])) Go.Proofs.Tryd.f6.ntmps Go.Proofs.Tryd.f6.results.toList (Go.Proofs.Tryd.f6.body.getD .skip) s_lawGroupsOf x = ((∀ (y : Unit), True → True ∧ True ∧ True) ∧ ∃ (x_1 : List Nd × Int), ((-1 : Int) ≤ x_1.snd ∧ x_1.snd ≤ (2 : Int) ^ (50 : Nat) ∧ smallNds x_1.fst) ∧ AV.sl false (0 : Nat) (4 : Nat) Nd (ndA false) x = AV.sl false (0 : Nat) (4 : Nat) Nd (ndA false) x_1.fst ∧ (1048576 : Int) = x_1.snd ∧ ∀ (y : Unit), True → bcase (decide (szNds x_1.fst x_1.snd < (0 : Int))) (∃ (y : Unit), True ∧ true = true ∧ True) (∃ (x_2 : List Nd), (List.length x_2 ≤ (1073741824 : Nat) ∧ ∀ (e : Nd), e ∈ x_2 → List.length e.kids ≤ (1073741824 : Nat)) ∧ AV.sl false (0 : Nat) (4 : Nat) Nd (ndA false) x = AV.sl false (0 : Nat) (4 : Nat) Nd (ndA false) x_2 ∧ ∀ (y : Unit), True → ∃ (x_3 : List Nd), (okNds x_3 ∧ List.length x_3 ≤ (1073741824 : Nat)) ∧ AV.sl false (0 : Nat) (4 : Nat) Nd (fun (x : Nd) => fzL (ndA true x)) x_2 = AV.sl false (0 : Nat) (4 : Nat) Nd (ndA false) x_3 ∧ ∀ (y : Unit), True → ∃ (x_4 : List Nd), (List.length x_4 ≤ (1073741824 : Nat) ∧ ∀ (e : Nd), e ∈ x_4 → List.length e.kids ≤ (1073741824 : Nat)) ∧ AV.sl false (0 : Nat) (4 : Nat) Nd (ndA false) x = AV.sl false (0 : Nat) (4 : Nat) Nd (ndA false) x_4 ∧ ∀ (y : Unit), True → ∃ (x_5 : List Nd), (okNds x_5 ∧ List.length x_5 ≤ (1073741824 : Nat)) ∧ AV.sl false (0 : Nat) (4 : Nat) Nd (fun (x : Nd) => fzL (ndA true x)) x_4 = AV.sl false (0 : Nat) (4 : Nat) Nd (ndA false) x_5 ∧ ∀ (y : Unit), True → ∃ (x_6 : List Gr × List Gr), (smallGrs x_6.fst ∧ smallGrs x_6.snd) ∧ AV.sl false (0 : Nat) (2 : Nat) Gr (fun (x : Gr) => fzL (grA true x)) (groupsOf x_5) = AV.sl false (0 : Nat) (2 : Nat) Gr (grA false) x_6.fst ∧ AV.sl false (0 : Nat) (2 : Nat) Gr (fun (x : Gr) => fzL (grA true x)) (groupsOf x_3) = AV.sl false (0 : Nat) (2 : Nat) Gr (grA false) x_6.snd ∧ ∀ (y : Unit), True → bcase (!beqGrs x_6.fst x_6.snd) (∃ (y : Unit), True ∧ false = true ∧ True) (∃ (x_7 : List Nd), (List.length x_7 ≤ (1073741824 : Nat) ∧ ∀ (e : Nd), e ∈ x_7 → List.length e.kids ≤ (1073741824 : Nat)) ∧ AV.sl false (0 : Nat) (4 : Nat) Nd (ndA false) x = AV.sl false (0 : Nat) (4 : Nat) Nd (ndA false) x_7 ∧ ∀ (y : Unit), True → ∃ (x_8 : List Nd × List Nd), (smallNds x_8.fst ∧ smallNds x_8.snd) ∧ AV.sl false (0 : Nat) (4 : Nat) Nd (fun (x : Nd) => fzL (ndA true x)) x_4 = AV.sl false (0 : Nat) (4 : Nat) Nd (ndA false) x_8.fst ∧ AV.sl false (0 : Nat) (4 : Nat) Nd (fun (x : Nd) => fzL (ndA true x)) x_7 = AV.sl false (0 : Nat) (4 : Nat) Nd (ndA false) x_8.snd ∧ ∀ (y : Unit), True → bcase (!beqNds x_8.fst x_8.snd) (∃ (y : Unit), True ∧ false = true ∧ True) (∃ (x_9 : List Nd × Int), (qgB szN x_9.fst ∧ (0 : Int) ≤ x_9.snd ∧ x_9.snd ≤ (2 : Int) ^ (50 : Nat)) ∧ AV.sl true (0 : Nat) (4 : Nat) Nd (ndA true) x_4 = AV.sl true (0 : Nat) (4 : Nat) Nd (ndA true) x_9.fst ∧ (1 : Int) = x_9.snd ∧ ∀ (y : Unit), True → bcase (decide (x_9.snd + gTot szN x_9.fst < (0 : Int))) (∃ (y : Unit), True ∧ false = true ∧ True) (∃ (x_10 : List Gr × List Gr), (smallGrs x_10.fst ∧ smallGrs x_10.snd) ∧ AV.sl false (0 : Nat) (2 : Nat) Gr (fun (x : Gr) => fzL (grA true x)) (groupsOf x_5) = AV.sl false (0 : Nat) (2 : Nat) Gr (grA false) x_10.fst ∧ AV.sl false (0 : Nat) (2 : Nat) Gr (fun (x : Gr) => fzL (grA true x)) (groupsOf x_3) = AV.sl false (0 : Nat) (2 : Nat) Gr (grA false) x_10.snd ∧ ∀ (y : Unit), True → bcase (!beqGrs x_10.fst x_10.snd) (∃ (y : Unit), True ∧ false = true ∧ True) (∃ (x_11 : List Gr × Int), (mkB x_11.fst ∧ (0 : Int) ≤ x_11.snd ∧ x_11.snd ≤ (2 : Int) ^ (50 : Nat)) ∧ AV.sl true (0 : Nat) (2 : Nat) Gr (grA true) (groupsOf x_5) = AV.sl true (0 : Nat) (2 : Nat) Gr (grA true) x_11.fst ∧ (1 : Int) = x_11.snd ∧ ∀ (y : Unit), True → ∃ (x_12 : List Gr × Int), ((mkB x_12.fst ∧ x_12.fst = mkGs x_12.snd x_12.fst) ∧ (0 : Int) ≤ x_12.snd ∧ x_12.snd ≤ (2 : Int) ^ (50 : Nat)) ∧ AV.sl false (0 : Nat) (2 : Nat) Gr (fun (x : Gr) => fzL (grA true x)) (mkGs x_11.snd x_11.fst) = AV.sl false (0 : Nat) (2 : Nat) Gr (grA false) x_12.fst ∧ (1 : Int) = x_12.snd ∧ ∀ (y : Unit), True → bcase (decide (x_12.snd + totG x_12.fst < (0 : Int))) (∃ (y : Unit), True ∧ false = true ∧ True) (bcase (x_12.snd + totG x_12.fst != x_11.snd + totG x_11.fst) (∃ (y : Unit), True ∧ false = true ∧ True) (∃ (x_13 : List Nd), (List.length x_13 ≤ (1073741824 : Nat) ∧ ∀ (e : Nd), e ∈ x_13 → List.length e.kids ≤ (1073741824 : Nat)) ∧ AV.sl false (0 : Nat) (4 : Nat) Nd (ndA false) x = AV.sl false (0 : Nat) (4 : Nat) Nd (ndA false) x_13 ∧ ∀ (y : Unit), True → ∃ (x : List Nd), (okNds x ∧ List.length x ≤ (1073741824 : Nat)) ∧ AV.sl false (0 : Nat) (4 : Nat) Nd (fun (x : Nd) => fzL (ndA true x)) x_13 = AV.sl false (0 : Nat) (4 : Nat) Nd (ndA false) x ∧ ∀ (y : Unit), True → ∃ (x_14 : List Gr × List Gr), (smallGrs x_14.fst ∧ smallGrs x_14.snd) ∧ AV.sl false (0 : Nat) (2 : Nat) Gr (fun (x : Gr) => fzL (grA true x)) (groupsOf x) = AV.sl false (0 : Nat) (2 : Nat) Gr (grA false) x_14.fst ∧ AV.sl false (0 : Nat) (2 : Nat) Gr (fun (x : Gr) => fzL (grA true x)) (groupsOf x_3) = AV.sl false (0 : Nat) (2 : Nat) Gr (grA false) x_14.snd ∧ ∀ (y : Unit), True → bcase (!beqGrs x_14.fst x_14.snd) (∃ (y : Unit), True ∧ false = true ∧ True) (∃ (x : List Gr × Int), ((mkB x.fst ∧ x.fst = mkGs x.snd x.fst) ∧ (0 : Int) ≤ x.snd ∧ x.snd ≤ (2 : Int) ^ (50 : Nat)) ∧ AV.sl false (0 : Nat) (2 : Nat) Gr (fun (x : Gr) => fzL (grA true x)) (mkGs x_11.snd x_11.fst) = AV.sl false (0 : Nat) (2 : Nat) Gr (grA false) x.fst ∧ (1 : Int) = x.snd ∧ ∀ (y : Unit), True → bcase (decide (x.snd + totG x.fst < (0 : Int))) (∃ (y : Unit), True ∧ false = true ∧ True) (bcase (x.snd + totG x.fst != x_11.snd + totG x_11.fst) (∃ (y : Unit), True ∧ false = true ∧ True) (∃ (y : Unit), True ∧ true = true ∧ True))))))))))) := by kernel_rfl
set_option maxHeartbeats 4000000 in
theorem lawGroupsOf_ok  : Contract G Tryd.prog 6 s_lawGroupsOf :=
  vcFun_ok (Γ := Γof [(7, 0, s_szNds), (9, 0, s_toNds), (16, 0, s_sGroupsOf), (17, 0, s_iGroupsOf), (11, 0, s_eqNds), (18, 0, s_eqGrs), (19, 0, s_markNds), (20, 0, s_markGrs), (21, 0, s_heldGrs)]) (E := Eof []) (ov := false) (L := fun x => Lof ([])) Tryd.func6 rfl (by decide) (Γof_ok (l := [(7, 0, s_szNds), (9, 0, s_toNds), (16, 0, s_sGroupsOf), (17, 0, s_iGroupsOf), (11, 0, s_eqNds), (18, 0, s_eqGrs), (19, 0, s_markNds), (20, 0, s_markGrs), (21, 0, s_heldGrs)]) ⟨szNds_ok, toNds_ok, sGroupsOf_ok, iGroupsOf_ok, eqNds_ok, eqGrs_ok, markNds_ok, markGrs_ok, heldGrs_ok, trivial⟩) fun (x : List Nd) (hx : smallNds x) => (lawGroupsOf_vc  x).mpr (by
  have h1 : smallNds x := hx
  simp only [fz_nds, fz_grs]
  (repeat' first | with_reducible rfl | exact True.intro | refine inR_i64 ?_ ?_ | with_reducible refine And.intro ?_ ?_ | with_reducible refine bcase_dec (fun _ => ?_) (fun _ => ?_) | with_reducible refine bcase_bne (fun _ => ?_) (fun _ => ?_) | with_reducible refine bcase_beq (fun _ => ?_) (fun _ => ?_) | with_reducible refine bcase_not (fun _ => ?_) (fun _ => ?_) | refine bcase_intro (fun _ => ?_) (fun _ => ?_) | refine sl_eq ?_ | refine ex_flip () ?_ ?_ | (apply ex_flip6 <;> try dsimp only) | (apply ex_flip5 <;> try dsimp only) | (apply ex_flip4 <;> try dsimp only) | (apply ex_flip3 <;> try dsimp only) | (apply ex_flip2 <;> try dsimp only) | apply ex_flip | (refine Prod.forall.2 ?_; intro _; try dsimp only) | (intro _; try dsimp only))
  all_goals try (have hr := resB_of (show ¬ szNds x 1048576 < 0 by assumption); have ho := @groupsOf_B x; have hn1 := gTot_nn szN x; have hn2 := totG_nn (groupsOf x))
  all_goals try rw [mkGs_tot] at *
  all_goals first
    | exact h1
    | rfl
    | omega
    | contradiction
    | exact gB6 (by assumption)
    | exact resB_small hr
    | exact resB_ok hr
    | exact resB_g hr
    | exact resB_txt hr
    | exact ho.2
    | exact ho.1
    | exact mkGs_B _ ho.1
    | exact mkGs_idem _ _
    | exact gB3 (by assumption)
    | (exact fun e he => gB4 (by assumption) he)
    | (have := gB4 (by assumption) (by assumption); omega)
    | (have := gB3 (by assumption); omega)
    | (simp only [ne_eq, not_true_eq_false] at *; done)
    | (exfalso; simp [beqNds_self, beqGrs_self] at *; done)
    | skip)

end Go.My
end
section
/- What a reading of data says, in the engine's words. -/
set_option linter.unusedVariables false
set_option linter.unusedSimpArgs false
namespace Go.Eng

def Old (w : World) : FP := fun b => w.heap.size ≤ b

def Opens (P : Program) (t : TypeId) {α : Type} (f : α → List AV) (good : α → Prop) : Prop :=
  ∀ {H : Type} (enc : TypeId × Value → H) (w : World) (spare : Nat → Bool) (held : Bool) (fuel : Nat) (cs : List Value) (y : DataW H × List MemPlace),
    DataW.trod enc P w 0 spare held fuel t cs = some y → ∃ x : α, good x ∧ rel0L (Old w) w (f x) cs (fun _ => False)

theorem rel0L_one {Z : FP} {w : World} {a : AV} {v : Value} : rel0L Z w [a] [v] (fun _ => False) ↔ rel0 Z w a v (fun _ => False) := by
  simp only [rel0L]
  constructor
  · rintro ⟨u, cs', A, B, e, hj, h1, h2, h3⟩
    simp only [List.cons.injEq] at e
    obtain ⟨rfl, rfl⟩ := e
    have := (emp_of_join hj emp_false).1
    rwa [emp_eq this] at h1
  · intro h
    exact ⟨v, [], fun _ => False, fun _ => False, rfl, join_emp_left _, h, rfl, emp_false⟩

theorem rel0L_cons {Z : FP} {w : World} {a : AV} {azs : List AV} {v : Value} {vs : List Value} (h1 : rel0 Z w a v (fun _ => False)) (h2 : rel0L Z w azs vs (fun _ => False)) :
    rel0L Z w (a :: azs) (v :: vs) (fun _ => False) := by
  simp only [rel0L]
  exact ⟨v, vs, _, _, rfl, join_emp_left _, h1, h2⟩

theorem wf_int {k : IntKind} {n : Int} (h : (Lit.int k n).wf = true) : inR k n := by
  unfold inR
  simpa [Lit.wf] using h

theorem opens_int {P : Program} {t : TypeId} {k : IntKind} (ht : P.underlying t = some (.int k)) : Opens P t (fun n : Int => [.int k n]) (fun n => inR k n) := by
  intro H enc w spare held fuel cs y h
  obtain ⟨n, rfl, _, hw⟩ := DataW.trod_int ht h
  exact ⟨n, wf_int hw, rel0L_one.2 (by simp [rel0, emp])⟩
theorem opens_bool {P : Program} {t : TypeId} (ht : P.underlying t = some .bool) : Opens P t (fun b : Bool => [.bool b]) (fun _ => True) := by
  intro H enc w spare held fuel cs y h
  obtain ⟨n, rfl, _⟩ := DataW.trod_bool ht h
  exact ⟨n, trivial, rel0L_one.2 (by simp [rel0, emp])⟩
theorem opens_str {P : Program} {t : TypeId} (ht : P.underlying t = some .string) : Opens P t (fun s : List UInt8 => [.str s]) (fun s => s.length < 2 ^ 63) := by
  intro H enc w spare held fuel cs y h
  obtain ⟨n, rfl, _, hl⟩ := DataW.trod_string ht h
  refine ⟨n.data.toList, ?_, rel0L_one.2 ?_⟩
  · have : n.data.toList.length ≤ maxLen := hl
    unfold maxLen at this; omega
  · simp only [rel0]; exact ⟨trivial, emp_false⟩

theorem exists_list {α : Type} {p : Nat → α → Prop} : ∀ n, (∀ i, i < n → ∃ x, p i x) → ∃ l : List α, l.length = n ∧ ∀ i x, l[i]? = some x → p i x
  | 0, _ => ⟨[], rfl, fun i x h => by simp at h⟩
  | n + 1, h => by
    obtain ⟨l, hl, hp⟩ := exists_list n fun i hi => h i (by omega)
    obtain ⟨x, hx⟩ := h n (by omega)
    refine ⟨l ++ [x], by simp [hl], fun i y hy => ?_⟩
    by_cases hi : i < l.length
    · rw [List.getElem?_append_left hi] at hy; exact hp i y hy
    · rw [List.getElem?_append_right (by omega)] at hy
      have : i - l.length = 0 := by
        rcases Nat.eq_zero_or_pos (i - l.length) with h | h
        · exact h
        · rw [List.getElem?_eq_none (by simp; omega)] at hy; cases hy
      rw [this] at hy; simp at hy; subst hy
      rwa [show i = n by omega]

theorem rows_of {α : Type} {sz : Nat} {R : α → List Value → FP → Prop} : ∀ (xs : List α) (arr : List Value),
    (∀ (i : Nat) (x : α), xs[i]? = some x → ((arr.drop (i * sz)).take sz).length = sz ∧ R x ((arr.drop (i * sz)).take sz) (fun _ => False)) → Rows sz R xs arr (fun _ => False)
  | [], arr, h => emp_false
  | x :: xs, arr, h => by
    have h0 := h 0 x rfl
    simp only [Nat.zero_mul, List.drop_zero] at h0
    refine ⟨_, _, join_emp_left _, h0.1, h0.2, rows_of xs (arr.drop sz) fun i y hy => ?_⟩
    have := h (i + 1) y (by simpa using hy)
    rwa [Nat.succ_mul, Nat.add_comm, ← List.drop_drop] at this

theorem opens_slice {P : Program} {t e : TypeId} {sz : Nat} {α : Type} {f : α → List AV} {good : α → Prop} (ht : P.underlying t = some (.slice e)) (hc : P.cellsOf e = sz) (hpos : 0 < sz)
    (ho : Opens P e f good) : Opens P t (fun l : List α => [.sl false 0 sz α f l]) (fun l => l.length < 2 ^ 63 ∧ ∀ x ∈ l, good x) := by
  intro H enc w spare held fuel cs y h
  rcases DataW.trod_slice ht h with ⟨rfl, _⟩ | ⟨a, len, cap, elems, rest, n, _, rfl, _, hb, hl, hm, hlen, hel, _, _⟩
  · refine ⟨[], ⟨by simp, by simp⟩, rel0L_one.2 ?_⟩
    simp only [rel0]
    exact ⟨none, 0, 0, rfl, rfl, Nat.le_refl _, .inr ⟨trivial, emp_false, .inl trivial⟩⟩
  · have each : ∀ i, i < len → ∃ x : α, good x ∧ ∃ cs, w.cells? 0 (a.add (i * sz)) sz = some cs ∧ rel0L (Old w) w (f x) cs (fun _ => False) := by
      intro i hi
      have h1 := hel i hi
      rw [hc] at h1
      rw [List.getElem?_eq_getElem (by omega : i < elems.length), Option.bind_eq_some_iff] at h1
      obtain ⟨cs, h2, h3⟩ := h1
      obtain ⟨x, hg, hr⟩ := ho enc w spare held n cs _ h3
      exact ⟨x, hg, cs, h2, hr⟩
    obtain ⟨l, hll, hp⟩ := exists_list len each
    refine ⟨l, ⟨?_, ?_⟩, rel0L_one.2 ?_⟩
    · unfold maxLen at hm; omega
    · intro x hx
      obtain ⟨i, hi⟩ := List.getElem?_of_mem hx
      exact (hp i x hi).1
    · simp only [rel0]
      refine ⟨some a, len, cap, rfl, hll.symm, hl, .inr ⟨trivial, emp_false, ?_⟩⟩
      rcases Nat.eq_zero_or_pos len with h0 | h0
      · exact .inl (List.length_eq_zero_iff.1 (by omega))
      · refine .inr ?_
        obtain ⟨x0, _, c0, hc0, _⟩ := each 0 h0
        have h00 := (World.cells?_some hc0).2.2 0 hpos
        have hcl := (World.cells?_some hc0).2.1
        simp only [Nat.zero_mul, Addr.add] at h00
        obtain ⟨b, off, sp⟩ := a
        simp only [World.cell?, if_true] at h00
        split at h00
        · rename_i arr ty fr harr
          split at h00
          · rw [List.getElem?_eq_getElem (by omega)] at h00; cases h00
          · rename_i hsp
            have hsp : sp = none := by simpa using hsp
            subst hsp
            have hlt : b < w.heap.size := by
              rcases Nat.lt_or_ge b w.heap.size with h | h
              · exact h
              · rw [Array.getElem?_eq_none h] at harr; cases harr
            refine ⟨b, off, arr, ty, fr, rfl, by unfold Old; omega, harr, rows_of l _ fun i x hx => ?_⟩
            have hi : i < l.length := (List.getElem?_eq_some_iff.1 hx).1
            obtain ⟨hg, cs, hcs, hr⟩ := hp i x hx
            obtain ⟨_, hcl, hce⟩ := World.cells?_some hcs
            have e : ((arr.toList.drop off).drop (i * sz)).take sz = cs := by
              refine List.ext_getElem? fun j => ?_
              rw [List.getElem?_take]
              split
              · rename_i hj
                have := hce j hj
                rw [← this]
                simp only [List.getElem?_drop, Array.getElem?_toList]
                have ea : ((⟨b, off, none⟩ : Addr).add (i * sz)).add j = ⟨b, off + i * sz + j, none⟩ := by
                  unfold Addr.add
                  by_cases h1 : i * sz = 0 <;> by_cases h2 : j = 0 <;> simp [h1, h2]
                rw [ea]
                simp only [World.cell?, harr]
                simp [Nat.add_assoc]
              · rw [List.getElem?_eq_none (by omega)]
            rw [e]
            exact ⟨hcl, hr⟩
        · rw [List.getElem?_eq_getElem (by omega)] at h00; cases h00

theorem trod_struct_cells {P : Program} {H : Type} {enc : TypeId × Value → H} {w : World} {base : Nat} {spare : Nat → Bool} {held : Bool} {fuel : Nat} {t : TypeId} {cs : List Value} {y : DataW H × List MemPlace} {fs : Array Field}
    (ht : P.underlying t = some (.struct fs)) (hn : P.cellsOf t = fs.size) (hf : ∀ (i : Nat) (f : Field), fs[i]? = some f → f.offset = i ∧ P.cellsOf f.type = 1)
    (h : DataW.trod enc P w base spare held fuel t cs = some y) : cs.length = fs.size ∧ ∃ n, ∀ (i : Nat) (f : Field) (c : Value), fs[i]? = some f → cs[i]? = some c →
      ∃ z, DataW.trod enc P w base spare held n f.type [c] = some z := by
  obtain ⟨xs, n, _, _, h1, h2, h3⟩ := DataW.trod_struct ht h
  refine ⟨by omega, n, fun i f c hi hc => ?_⟩
  have h4 := h3 i f hi
  rw [(hf i f hi).1, (hf i f hi).2] at h4
  have hlt : i < cs.length := (List.getElem?_eq_some_iff.1 hc).1
  have e : (cs.drop i).take 1 = [c] := by
    rw [List.drop_eq_getElem_cons hlt]
    simp only [List.take_succ_cons, List.take_zero, List.cons.injEq, and_true]
    exact (List.getElem?_eq_some_iff.1 hc).2
  rw [e] at h4
  rw [h4]
  have : i < xs.length := by omega
  exact ⟨xs[i], by simp [this]⟩
end Go.Eng
end
section
/- From a function's contract to a row: a law that returns true. -/
set_option linter.unusedVariables false
set_option linter.unusedSimpArgs false
namespace Go.Eng
open Go.ChangeShapes Go.WideShapes Go.ChangeAt Go.RowKit

theorem after_below {Z Z' A' : FP} {w w' : World} (h : After Z w (fun _ => False) Z' w' A') : Below w.heap.size w w' :=
  ⟨h.os, h.tape, h.output, h.size, fun b hb => (h.old b hb (fun x => x)).1⟩

theorem trodAll_below {H : Type} {enc : TypeId × Value → H} {P : Program} (hl : laidOutB P = true) {W W' : World} (hb : Below W.heap.size W W') :
    ∀ (ts : List TypeId) (vs : List Value) (ds : List (DataW H)) (ps : List MemPlace), ts.all (fun t => P.readableRec t && decide (t < P.types.size)) = true →
    DataW.TrodAll enc P W 0 (fun _ => true) true ts vs ds ps → (∀ x ∈ ps, x.block < W.heap.size) → DataW.TrodAll enc P W' 0 (fun b => decide (b < W.heap.size)) true ts vs ds ps
  | [], [], [], ps, ht, h, hp => h
  | t :: ts, v :: vs, d :: ds, ps, ht, h, hp => by
    obtain ⟨p, q, h1, h2, rfl⟩ := h
    simp only [List.all_cons, Bool.and_eq_true, decide_eq_true_eq] at ht
    exact ⟨p, q, Below.trod hl ht.1.1 ht.1.2 h1 hb (fun x hx => hp x (List.mem_append_left _ hx)), trodAll_below hl hb ts vs ds q ht.2 h2 (fun x hx => hp x (List.mem_append_right _ hx)), rfl⟩
  | [], _ :: _, _, _, ht, h, hp => h.elim
  | [], [], _ :: _, _, ht, h, hp => h.elim
  | _ :: _, [], _, _, ht, h, hp => h.elim
  | _ :: _, _ :: _, [], _, ht, h, hp => h.elim

theorem law_post {H : Type} {enc : TypeId × Value → H} {P : Program} {f : Func} {s : ChangeSpec} {W W' : World} {args : Array Value} {ds gs : List (DataW H)} {before : List MemPlace} {tb : TypeId}
    (hl : laidOutB P = true) (ht : f.params.toList.all (fun t => P.readableRec t && decide (t < P.types.size)) = true) (hv : s.vars = [])
    (hs : s.fn H ds = { results := [.lit (.bool true)], args := ds }) (hr : f.resultTypes = #[tb]) (htb : P.underlying tb = some .bool)
    (hW : DataW.Whole enc P f.params.toList s.vars false W args.toList ds gs before) (hb : Below W.heap.size W W') : s.post enc P f false true false false W args (.bool true) W' := by
  have hW0 := hW
  obtain ⟨p, q, hA, hV, rfl, hfz, hnd⟩ := hW
  rw [hv] at hV
  obtain ⟨rfl, rfl⟩ := trodVars_none hV
  refine ⟨ds, [], p ++ [], [], p, [], hW0, ?_, ?_, ?_, hb.frame _, fun h => by cases h⟩
  · simp only [List.append_nil]
    rw [hs, hr]
    exact trodAll_mk1 (shut_bool htb _)
  · simp only [List.append_nil]
    rw [hs]
    exact trodAll_below hl hb _ _ _ _ ht hA (fun x hx => by simpa using hW0.lt x (by simpa using hx))
  · simp only [List.append_nil]
    rw [hs, hv]
    rfl

/- nothing is asked of the world -/
def noG : GInv := ⟨fun _ _ => True, fun _ _ _ _ _ _ => trivial⟩
/- a law's signature -/
def lawSig (X : Type) (args : X → List AV) (pre : X → Prop) (n : Nat) : Sig :=
  { X := X, args := args, pre := pre, Y := Unit, post := fun _ _ => True, res := fun _ _ => .bool true, outs := fun _ _ => List.replicate n .top, keep := false }

theorem law_calls {H : Type} {enc : TypeId × Value → H} {P : Program} {fi : FuncId} {f : Func} {s : ChangeSpec} {W : World} {args : Array Value} {ds gs : List (DataW H)} {before : List MemPlace} {tb : TypeId}
    {X : Type} {azs : X → List AV} {pre : X → Prop} {n : Nat} {G : GInv} (hc : Contract G P fi (lawSig X azs pre n)) (hG : G.p (Old W) W)
    (hl : laidOutB P = true) (ht : f.params.toList.all (fun t => P.readableRec t && decide (t < P.types.size)) = true) (hv : s.vars = [])
    (hs : s.fn H ds = { results := [.lit (.bool true)], args := ds }) (hr : f.resultTypes = #[tb]) (htb : P.underlying tb = some .bool)
    (hW : DataW.Whole enc P f.params.toList s.vars false W args.toList ds gs before)
    (ho : ∃ x, pre x ∧ rel0L (Old W) W (azs x) args.toList (fun _ => False)) :
    Calls P fi args W fun e W' => ∃ v, e = .returned v ∧ s.post enc P f false true false false W args v W' := by
  obtain ⟨x, hx, hrel⟩ := ho
  refine (hc.2 x hx (Old W) W args.toList _ hG hrel (fun b h => h.elim)).mono fun e W' h => ?_
  obtain ⟨y, v, Z', A', _, rfl, hr2, hafter⟩ := h
  simp only [rel0L] at hr2
  obtain ⟨v', us, A1, A2, e1, _, h1, _⟩ := hr2
  simp only [List.cons.injEq] at e1
  obtain ⟨rfl, _⟩ := e1
  have : v = .bool true := by
    have h1 : rel0 Z' W' (.bool true) v A1 := h1
    simp only [rel0] at h1; exact h1.1
  subst this
  exact ⟨_, rfl, law_post hl ht hv hs hr htb hW (after_below hafter)⟩
end Go.Eng
end
section
/- Arguments of a row opened into the engine's words. -/
set_option linter.unusedVariables false
set_option linter.unusedSimpArgs false
namespace Go.Eng
open Go.ChangeShapes Go.WideShapes Go.ChangeAt Go.RowKit

theorem open_one {H : Type} {enc : TypeId × Value → H} {P : Program} {t : TypeId} {α : Type} {f : α → AV} {good : α → Prop} (hO : Opens P t (fun x => [f x]) good) {W : World} {v : Value} (hc : isCell v)
    {d : DataW H} {ps : List MemPlace} (h : DataW.Trod enc P W 0 (fun _ => true) true t v d ps) : ∃ x, good x ∧ rel0 (Old W) W (f x) v (fun _ => False) := by
  obtain ⟨fuel, hf⟩ := h
  rw [cells_of_cell hc] at hf
  obtain ⟨x, hg, hr⟩ := hO enc W _ _ fuel _ _ hf
  exact ⟨x, hg, rel0L_one.1 hr⟩
theorem open_agg {H : Type} {enc : TypeId × Value → H} {P : Program} {t : TypeId} {α : Type} {f : α → List AV} {good : α → Prop} (hO : Opens P t f good) {W : World} {cs : Array Value}
    {d : DataW H} {ps : List MemPlace} (h : DataW.Trod enc P W 0 (fun _ => true) true t (.agg cs) d ps) : ∃ x, good x ∧ rel0 (Old W) W (.agg (f x)) (.agg cs) (fun _ => False) := by
  obtain ⟨fuel, hf⟩ := h
  obtain ⟨x, hg, hr⟩ := hO enc W _ _ fuel _ _ hf
  refine ⟨x, hg, ?_⟩
  simp only [rel0]
  exact ⟨_, rfl, hr⟩
theorem open_int1 {H : Type} {enc : TypeId × Value → H} {P : Program} {t : TypeId} {k : IntKind} (ht : P.underlying t = some (.int k)) {W : World} {r : Reach} {base : Nat} {v : Value} (hv : Value.okWide P W r base t v)
    {d : DataW H} {ps : List MemPlace} (h : DataW.Trod enc P W 0 (fun _ => true) true t v d ps) : ∃ n, inR k n ∧ rel0 (Old W) W (.int k n) v (fun _ => False) :=
  open_one (opens_int ht) (by obtain ⟨n, rfl⟩ := okWide_int ht hv; trivial) h
theorem open_str1 {H : Type} {enc : TypeId × Value → H} {P : Program} {t : TypeId} (ht : P.underlying t = some .string) {W : World} {r : Reach} {base : Nat} {v : Value} (hv : Value.okWide P W r base t v)
    {d : DataW H} {ps : List MemPlace} (h : DataW.Trod enc P W 0 (fun _ => true) true t v d ps) : ∃ s : List UInt8, s.length < 2 ^ 63 ∧ rel0 (Old W) W (.str s) v (fun _ => False) :=
  open_one (opens_str ht) (by obtain ⟨n, rfl⟩ := okWide_string ht hv; trivial) h
theorem open_sl1 {H : Type} {enc : TypeId × Value → H} {P : Program} {t e : TypeId} {α : Type} {f : α → AV} {good : α → Prop} (ht : P.underlying t = some (.slice e)) (hO : Opens P t (fun x => [f x]) good)
    {W : World} {r : Reach} {base : Nat} {v : Value} (hv : Value.okWide P W r base t v)
    {d : DataW H} {ps : List MemPlace} (h : DataW.Trod enc P W 0 (fun _ => true) true t v d ps) : ∃ x, good x ∧ rel0 (Old W) W (f x) v (fun _ => False) :=
  open_one hO (by obtain ⟨a, l, c, rfl⟩ := okWide_slice ht hv; trivial) h
theorem open_st1 {H : Type} {enc : TypeId × Value → H} {P : Program} {t : TypeId} {fs : Array Field} {α : Type} {f : α → List AV} {good : α → Prop} (ht : P.underlying t = some (.struct fs)) (hO : Opens P t f good)
    {W : World} {r : Reach} {base : Nat} {v : Value} (hv : Value.okWide P W r base t v)
    {d : DataW H} {ps : List MemPlace} (h : DataW.Trod enc P W 0 (fun _ => true) true t v d ps) : ∃ x, good x ∧ rel0 (Old W) W (.agg (f x)) v (fun _ => False) := by
  obtain ⟨cs, rfl, _⟩ := okWide_struct ht hv
  exact open_agg hO h
theorem rel0L_nil {Z : FP} {w : World} : rel0L Z w [] [] (fun _ => False) := ⟨rfl, emp_false⟩
/- structs of two and of four cells -/
theorem opens_st2 {P : Program} {t : TypeId} {f0 f1 : Field} {α β : Type} {a : α → AV} {b : β → AV} {ga : α → Prop} {gb : β → Prop} (ht : P.underlying t = some (.struct #[f0, f1])) (hn : P.cellsOf t = 2)
    (h0 : f0.offset = 0 ∧ P.cellsOf f0.type = 1) (h1 : f1.offset = 1 ∧ P.cellsOf f1.type = 1)
    (o0 : Opens P f0.type (fun x => [a x]) ga) (o1 : Opens P f1.type (fun x => [b x]) gb) : Opens P t (fun x : α × β => [a x.1, b x.2]) (fun x => ga x.1 ∧ gb x.2) := by
  intro H enc w spare held fuel cs y h
  obtain ⟨hl, n, hf⟩ := trod_struct_cells ht hn (fun i f hi => by
    match i, hi with
    | 0, hi => simp at hi; subst hi; exact h0
    | 1, hi => simp at hi; subst hi; exact h1
    | n + 2, hi => simp at hi) h
  match cs, hl with
  | [c0, c1], _ =>
    obtain ⟨z0, e0⟩ := hf 0 _ c0 rfl rfl
    obtain ⟨z1, e1⟩ := hf 1 _ c1 rfl rfl
    obtain ⟨x0, g0, r0⟩ := o0 enc w _ _ _ _ _ e0
    obtain ⟨x1, g1, r1⟩ := o1 enc w _ _ _ _ _ e1
    exact ⟨(x0, x1), ⟨g0, g1⟩, rel0L_cons (rel0L_one.1 r0) r1⟩
theorem opens_st4 {P : Program} {t : TypeId} {f0 f1 f2 f3 : Field} {α β γ δ : Type} {a : α → AV} {b : β → AV} {c : γ → AV} {d : δ → AV} {ga : α → Prop} {gb : β → Prop} {gc : γ → Prop} {gd : δ → Prop}
    (ht : P.underlying t = some (.struct #[f0, f1, f2, f3])) (hn : P.cellsOf t = 4)
    (h0 : f0.offset = 0 ∧ P.cellsOf f0.type = 1) (h1 : f1.offset = 1 ∧ P.cellsOf f1.type = 1) (h2 : f2.offset = 2 ∧ P.cellsOf f2.type = 1) (h3 : f3.offset = 3 ∧ P.cellsOf f3.type = 1)
    (o0 : Opens P f0.type (fun x => [a x]) ga) (o1 : Opens P f1.type (fun x => [b x]) gb) (o2 : Opens P f2.type (fun x => [c x]) gc) (o3 : Opens P f3.type (fun x => [d x]) gd) :
    Opens P t (fun x : α × β × γ × δ => [a x.1, b x.2.1, c x.2.2.1, d x.2.2.2]) (fun x => ga x.1 ∧ gb x.2.1 ∧ gc x.2.2.1 ∧ gd x.2.2.2) := by
  intro H enc w spare held fuel cs y h
  obtain ⟨hl, n, hf⟩ := trod_struct_cells ht hn (fun i f hi => by
    match i, hi with
    | 0, hi => simp at hi; subst hi; exact h0
    | 1, hi => simp at hi; subst hi; exact h1
    | 2, hi => simp at hi; subst hi; exact h2
    | 3, hi => simp at hi; subst hi; exact h3
    | n + 4, hi => simp at hi) h
  match cs, hl with
  | [c0, c1, c2, c3], _ =>
    obtain ⟨z0, e0⟩ := hf 0 _ c0 rfl rfl
    obtain ⟨z1, e1⟩ := hf 1 _ c1 rfl rfl
    obtain ⟨z2, e2⟩ := hf 2 _ c2 rfl rfl
    obtain ⟨z3, e3⟩ := hf 3 _ c3 rfl rfl
    obtain ⟨x0, g0, r0⟩ := o0 enc w _ _ _ _ _ e0
    obtain ⟨x1, g1, r1⟩ := o1 enc w _ _ _ _ _ e1
    obtain ⟨x2, g2, r2⟩ := o2 enc w _ _ _ _ _ e2
    obtain ⟨x3, g3, r3⟩ := o3 enc w _ _ _ _ _ e3
    exact ⟨(x0, x1, x2, x3), ⟨g0, g1, g2, g3⟩, rel0L_cons (rel0L_one.1 r0) (rel0L_cons (rel0L_one.1 r1) (rel0L_cons (rel0L_one.1 r2) r3))⟩
theorem opens_map {P : Program} {t : TypeId} {α β : Type} {f : α → List AV} {g : β → List AV} {p : α → Prop} {q : β → Prop} (m : α → β) (ho : Opens P t f p) (hf : ∀ x, f x = g (m x)) (hg : ∀ x, p x → q (m x)) : Opens P t g q := by
  intro H enc w spare held fuel cs y h
  obtain ⟨x, hx, hr⟩ := ho enc w _ _ fuel _ _ h
  exact ⟨m x, hg x hx, by rw [← hf]; exact hr⟩
end Go.Eng
end
section
/- The laws' arguments opened. -/
set_option linter.unusedVariables false
set_option maxRecDepth 100000
namespace Go.My
open Go.Eng Go.Proofs
variable {G : GInv}

theorem opens_ints : Opens Tryd.prog 39 (fun l : List Int => [ints l]) (fun l => l.length < 2 ^ 63 ∧ ∀ x ∈ l, inR .i64 x) :=
  opens_slice (e := 3) rfl (by kernel_rfl) (by decide) (opens_int rfl)
theorem opens_node : Opens Tryd.prog 41 (ndA false) smallNd :=
  opens_map (fun x : Int × List UInt8 × List Int × Bool => (⟨x.1, x.2.1, x.2.2.1, x.2.2.2⟩ : Nd)) (opens_st4 (t := 41) (P := Tryd.prog) (a := fun n => .int .i64 n) (b := .str) (c := ints) (d := .bool)
    (gd := fun _ => True) rfl (by kernel_rfl) ⟨by kernel_rfl, by kernel_rfl⟩ ⟨by kernel_rfl, by kernel_rfl⟩ ⟨by kernel_rfl, by kernel_rfl⟩ ⟨by kernel_rfl, by kernel_rfl⟩ (opens_int (k := .i64) rfl) (opens_str rfl) opens_ints (opens_bool rfl)) (fun _ => rfl) (fun x h => ⟨h.2.1, h.2.2.1.1⟩)
theorem opens_nodes : Opens Tryd.prog 22 (fun l : List Nd => [nds l]) smallNds :=
  opens_slice (e := 41) rfl (by kernel_rfl) (by decide) opens_node
end Go.My
end
