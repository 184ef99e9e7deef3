/- A part of the proof: the engine and the contracts, joined. -/
import Derived.Test.YtinkjpfkemkhaaaDoorQD
section
/- Bytes and signs: what the program's and the reference's functions compute. -/
set_option linter.unusedVariables false
set_option linter.unusedSimpArgs false
namespace Go.My
open Go.Eng Go.Proofs
variable {G : GInv}

def s_inRange  : Sig := { X := Int × Int × Int, args := fun x => [.int .i64 x.1, .int .i64 x.2.1, .int .i64 x.2.2], pre := fun x => True, Y := Unit, post := fun x y => True, res := fun x y => .bool (inn x.1 x.2.1 x.2.2), outs := fun x y => [.top, .top, .top], keep := false }
theorem inRange_vc (x : Int × Int × Int) : vcFun Go.Proofs.Tryd.prog (Γof []) (Eof []) false (Lof ([])) Go.Proofs.Tryd.f54.ntmps Go.Proofs.Tryd.f54.results.toList (Go.Proofs.Tryd.f54.body.getD .skip) s_inRange x = ((∀ (y : Unit), True → True ∧ True ∧ True ∧ True ∧ True) ∧ bcase (decide (x.fst ≥ x.snd.fst)) (∃ (y : Unit), True ∧ decide (x.fst ≤ x.snd.snd) = inn x.fst x.snd.fst x.snd.snd ∧ True) (∃ (y : Unit), True ∧ false = inn x.fst x.snd.fst x.snd.snd ∧ True)) := by kernel_rfl
theorem inRange_ok  : Contract G Tryd.prog 54 s_inRange :=
  vcFun_ok (Γ := Γof []) (E := Eof []) (ov := false) (L := fun x => Lof ([])) Tryd.func54 rfl (by decide) (Γof_ok (l := []) trivial) fun (x : Int × Int × Int) (hx : True) => (inRange_vc  x).mpr (by
  (repeat' first | with_reducible rfl | exact True.intro | refine inR_i64 ?_ ?_ | with_reducible refine And.intro ?_ ?_ | with_reducible refine bcase_dec (fun _ => ?_) (fun _ => ?_) | with_reducible refine bcase_bne (fun _ => ?_) (fun _ => ?_) | with_reducible refine bcase_beq (fun _ => ?_) (fun _ => ?_) | with_reducible refine bcase_not (fun _ => ?_) (fun _ => ?_) | refine bcase_intro (fun _ => ?_) (fun _ => ?_) | refine sl_eq ?_ | refine ex_flip () ?_ ?_ | (apply ex_flip6 <;> try dsimp only) | (apply ex_flip5 <;> try dsimp only) | (apply ex_flip4 <;> try dsimp only) | (apply ex_flip3 <;> try dsimp only) | (apply ex_flip2 <;> try dsimp only) | apply ex_flip | (refine Prod.forall.2 ?_; intro _; try dsimp only) | (intro _; try dsimp only)) <;> (try dsimp only at *) <;> (try simp only [i64max, List.length_cons, List.length_nil]) <;> (try omega)
  all_goals simp [inn, *])

def s_l01In  : Sig := { X := Int × Int × Int, args := fun x => [.int .i64 x.1, .int .i64 x.2.1, .int .i64 x.2.2], pre := fun x => True, Y := Unit, post := fun x y => True, res := fun x y => .bool (inn x.1 x.2.1 x.2.2), outs := fun x y => [.top, .top, .top], keep := false }
theorem l01In_vc (x : Int × Int × Int) : vcFun Go.Proofs.Tryd.prog (Γof []) (Eof []) false (Lof ([])) Go.Proofs.Tryd.f44.ntmps Go.Proofs.Tryd.f44.results.toList (Go.Proofs.Tryd.f44.body.getD .skip) s_l01In x = ((∀ (y : Unit), True → True ∧ True ∧ True ∧ True ∧ True) ∧ bcase (decide (x.fst ≥ x.snd.fst)) (∃ (y : Unit), True ∧ decide (x.fst ≤ x.snd.snd) = inn x.fst x.snd.fst x.snd.snd ∧ True) (∃ (y : Unit), True ∧ false = inn x.fst x.snd.fst x.snd.snd ∧ True)) := by kernel_rfl
theorem l01In_ok  : Contract G Tryd.prog 44 s_l01In :=
  vcFun_ok (Γ := Γof []) (E := Eof []) (ov := false) (L := fun x => Lof ([])) Tryd.func44 rfl (by decide) (Γof_ok (l := []) trivial) fun (x : Int × Int × Int) (hx : True) => (l01In_vc  x).mpr (by
  (repeat' first | with_reducible rfl | exact True.intro | refine inR_i64 ?_ ?_ | with_reducible refine And.intro ?_ ?_ | with_reducible refine bcase_dec (fun _ => ?_) (fun _ => ?_) | with_reducible refine bcase_bne (fun _ => ?_) (fun _ => ?_) | with_reducible refine bcase_beq (fun _ => ?_) (fun _ => ?_) | with_reducible refine bcase_not (fun _ => ?_) (fun _ => ?_) | refine bcase_intro (fun _ => ?_) (fun _ => ?_) | refine sl_eq ?_ | refine ex_flip () ?_ ?_ | (apply ex_flip6 <;> try dsimp only) | (apply ex_flip5 <;> try dsimp only) | (apply ex_flip4 <;> try dsimp only) | (apply ex_flip3 <;> try dsimp only) | (apply ex_flip2 <;> try dsimp only) | apply ex_flip | (refine Prod.forall.2 ?_; intro _; try dsimp only) | (intro _; try dsimp only)) <;> (try dsimp only at *) <;> (try simp only [i64max, List.length_cons, List.length_nil]) <;> (try omega)
  all_goals simp [inn, *])

def s_isFigure  : Sig := { X := UInt8, args := fun x => [.int .u8 x.toNat], pre := fun x => True, Y := Unit, post := fun x y => True, res := fun x y => .bool (isFig x), outs := fun x y => [.top], keep := false }
theorem isFigure_vc (x : UInt8) : vcFun Go.Proofs.Tryd.prog (Γof []) (Eof []) false (Lof ([])) Go.Proofs.Tryd.f96.ntmps Go.Proofs.Tryd.f96.results.toList (Go.Proofs.Tryd.f96.body.getD .skip) s_isFigure x = ((∀ (y : Unit), True → True ∧ True ∧ True) ∧ bcase (decide ((↑(UInt8.toNat x) : Int) ≥ (48 : Int))) (∃ (y : Unit), True ∧ decide ((↑(UInt8.toNat x) : Int) ≤ (57 : Int)) = isFig x ∧ True) (∃ (y : Unit), True ∧ false = isFig x ∧ True)) := by kernel_rfl
theorem isFigure_ok  : Contract G Tryd.prog 96 s_isFigure :=
  vcFun_ok (Γ := Γof []) (E := Eof []) (ov := false) (L := fun x => Lof ([])) Tryd.func96 rfl (by decide) (Γof_ok (l := []) trivial) fun (x : UInt8) (hx : True) => (isFigure_vc  x).mpr (by
  (repeat' first | with_reducible rfl | exact True.intro | refine inR_i64 ?_ ?_ | with_reducible refine And.intro ?_ ?_ | with_reducible refine bcase_dec (fun _ => ?_) (fun _ => ?_) | with_reducible refine bcase_bne (fun _ => ?_) (fun _ => ?_) | with_reducible refine bcase_beq (fun _ => ?_) (fun _ => ?_) | with_reducible refine bcase_not (fun _ => ?_) (fun _ => ?_) | refine bcase_intro (fun _ => ?_) (fun _ => ?_) | refine sl_eq ?_ | refine ex_flip () ?_ ?_ | (apply ex_flip6 <;> try dsimp only) | (apply ex_flip5 <;> try dsimp only) | (apply ex_flip4 <;> try dsimp only) | (apply ex_flip3 <;> try dsimp only) | (apply ex_flip2 <;> try dsimp only) | apply ex_flip | (refine Prod.forall.2 ?_; intro _; try dsimp only) | (intro _; try dsimp only)) <;> (try dsimp only at *) <;> (try simp only [i64max, List.length_cons, List.length_nil]) <;> (try omega)
  all_goals (rw [Bool.eq_iff_iff]; simp only [isFig, Bool.and_eq_true, Bool.or_eq_true, decide_eq_true_eq, Bool.not_eq_true', decide_eq_false_iff_not, bne_iff_ne, ne_eq, beq_iff_eq, Bool.not_not, reduceCtorEq, Bool.false_eq_true, true_iff, false_iff, iff_true, iff_false, not_true, not_false_eq_true] <;> omega))

def s_l04Figure  : Sig := { X := UInt8, args := fun x => [.int .u8 x.toNat], pre := fun x => True, Y := Unit, post := fun x y => True, res := fun x y => .bool (isFig x), outs := fun x y => [.top], keep := false }
theorem l04Figure_vc (x : UInt8) : vcFun Go.Proofs.Tryd.prog (Γof []) (Eof []) false (Lof ([])) Go.Proofs.Tryd.f57.ntmps Go.Proofs.Tryd.f57.results.toList (Go.Proofs.Tryd.f57.body.getD .skip) s_l04Figure x = ((∀ (y : Unit), True → True ∧ True ∧ True) ∧ bcase (decide ((↑(UInt8.toNat x) : Int) ≥ (48 : Int))) (∃ (y : Unit), True ∧ decide ((↑(UInt8.toNat x) : Int) ≤ (57 : Int)) = isFig x ∧ True) (∃ (y : Unit), True ∧ false = isFig x ∧ True)) := by kernel_rfl
theorem l04Figure_ok  : Contract G Tryd.prog 57 s_l04Figure :=
  vcFun_ok (Γ := Γof []) (E := Eof []) (ov := false) (L := fun x => Lof ([])) Tryd.func57 rfl (by decide) (Γof_ok (l := []) trivial) fun (x : UInt8) (hx : True) => (l04Figure_vc  x).mpr (by
  (repeat' first | with_reducible rfl | exact True.intro | refine inR_i64 ?_ ?_ | with_reducible refine And.intro ?_ ?_ | with_reducible refine bcase_dec (fun _ => ?_) (fun _ => ?_) | with_reducible refine bcase_bne (fun _ => ?_) (fun _ => ?_) | with_reducible refine bcase_beq (fun _ => ?_) (fun _ => ?_) | with_reducible refine bcase_not (fun _ => ?_) (fun _ => ?_) | refine bcase_intro (fun _ => ?_) (fun _ => ?_) | refine sl_eq ?_ | refine ex_flip () ?_ ?_ | (apply ex_flip6 <;> try dsimp only) | (apply ex_flip5 <;> try dsimp only) | (apply ex_flip4 <;> try dsimp only) | (apply ex_flip3 <;> try dsimp only) | (apply ex_flip2 <;> try dsimp only) | apply ex_flip | (refine Prod.forall.2 ?_; intro _; try dsimp only) | (intro _; try dsimp only)) <;> (try dsimp only at *) <;> (try simp only [i64max, List.length_cons, List.length_nil]) <;> (try omega)
  all_goals (rw [Bool.eq_iff_iff]; simp only [isFig, Bool.and_eq_true, Bool.or_eq_true, decide_eq_true_eq, Bool.not_eq_true', decide_eq_false_iff_not, bne_iff_ne, ne_eq, beq_iff_eq, Bool.not_not, reduceCtorEq, Bool.false_eq_true, true_iff, false_iff, iff_true, iff_false, not_true, not_false_eq_true] <;> omega))

def s_isFirst  : Sig := { X := UInt8, args := fun x => [.int .u8 x.toNat], pre := fun x => True, Y := Unit, post := fun x y => True, res := fun x y => .bool (isFst x), outs := fun x y => [.top], keep := false }
theorem isFirst_vc (x : UInt8) : vcFun Go.Proofs.Tryd.prog (Γof []) (Eof []) false (Lof ([])) Go.Proofs.Tryd.f93.ntmps Go.Proofs.Tryd.f93.results.toList (Go.Proofs.Tryd.f93.body.getD .skip) s_isFirst x = ((∀ (y : Unit), True → True ∧ True ∧ True) ∧ bcase (decide ((↑(UInt8.toNat x) : Int) ≥ (97 : Int))) (bcase (decide ((↑(UInt8.toNat x) : Int) ≤ (122 : Int))) (∃ (y : Unit), True ∧ true = isFst x ∧ True) (bcase (decide ((↑(UInt8.toNat x) : Int) ≥ (65 : Int))) (bcase (decide ((↑(UInt8.toNat x) : Int) ≤ (90 : Int))) (∃ (y : Unit), True ∧ true = isFst x ∧ True) (∃ (y : Unit), True ∧ ((↑(UInt8.toNat x) : Int) == (95 : Int)) = isFst x ∧ True)) (∃ (y : Unit), True ∧ ((↑(UInt8.toNat x) : Int) == (95 : Int)) = isFst x ∧ True))) (bcase (decide ((↑(UInt8.toNat x) : Int) ≥ (65 : Int))) (bcase (decide ((↑(UInt8.toNat x) : Int) ≤ (90 : Int))) (∃ (y : Unit), True ∧ true = isFst x ∧ True) (∃ (y : Unit), True ∧ ((↑(UInt8.toNat x) : Int) == (95 : Int)) = isFst x ∧ True)) (∃ (y : Unit), True ∧ ((↑(UInt8.toNat x) : Int) == (95 : Int)) = isFst x ∧ True))) := by kernel_rfl
theorem isFirst_ok  : Contract G Tryd.prog 93 s_isFirst :=
  vcFun_ok (Γ := Γof []) (E := Eof []) (ov := false) (L := fun x => Lof ([])) Tryd.func93 rfl (by decide) (Γof_ok (l := []) trivial) fun (x : UInt8) (hx : True) => (isFirst_vc  x).mpr (by
  (repeat' first | with_reducible rfl | exact True.intro | refine inR_i64 ?_ ?_ | with_reducible refine And.intro ?_ ?_ | with_reducible refine bcase_dec (fun _ => ?_) (fun _ => ?_) | with_reducible refine bcase_bne (fun _ => ?_) (fun _ => ?_) | with_reducible refine bcase_beq (fun _ => ?_) (fun _ => ?_) | with_reducible refine bcase_not (fun _ => ?_) (fun _ => ?_) | refine bcase_intro (fun _ => ?_) (fun _ => ?_) | refine sl_eq ?_ | refine ex_flip () ?_ ?_ | (apply ex_flip6 <;> try dsimp only) | (apply ex_flip5 <;> try dsimp only) | (apply ex_flip4 <;> try dsimp only) | (apply ex_flip3 <;> try dsimp only) | (apply ex_flip2 <;> try dsimp only) | apply ex_flip | (refine Prod.forall.2 ?_; intro _; try dsimp only) | (intro _; try dsimp only)) <;> (try dsimp only at *) <;> (try simp only [i64max, List.length_cons, List.length_nil]) <;> (try omega)
  all_goals (rw [Bool.eq_iff_iff]; simp only [isFst, Bool.and_eq_true, Bool.or_eq_true, decide_eq_true_eq, Bool.not_eq_true', decide_eq_false_iff_not, bne_iff_ne, ne_eq, beq_iff_eq, Bool.not_not, reduceCtorEq, Bool.false_eq_true, true_iff, false_iff, iff_true, iff_false, not_true, not_false_eq_true] <;> omega))

def s_l04First  : Sig := { X := UInt8, args := fun x => [.int .u8 x.toNat], pre := fun x => True, Y := Unit, post := fun x y => True, res := fun x y => .bool (isFst x), outs := fun x y => [.top], keep := false }
theorem l04First_vc (x : UInt8) : vcFun Go.Proofs.Tryd.prog (Γof []) (Eof []) false (Lof ([])) Go.Proofs.Tryd.f84.ntmps Go.Proofs.Tryd.f84.results.toList (Go.Proofs.Tryd.f84.body.getD .skip) s_l04First x = ((∀ (y : Unit), True → True ∧ True ∧ True) ∧ bcase (decide ((↑(UInt8.toNat x) : Int) ≥ (97 : Int))) (bcase (decide ((↑(UInt8.toNat x) : Int) ≤ (122 : Int))) (∃ (y : Unit), True ∧ true = isFst x ∧ True) (bcase (decide ((↑(UInt8.toNat x) : Int) ≥ (65 : Int))) (bcase (decide ((↑(UInt8.toNat x) : Int) ≤ (90 : Int))) (∃ (y : Unit), True ∧ true = isFst x ∧ True) (∃ (y : Unit), True ∧ ((↑(UInt8.toNat x) : Int) == (95 : Int)) = isFst x ∧ True)) (∃ (y : Unit), True ∧ ((↑(UInt8.toNat x) : Int) == (95 : Int)) = isFst x ∧ True))) (bcase (decide ((↑(UInt8.toNat x) : Int) ≥ (65 : Int))) (bcase (decide ((↑(UInt8.toNat x) : Int) ≤ (90 : Int))) (∃ (y : Unit), True ∧ true = isFst x ∧ True) (∃ (y : Unit), True ∧ ((↑(UInt8.toNat x) : Int) == (95 : Int)) = isFst x ∧ True)) (∃ (y : Unit), True ∧ ((↑(UInt8.toNat x) : Int) == (95 : Int)) = isFst x ∧ True))) := by kernel_rfl
theorem l04First_ok  : Contract G Tryd.prog 84 s_l04First :=
  vcFun_ok (Γ := Γof []) (E := Eof []) (ov := false) (L := fun x => Lof ([])) Tryd.func84 rfl (by decide) (Γof_ok (l := []) trivial) fun (x : UInt8) (hx : True) => (l04First_vc  x).mpr (by
  (repeat' first | with_reducible rfl | exact True.intro | refine inR_i64 ?_ ?_ | with_reducible refine And.intro ?_ ?_ | with_reducible refine bcase_dec (fun _ => ?_) (fun _ => ?_) | with_reducible refine bcase_bne (fun _ => ?_) (fun _ => ?_) | with_reducible refine bcase_beq (fun _ => ?_) (fun _ => ?_) | with_reducible refine bcase_not (fun _ => ?_) (fun _ => ?_) | refine bcase_intro (fun _ => ?_) (fun _ => ?_) | refine sl_eq ?_ | refine ex_flip () ?_ ?_ | (apply ex_flip6 <;> try dsimp only) | (apply ex_flip5 <;> try dsimp only) | (apply ex_flip4 <;> try dsimp only) | (apply ex_flip3 <;> try dsimp only) | (apply ex_flip2 <;> try dsimp only) | apply ex_flip | (refine Prod.forall.2 ?_; intro _; try dsimp only) | (intro _; try dsimp only)) <;> (try dsimp only at *) <;> (try simp only [i64max, List.length_cons, List.length_nil]) <;> (try omega)
  all_goals (rw [Bool.eq_iff_iff]; simp only [isFst, Bool.and_eq_true, Bool.or_eq_true, decide_eq_true_eq, Bool.not_eq_true', decide_eq_false_iff_not, bne_iff_ne, ne_eq, beq_iff_eq, Bool.not_not, reduceCtorEq, Bool.false_eq_true, true_iff, false_iff, iff_true, iff_false, not_true, not_false_eq_true] <;> omega))

def s_isInner  : Sig := { X := UInt8, args := fun x => [.int .u8 x.toNat], pre := fun x => True, Y := Unit, post := fun x y => True, res := fun x y => .bool (isInn x), outs := fun x y => [.top], keep := false }
theorem isInner_vc (x : UInt8) : vcFun Go.Proofs.Tryd.prog (Γof [(93, 0, s_isFirst), (96, 0, s_isFigure)]) (Eof []) false (Lof ([])) Go.Proofs.Tryd.f95.ntmps Go.Proofs.Tryd.f95.results.toList (Go.Proofs.Tryd.f95.body.getD .skip) s_isInner x = ((∀ (y : Unit), True → True ∧ True ∧ True) ∧ ∃ (x_1 : UInt8), True ∧ (↑(UInt8.toNat x) : Int) = (↑(UInt8.toNat x_1) : Int) ∧ ∀ (y : Unit), True → bcase (isFst x_1) (∃ (y : Unit), True ∧ true = isInn x ∧ True) (∃ (x_2 : UInt8), True ∧ (↑(UInt8.toNat x) : Int) = (↑(UInt8.toNat x_2) : Int) ∧ ∀ (y : Unit), True → ∃ (y : Unit), True ∧ isFig x_2 = isInn x ∧ True)) := by kernel_rfl
theorem isInner_ok  : Contract G Tryd.prog 95 s_isInner :=
  vcFun_ok (Γ := Γof [(93, 0, s_isFirst), (96, 0, s_isFigure)]) (E := Eof []) (ov := false) (L := fun x => Lof ([])) Tryd.func95 rfl (by decide) (Γof_ok (l := [(93, 0, s_isFirst), (96, 0, s_isFigure)]) ⟨isFirst_ok, isFigure_ok, trivial⟩) fun (x : UInt8) (hx : True) => (isInner_vc  x).mpr (by
  (repeat' first | with_reducible rfl | exact True.intro | refine inR_i64 ?_ ?_ | with_reducible refine And.intro ?_ ?_ | with_reducible refine bcase_dec (fun _ => ?_) (fun _ => ?_) | with_reducible refine bcase_bne (fun _ => ?_) (fun _ => ?_) | with_reducible refine bcase_beq (fun _ => ?_) (fun _ => ?_) | with_reducible refine bcase_not (fun _ => ?_) (fun _ => ?_) | refine bcase_intro (fun _ => ?_) (fun _ => ?_) | refine sl_eq ?_ | refine ex_flip () ?_ ?_ | (apply ex_flip6 <;> try dsimp only) | (apply ex_flip5 <;> try dsimp only) | (apply ex_flip4 <;> try dsimp only) | (apply ex_flip3 <;> try dsimp only) | (apply ex_flip2 <;> try dsimp only) | apply ex_flip | (refine Prod.forall.2 ?_; intro _; try dsimp only) | (intro _; try dsimp only)) <;> (try dsimp only at *) <;> (try simp only [i64max, List.length_cons, List.length_nil]) <;> (try omega)
  all_goals simp [isInn, *])

def s_l04Plain  : Sig := { X := UInt8, args := fun x => [.int .u8 x.toNat], pre := fun x => True, Y := Unit, post := fun x y => True, res := fun x y => .bool (isPln x), outs := fun x y => [.top], keep := false }
theorem l04Plain_vc (x : UInt8) : vcFun Go.Proofs.Tryd.prog (Γof []) (Eof []) false (Lof ([])) Go.Proofs.Tryd.f92.ntmps Go.Proofs.Tryd.f92.results.toList (Go.Proofs.Tryd.f92.body.getD .skip) s_l04Plain x = ((∀ (y : Unit), True → True ∧ True ∧ True) ∧ bcase (decide ((↑(UInt8.toNat x) : Int) ≥ (32 : Int))) (∃ (y : Unit), True ∧ decide ((↑(UInt8.toNat x) : Int) ≤ (126 : Int)) = isPln x ∧ True) (∃ (y : Unit), True ∧ false = isPln x ∧ True)) := by kernel_rfl
theorem l04Plain_ok  : Contract G Tryd.prog 92 s_l04Plain :=
  vcFun_ok (Γ := Γof []) (E := Eof []) (ov := false) (L := fun x => Lof ([])) Tryd.func92 rfl (by decide) (Γof_ok (l := []) trivial) fun (x : UInt8) (hx : True) => (l04Plain_vc  x).mpr (by
  (repeat' first | with_reducible rfl | exact True.intro | refine inR_i64 ?_ ?_ | with_reducible refine And.intro ?_ ?_ | with_reducible refine bcase_dec (fun _ => ?_) (fun _ => ?_) | with_reducible refine bcase_bne (fun _ => ?_) (fun _ => ?_) | with_reducible refine bcase_beq (fun _ => ?_) (fun _ => ?_) | with_reducible refine bcase_not (fun _ => ?_) (fun _ => ?_) | refine bcase_intro (fun _ => ?_) (fun _ => ?_) | refine sl_eq ?_ | refine ex_flip () ?_ ?_ | (apply ex_flip6 <;> try dsimp only) | (apply ex_flip5 <;> try dsimp only) | (apply ex_flip4 <;> try dsimp only) | (apply ex_flip3 <;> try dsimp only) | (apply ex_flip2 <;> try dsimp only) | apply ex_flip | (refine Prod.forall.2 ?_; intro _; try dsimp only) | (intro _; try dsimp only)) <;> (try dsimp only at *) <;> (try simp only [i64max, List.length_cons, List.length_nil]) <;> (try omega)
  all_goals (rw [Bool.eq_iff_iff]; simp only [isPln, Bool.and_eq_true, Bool.or_eq_true, decide_eq_true_eq, Bool.not_eq_true', decide_eq_false_iff_not, bne_iff_ne, ne_eq, beq_iff_eq, Bool.not_not, reduceCtorEq, Bool.false_eq_true, true_iff, false_iff, iff_true, iff_false, not_true, not_false_eq_true] <;> omega))

def s_sg1  : Sig := { X := UInt8, args := fun x => [.int .u8 x.toNat], pre := fun x => True, Y := Unit, post := fun x y => True, res := fun x y => .bool (notNl x), outs := fun x y => [.top], keep := false }
theorem sg1_vc (x : UInt8) : vcFun Go.Proofs.Tryd.prog (Γof []) (Eof []) false (Lof ([])) Go.Proofs.Tryd.f99.ntmps Go.Proofs.Tryd.f99.results.toList (Go.Proofs.Tryd.f99.body.getD .skip) s_sg1 x = ((∀ (y : Unit), True → True ∧ True ∧ True) ∧ ∃ (y : Unit), True ∧ ((↑(UInt8.toNat x) : Int) != (10 : Int)) = notNl x ∧ True) := by kernel_rfl
theorem sg1_ok  : Contract G Tryd.prog 99 s_sg1 :=
  vcFun_ok (Γ := Γof []) (E := Eof []) (ov := false) (L := fun x => Lof ([])) Tryd.func99 rfl (by decide) (Γof_ok (l := []) trivial) fun (x : UInt8) (hx : True) => (sg1_vc  x).mpr (by
  (repeat' first | with_reducible rfl | exact True.intro | refine inR_i64 ?_ ?_ | with_reducible refine And.intro ?_ ?_ | with_reducible refine bcase_dec (fun _ => ?_) (fun _ => ?_) | with_reducible refine bcase_bne (fun _ => ?_) (fun _ => ?_) | with_reducible refine bcase_beq (fun _ => ?_) (fun _ => ?_) | with_reducible refine bcase_not (fun _ => ?_) (fun _ => ?_) | refine bcase_intro (fun _ => ?_) (fun _ => ?_) | refine sl_eq ?_ | refine ex_flip () ?_ ?_ | (apply ex_flip6 <;> try dsimp only) | (apply ex_flip5 <;> try dsimp only) | (apply ex_flip4 <;> try dsimp only) | (apply ex_flip3 <;> try dsimp only) | (apply ex_flip2 <;> try dsimp only) | apply ex_flip | (refine Prod.forall.2 ?_; intro _; try dsimp only) | (intro _; try dsimp only)) <;> (try dsimp only at *) <;> (try simp only [i64max, List.length_cons, List.length_nil]) <;> (try omega)
  all_goals (rw [Bool.eq_iff_iff]; simp only [notNl, Bool.and_eq_true, Bool.or_eq_true, decide_eq_true_eq, Bool.not_eq_true', decide_eq_false_iff_not, bne_iff_ne, ne_eq, beq_iff_eq, Bool.not_not, reduceCtorEq, Bool.false_eq_true, true_iff, false_iff, iff_true, iff_false, not_true, not_false_eq_true] <;> omega))

def lTake (p : UInt8 → Bool) (x : List UInt8) (rs : Int → List (Nat × AV)) : LS := {
  ι := Int, inv := fun i => 0 ≤ i ∧ i ≤ x.length ∧ ∀ e ∈ x.take i.toNat, p e = true, regs := rs, als := [], meas := fun i => x.length - i.toNat }
def s_isPlain  : Sig := { X := List UInt8, args := fun x => [.str x], pre := fun x => x.length < 2 ^ 63, Y := Unit, post := fun x y => True, res := fun x y => .bool (x.all isPln), outs := fun x y => [.top], keep := false }
theorem isPlain_vc (x : List UInt8) : vcFun Go.Proofs.Tryd.prog (Γof []) (Eof []) false (Lof ([(2,lTake isPln x fun i => [(0, .str x), (3, .int .i64 i)])])) Go.Proofs.Tryd.f101.ntmps Go.Proofs.Tryd.f101.results.toList (Go.Proofs.Tryd.f101.body.getD .skip) s_isPlain x = ((∀ (y : Unit), True → True ∧ True ∧ True) ∧ (∃ (i : Int), ((0 : Int) ≤ i ∧ i ≤ (↑(List.length x) : Int) ∧ ∀ (e : UInt8), e ∈ List.take (Int.toNat i) x → isPln e = true) ∧ (x = x ∧ (0 : Int) = i ∧ True) ∧ True) ∧ ∀ (i : Int), ((0 : Int) ≤ i ∧ i ≤ (↑(List.length x) : Int) ∧ ∀ (e : UInt8), e ∈ List.take (Int.toNat i) x → isPln e = true) → bcase (decide (i < (↑(List.length x) : Int))) (((0 : Int) ≤ i ∧ i < (↑(List.length x) : Int)) ∧ ∀ (c : UInt8), x[Int.toNat i]? = some c → bcase (decide ((↑(UInt8.toNat c) : Int) < (32 : Int))) (∃ (y : Unit), True ∧ false = List.all x isPln ∧ True) (((0 : Int) ≤ i ∧ i < (↑(List.length x) : Int)) ∧ ∀ (c : UInt8), x[Int.toNat i]? = some c → bcase (decide ((↑(UInt8.toNat c) : Int) > (126 : Int))) (∃ (y : Unit), True ∧ false = List.all x isPln ∧ True) (inR IntKind.i64 (i + (1 : Int)) ∧ ∃ (i' : Int), ((0 : Int) ≤ i' ∧ i' ≤ (↑(List.length x) : Int) ∧ ∀ (e : UInt8), e ∈ List.take (Int.toNat i') x → isPln e = true) ∧ List.length x - Int.toNat i' < List.length x - Int.toNat i ∧ (x = x ∧ i + (1 : Int) = i' ∧ True) ∧ True))) (∃ (y : Unit), True ∧ true = List.all x isPln ∧ True)) := by kernel_rfl
theorem isPlain_ok  : Contract G Tryd.prog 101 s_isPlain :=
  vcFun_ok (Γ := Γof []) (E := Eof []) (ov := false) (L := fun x => Lof ([(2,lTake isPln x fun i => [(0, .str x), (3, .int .i64 i)])])) Tryd.func101 rfl (by decide) (Γof_ok (l := []) trivial) fun (x : List UInt8) (hx : x.length < 2 ^ 63) => (isPlain_vc  x).mpr (by
  (repeat' first | with_reducible rfl | exact True.intro | refine inR_i64 ?_ ?_ | with_reducible refine And.intro ?_ ?_ | with_reducible refine bcase_dec (fun _ => ?_) (fun _ => ?_) | with_reducible refine bcase_bne (fun _ => ?_) (fun _ => ?_) | with_reducible refine bcase_beq (fun _ => ?_) (fun _ => ?_) | with_reducible refine bcase_not (fun _ => ?_) (fun _ => ?_) | refine bcase_intro (fun _ => ?_) (fun _ => ?_) | refine sl_eq ?_ | refine ex_flip () ?_ ?_ | (apply ex_flip6 <;> try dsimp only) | (apply ex_flip5 <;> try dsimp only) | (apply ex_flip4 <;> try dsimp only) | (apply ex_flip3 <;> try dsimp only) | (apply ex_flip2 <;> try dsimp only) | apply ex_flip | (refine Prod.forall.2 ?_; intro _; try dsimp only) | (intro _; try dsimp only)) <;> (try dsimp only at *) <;> (try simp only [i64max, List.length_cons, List.length_nil]) <;> (try omega)
  · rename_i h; simp at h
  · rename_i i hi hl c hc h; exact (not_all hc (by (rw [Bool.eq_iff_iff]; simp only [isPln, Bool.and_eq_true, Bool.or_eq_true, decide_eq_true_eq, Bool.not_eq_true', decide_eq_false_iff_not, bne_iff_ne, ne_eq, beq_iff_eq, Bool.not_not, reduceCtorEq, Bool.false_eq_true, true_iff, false_iff, iff_true, iff_false, not_true, not_false_eq_true] <;> omega))).symm
  · rename_i i hi hl c hc h d hd h2; exact (not_all hd (by (rw [Bool.eq_iff_iff]; simp only [isPln, Bool.and_eq_true, Bool.or_eq_true, decide_eq_true_eq, Bool.not_eq_true', decide_eq_false_iff_not, bne_iff_ne, ne_eq, beq_iff_eq, Bool.not_not, reduceCtorEq, Bool.false_eq_true, true_iff, false_iff, iff_true, iff_false, not_true, not_false_eq_true] <;> omega))).symm
  · rename_i i hi hl c hc h d hd h2 e he
    rw [hc] at hd; cases hd
    rw [toNat1 hi.1] at he; exact all_take_succ hi.2.2 hc (by (rw [Bool.eq_iff_iff]; simp only [isPln, Bool.and_eq_true, Bool.or_eq_true, decide_eq_true_eq, Bool.not_eq_true', decide_eq_false_iff_not, bne_iff_ne, ne_eq, beq_iff_eq, Bool.not_not, reduceCtorEq, Bool.false_eq_true, true_iff, false_iff, iff_true, iff_false, not_true, not_false_eq_true] <;> omega)) e he
  · rename_i i hi hl; exact (all_of_take hi.2.2 (by omega)).symm)

def s_runI  : Sig := { X := List UInt8, args := fun x => [.str x, .clo (.func 95) []], pre := fun x => x.length < 2 ^ 63, Y := Unit, post := fun x y => True, res := fun x y => .str (x.takeWhile isInn), outs := fun x y => [.top, .top], keep := false }
theorem runI_vc (x : List UInt8) : vcFun Go.Proofs.Tryd.prog (Γof [(95, 0, s_isInner)]) (Eof []) false (Lof ([(2,lTake isInn x fun i => [(0, .str x), (1, .clo (.func 95) []), (5, .int .i64 i)])])) Go.Proofs.Tryd.f94.ntmps Go.Proofs.Tryd.f94.results.toList (Go.Proofs.Tryd.f94.body.getD .skip) s_runI x = ((∀ (y : Unit), True → True ∧ True ∧ True ∧ True) ∧ (∃ (i : Int), ((0 : Int) ≤ i ∧ i ≤ (↑(List.length x) : Int) ∧ ∀ (e : UInt8), e ∈ List.take (Int.toNat i) x → isInn e = true) ∧ (x = x ∧ (0 : Int) = i ∧ True) ∧ True) ∧ ∀ (i : Int), ((0 : Int) ≤ i ∧ i ≤ (↑(List.length x) : Int) ∧ ∀ (e : UInt8), e ∈ List.take (Int.toNat i) x → isInn e = true) → bcase (decide (i < (↑(List.length x) : Int))) (((0 : Int) ≤ i ∧ i < (↑(List.length x) : Int)) ∧ ∀ (c : UInt8), x[Int.toNat i]? = some c → ∃ (x_1 : UInt8), True ∧ (↑(UInt8.toNat c) : Int) = (↑(UInt8.toNat x_1) : Int) ∧ ∀ (y : Unit), True → bcase (isInn x_1) (inR IntKind.i64 (i + (1 : Int)) ∧ ∃ (i' : Int), ((0 : Int) ≤ i' ∧ i' ≤ (↑(List.length x) : Int) ∧ ∀ (e : UInt8), e ∈ List.take (Int.toNat i') x → isInn e = true) ∧ List.length x - Int.toNat i' < List.length x - Int.toNat i ∧ (x = x ∧ i + (1 : Int) = i' ∧ True) ∧ True) (((0 : Int) ≤ (0 : Int) ∧ (0 : Int) ≤ i ∧ i ≤ (↑(List.length x) : Int)) ∧ ∃ (y : Unit), True ∧ List.take (Int.toNat i) x = List.takeWhile isInn x ∧ True)) (((0 : Int) ≤ (0 : Int) ∧ (0 : Int) ≤ i ∧ i ≤ (↑(List.length x) : Int)) ∧ ∃ (y : Unit), True ∧ List.take (Int.toNat i) x = List.takeWhile isInn x ∧ True)) := by kernel_rfl
theorem runI_ok  : Contract G Tryd.prog 94 s_runI :=
  vcFun_ok (Γ := Γof [(95, 0, s_isInner)]) (E := Eof []) (ov := false) (L := fun x => Lof ([(2,lTake isInn x fun i => [(0, .str x), (1, .clo (.func 95) []), (5, .int .i64 i)])])) Tryd.func94 rfl (by decide) (Γof_ok (l := [(95, 0, s_isInner)]) ⟨isInner_ok, trivial⟩) fun (x : List UInt8) (hx : x.length < 2 ^ 63) => (runI_vc  x).mpr (by
  (repeat' first | with_reducible rfl | exact True.intro | refine inR_i64 ?_ ?_ | with_reducible refine And.intro ?_ ?_ | with_reducible refine bcase_dec (fun _ => ?_) (fun _ => ?_) | with_reducible refine bcase_bne (fun _ => ?_) (fun _ => ?_) | with_reducible refine bcase_beq (fun _ => ?_) (fun _ => ?_) | with_reducible refine bcase_not (fun _ => ?_) (fun _ => ?_) | refine bcase_intro (fun _ => ?_) (fun _ => ?_) | refine sl_eq ?_ | refine ex_flip () ?_ ?_ | (apply ex_flip6 <;> try dsimp only) | (apply ex_flip5 <;> try dsimp only) | (apply ex_flip4 <;> try dsimp only) | (apply ex_flip3 <;> try dsimp only) | (apply ex_flip2 <;> try dsimp only) | apply ex_flip | (refine Prod.forall.2 ?_; intro _; try dsimp only) | (intro _; try dsimp only)) <;> (try dsimp only at *) <;> (try simp only [i64max, List.length_cons, List.length_nil]) <;> (try omega)
  · rename_i h; simp at h
  · rename_i i hi hl c hc y _ hp e he
    rw [toNat1 hi.1] at he; exact all_take_succ hi.2.2 hc hp e he
  · rename_i i hi hl c hc y _ hp
    exact takeWhile_take hi.2.2 (.inr ⟨c, hc, hp⟩)
  · rename_i i hi hl
    exact takeWhile_take hi.2.2 (.inl (by omega)))

def s_runF  : Sig := { X := List UInt8, args := fun x => [.str x, .clo (.func 96) []], pre := fun x => x.length < 2 ^ 63, Y := Unit, post := fun x y => True, res := fun x y => .str (x.takeWhile isFig), outs := fun x y => [.top, .top], keep := false }
theorem runF_vc (x : List UInt8) : vcFun Go.Proofs.Tryd.prog (Γof [(96, 0, s_isFigure)]) (Eof []) false (Lof ([(2,lTake isFig x fun i => [(0, .str x), (1, .clo (.func 96) []), (5, .int .i64 i)])])) Go.Proofs.Tryd.f94.ntmps Go.Proofs.Tryd.f94.results.toList (Go.Proofs.Tryd.f94.body.getD .skip) s_runF x = ((∀ (y : Unit), True → True ∧ True ∧ True ∧ True) ∧ (∃ (i : Int), ((0 : Int) ≤ i ∧ i ≤ (↑(List.length x) : Int) ∧ ∀ (e : UInt8), e ∈ List.take (Int.toNat i) x → isFig e = true) ∧ (x = x ∧ (0 : Int) = i ∧ True) ∧ True) ∧ ∀ (i : Int), ((0 : Int) ≤ i ∧ i ≤ (↑(List.length x) : Int) ∧ ∀ (e : UInt8), e ∈ List.take (Int.toNat i) x → isFig e = true) → bcase (decide (i < (↑(List.length x) : Int))) (((0 : Int) ≤ i ∧ i < (↑(List.length x) : Int)) ∧ ∀ (c : UInt8), x[Int.toNat i]? = some c → ∃ (x_1 : UInt8), True ∧ (↑(UInt8.toNat c) : Int) = (↑(UInt8.toNat x_1) : Int) ∧ ∀ (y : Unit), True → bcase (isFig x_1) (inR IntKind.i64 (i + (1 : Int)) ∧ ∃ (i' : Int), ((0 : Int) ≤ i' ∧ i' ≤ (↑(List.length x) : Int) ∧ ∀ (e : UInt8), e ∈ List.take (Int.toNat i') x → isFig e = true) ∧ List.length x - Int.toNat i' < List.length x - Int.toNat i ∧ (x = x ∧ i + (1 : Int) = i' ∧ True) ∧ True) (((0 : Int) ≤ (0 : Int) ∧ (0 : Int) ≤ i ∧ i ≤ (↑(List.length x) : Int)) ∧ ∃ (y : Unit), True ∧ List.take (Int.toNat i) x = List.takeWhile isFig x ∧ True)) (((0 : Int) ≤ (0 : Int) ∧ (0 : Int) ≤ i ∧ i ≤ (↑(List.length x) : Int)) ∧ ∃ (y : Unit), True ∧ List.take (Int.toNat i) x = List.takeWhile isFig x ∧ True)) := by kernel_rfl
theorem runF_ok  : Contract G Tryd.prog 94 s_runF :=
  vcFun_ok (Γ := Γof [(96, 0, s_isFigure)]) (E := Eof []) (ov := false) (L := fun x => Lof ([(2,lTake isFig x fun i => [(0, .str x), (1, .clo (.func 96) []), (5, .int .i64 i)])])) Tryd.func94 rfl (by decide) (Γof_ok (l := [(96, 0, s_isFigure)]) ⟨isFigure_ok, trivial⟩) fun (x : List UInt8) (hx : x.length < 2 ^ 63) => (runF_vc  x).mpr (by
  (repeat' first | with_reducible rfl | exact True.intro | refine inR_i64 ?_ ?_ | with_reducible refine And.intro ?_ ?_ | with_reducible refine bcase_dec (fun _ => ?_) (fun _ => ?_) | with_reducible refine bcase_bne (fun _ => ?_) (fun _ => ?_) | with_reducible refine bcase_beq (fun _ => ?_) (fun _ => ?_) | with_reducible refine bcase_not (fun _ => ?_) (fun _ => ?_) | refine bcase_intro (fun _ => ?_) (fun _ => ?_) | refine sl_eq ?_ | refine ex_flip () ?_ ?_ | (apply ex_flip6 <;> try dsimp only) | (apply ex_flip5 <;> try dsimp only) | (apply ex_flip4 <;> try dsimp only) | (apply ex_flip3 <;> try dsimp only) | (apply ex_flip2 <;> try dsimp only) | apply ex_flip | (refine Prod.forall.2 ?_; intro _; try dsimp only) | (intro _; try dsimp only)) <;> (try dsimp only at *) <;> (try simp only [i64max, List.length_cons, List.length_nil]) <;> (try omega)
  · rename_i h; simp at h
  · rename_i i hi hl c hc y _ hp e he
    rw [toNat1 hi.1] at he; exact all_take_succ hi.2.2 hc hp e he
  · rename_i i hi hl c hc y _ hp
    exact takeWhile_take hi.2.2 (.inr ⟨c, hc, hp⟩)
  · rename_i i hi hl
    exact takeWhile_take hi.2.2 (.inl (by omega)))

def s_runN  : Sig := { X := List UInt8, args := fun x => [.str x, .clo (.func 99) []], pre := fun x => x.length < 2 ^ 63, Y := Unit, post := fun x y => True, res := fun x y => .str (x.takeWhile notNl), outs := fun x y => [.top, .top], keep := false }
theorem runN_vc (x : List UInt8) : vcFun Go.Proofs.Tryd.prog (Γof [(99, 0, s_sg1)]) (Eof []) false (Lof ([(2,lTake notNl x fun i => [(0, .str x), (1, .clo (.func 99) []), (5, .int .i64 i)])])) Go.Proofs.Tryd.f94.ntmps Go.Proofs.Tryd.f94.results.toList (Go.Proofs.Tryd.f94.body.getD .skip) s_runN x = ((∀ (y : Unit), True → True ∧ True ∧ True ∧ True) ∧ (∃ (i : Int), ((0 : Int) ≤ i ∧ i ≤ (↑(List.length x) : Int) ∧ ∀ (e : UInt8), e ∈ List.take (Int.toNat i) x → notNl e = true) ∧ (x = x ∧ (0 : Int) = i ∧ True) ∧ True) ∧ ∀ (i : Int), ((0 : Int) ≤ i ∧ i ≤ (↑(List.length x) : Int) ∧ ∀ (e : UInt8), e ∈ List.take (Int.toNat i) x → notNl e = true) → bcase (decide (i < (↑(List.length x) : Int))) (((0 : Int) ≤ i ∧ i < (↑(List.length x) : Int)) ∧ ∀ (c : UInt8), x[Int.toNat i]? = some c → ∃ (x_1 : UInt8), True ∧ (↑(UInt8.toNat c) : Int) = (↑(UInt8.toNat x_1) : Int) ∧ ∀ (y : Unit), True → bcase (notNl x_1) (inR IntKind.i64 (i + (1 : Int)) ∧ ∃ (i' : Int), ((0 : Int) ≤ i' ∧ i' ≤ (↑(List.length x) : Int) ∧ ∀ (e : UInt8), e ∈ List.take (Int.toNat i') x → notNl e = true) ∧ List.length x - Int.toNat i' < List.length x - Int.toNat i ∧ (x = x ∧ i + (1 : Int) = i' ∧ True) ∧ True) (((0 : Int) ≤ (0 : Int) ∧ (0 : Int) ≤ i ∧ i ≤ (↑(List.length x) : Int)) ∧ ∃ (y : Unit), True ∧ List.take (Int.toNat i) x = List.takeWhile notNl x ∧ True)) (((0 : Int) ≤ (0 : Int) ∧ (0 : Int) ≤ i ∧ i ≤ (↑(List.length x) : Int)) ∧ ∃ (y : Unit), True ∧ List.take (Int.toNat i) x = List.takeWhile notNl x ∧ True)) := by kernel_rfl
theorem runN_ok  : Contract G Tryd.prog 94 s_runN :=
  vcFun_ok (Γ := Γof [(99, 0, s_sg1)]) (E := Eof []) (ov := false) (L := fun x => Lof ([(2,lTake notNl x fun i => [(0, .str x), (1, .clo (.func 99) []), (5, .int .i64 i)])])) Tryd.func94 rfl (by decide) (Γof_ok (l := [(99, 0, s_sg1)]) ⟨sg1_ok, trivial⟩) fun (x : List UInt8) (hx : x.length < 2 ^ 63) => (runN_vc  x).mpr (by
  (repeat' first | with_reducible rfl | exact True.intro | refine inR_i64 ?_ ?_ | with_reducible refine And.intro ?_ ?_ | with_reducible refine bcase_dec (fun _ => ?_) (fun _ => ?_) | with_reducible refine bcase_bne (fun _ => ?_) (fun _ => ?_) | with_reducible refine bcase_beq (fun _ => ?_) (fun _ => ?_) | with_reducible refine bcase_not (fun _ => ?_) (fun _ => ?_) | refine bcase_intro (fun _ => ?_) (fun _ => ?_) | refine sl_eq ?_ | refine ex_flip () ?_ ?_ | (apply ex_flip6 <;> try dsimp only) | (apply ex_flip5 <;> try dsimp only) | (apply ex_flip4 <;> try dsimp only) | (apply ex_flip3 <;> try dsimp only) | (apply ex_flip2 <;> try dsimp only) | apply ex_flip | (refine Prod.forall.2 ?_; intro _; try dsimp only) | (intro _; try dsimp only)) <;> (try dsimp only at *) <;> (try simp only [i64max, List.length_cons, List.length_nil]) <;> (try omega)
  · rename_i h; simp at h
  · rename_i i hi hl c hc y _ hp e he
    rw [toNat1 hi.1] at he; exact all_take_succ hi.2.2 hc hp e he
  · rename_i i hi hl c hc y _ hp
    exact takeWhile_take hi.2.2 (.inr ⟨c, hc, hp⟩)
  · rename_i i hi hl
    exact takeWhile_take hi.2.2 (.inl (by omega)))

end Go.My
end
section
/- Signs, plainly: the reference's way. -/
set_option linter.unusedVariables false
set_option linter.unusedSimpArgs false
namespace Go.My
open Go.Eng

def sgMk (x : List UInt8) : SgR := if markOk (x.take 2) then ⟨4, x.take 2, (x.take 2).length, true⟩ else if markOk (x.take 1) then ⟨4, x.take 1, 1, true⟩ else ⟨0, [], 0, false⟩
def sgInv (x : List UInt8) (i : Int) : Prop := (0 ≤ i ∧ i ≤ 2 ∧ i ≤ x.length) ∧ sgAt x = sgMk x ∧ ∀ j : Nat, i < j → j ≤ 2 → j ≤ x.length → markOk (x.take j) = false
theorem sgInv_yes {x : List UInt8} {i : Int} (h : sgInv x i) (hx : 1 ≤ x.length) (h0 : i > 0) (hm : markOk (x.take i.toNat) = true) : sgAt x = ⟨4, x.take i.toNat, i, true⟩ := by
  obtain ⟨⟨h1, h2, h3⟩, h4, h5⟩ := h
  rw [h4]
  have hi : i = 1 ∨ i = 2 := by omega
  rcases hi with rfl | rfl
  · by_cases hl : x.length = 1
    · have e : x.take 2 = x.take 1 := by rw [List.take_of_length_le (by omega), List.take_of_length_le (by omega)]
      have hm' : markOk (x.take 1) = true := hm
      simp only [sgMk, e, hm', if_true]
      have : (x.take 1).length = 1 := by simp; omega
      rw [this]; rfl
    · have := h5 2 (by omega) (by omega) (by omega)
      have hm' : markOk (x.take 1) = true := hm
      simp only [sgMk, this, hm', Bool.false_eq_true, if_false, if_true]; rfl
  · have hm' : markOk (x.take 2) = true := hm
    simp only [sgMk, hm', if_true]
    have : (x.take 2).length = 2 := by simp; omega
    rw [this]; rfl
theorem sgInv_no {x : List UInt8} {i : Int} (h : sgInv x i) (hx : 1 ≤ x.length) (h0 : ¬ i > 0) : sgAt x = ⟨0, [], 0, false⟩ := by
  obtain ⟨⟨h1, h2, h3⟩, h4, h5⟩ := h
  rw [h4]
  have a1 := h5 1 (by omega) (by omega) hx
  have a2 : markOk (x.take 2) = false := by
    by_cases hl : x.length = 1
    · have e : x.take 2 = x.take 1 := by rw [List.take_of_length_le (by omega), List.take_of_length_le (by omega)]
      rw [e]; exact a1
    · exact h5 2 (by omega) (by omega) (by omega)
  simp only [sgMk, a1, a2, Bool.false_eq_true, if_false]
theorem sgInv_next {x : List UInt8} {i : Int} (h : sgInv x i) (h0 : i > 0) (hm : markOk (x.take i.toNat) = false) : sgInv x (i - 1) := by
  obtain ⟨⟨h1, h2, h3⟩, h4, h5⟩ := h
  refine ⟨⟨by omega, by omega, by omega⟩, h4, fun j a b c => ?_⟩
  by_cases e : (j : Int) = i
  · have : j = i.toNat := by omega
    rw [this]; exact hm
  · exact h5 j (by omega) b c
theorem sgInv_init {b : UInt8} {t : List UInt8} (h1 : isFst b = false) (h2 : isFig b = false) (h3 : ¬ b.toNat = 39) (h4 : (b :: t).take 2 ≠ [47, 47]) : sgInv (b :: t) (min 2 ((b :: t).length : Int)) := by
  refine ⟨⟨by omega, by omega, by omega⟩, ?_, fun j a b c => by omega⟩
  simp only [sgAt, h1, h2, h3, h4, Bool.false_eq_true, if_false, sgMk]
theorem sgAt1 {b : UInt8} {t : List UInt8} (h : isFst b = true) : sgAt (b :: t) = ⟨1, (b :: t).takeWhile isInn, ((b :: t).takeWhile isInn).length, decide ((((b :: t).takeWhile isInn).length : Int) ≤ 30)⟩ := by
  have : decide ((((b :: t).takeWhile isInn).length : Int) ≤ 30) = decide (((b :: t).takeWhile isInn).length ≤ 30) := decide_eq_decide.2 (by omega)
  rw [this]; simp [sgAt, h]
theorem sgAt2 {b : UInt8} {t : List UInt8} (h0 : isFst b = false) (h : isFig b = true) : sgAt (b :: t) = ⟨2, (b :: t).takeWhile isFig, ((b :: t).takeWhile isFig).length, decide ((((b :: t).takeWhile isFig).length : Int) ≤ 12)⟩ := by
  have : decide ((((b :: t).takeWhile isFig).length : Int) ≤ 12) = decide (((b :: t).takeWhile isFig).length ≤ 12) := decide_eq_decide.2 (by omega)
  rw [this]; simp [sgAt, h, h0]
theorem sgAt3 {b : UInt8} {t : List UInt8} (h0 : isFst b = false) (h1 : isFig b = false) (h : (b.toNat : Int) = 39) : sgAt (b :: t) = ⟨3, (quoted (b :: t)).1, (quoted (b :: t)).1.length, (quoted (b :: t)).2⟩ := by
  have h : b.toNat = 39 := by omega
  simp [sgAt, h0, h1, h]
theorem sgAt5 {b : UInt8} {t : List UInt8} (h0 : isFst b = false) (h1 : isFig b = false) (h2 : (b.toNat : Int) ≠ 39) (h : (b :: t).take 2 = [47, 47]) :
    sgAt (b :: t) = ⟨5, trimR ((b :: t).takeWhile notNl), ((b :: t).takeWhile notNl).length, ((b :: t).takeWhile notNl).all isPln⟩ := by
  have h2 : ¬ b.toNat = 39 := by omega
  simp only [sgAt, h0, h1, h2, h, Bool.false_eq_true, if_false, if_true]
/- blanks at the end -/
theorem trimR_nil : trimR [] = [] := rfl
theorem trimR_snoc (s : List UInt8) (c : UInt8) : trimR (s ++ [c]) = if c.toNat = 32 then trimR s else s ++ [c] := by
  unfold trimR
  rw [List.reverse_append]
  simp only [List.reverse_cons, List.reverse_nil, List.nil_append, List.singleton_append, List.dropWhile_cons]
  by_cases h : c.toNat = 32
  · simp [h]
  · simp [h]
theorem snoc_of {s : List UInt8} {c : UInt8} (h : s[s.length - 1]? = some c) : s = s.take (s.length - 1) ++ [c] := by
  have h1 := takeE h
  have : s.length - 1 + 1 = s.length := by
    have := (List.getElem?_eq_some_iff.1 h).1; omega
  rw [this, List.take_length] at h1
  exact h1
theorem trimR_last {s : List UInt8} {c : UInt8} (h : s[s.length - 1]? = some c) : trimR s = if c.toNat = 32 then trimR (s.take (s.length - 1)) else s := by
  have h1 := snoc_of h
  rw [h1, trimR_snoc]
  split
  · rw [List.length_append]; simp
  · rfl
theorem trimR_take_succ {s : List UInt8} {n : Nat} {c : UInt8} (h : s[n]? = some c) : trimR (s.take (n + 1)) = if c.toNat = 32 then trimR (s.take n) else s.take (n + 1) := by
  rw [takeE h, trimR_snoc]
theorem trimR_prefix (s : List UInt8) : ∃ n, trimR s = s.take n := by
  unfold trimR
  refine ⟨(s.reverse.dropWhile fun c => decide (c.toNat = 32)).length, ?_⟩
  have := List.dropWhile_suffix (fun c : UInt8 => decide (c.toNat = 32)) (l := s.reverse)
  have := List.reverse_prefix.2 this
  rw [List.reverse_reverse] at this
  have h2 := List.prefix_iff_eq_take.1 this
  rw [List.length_reverse] at h2
  exact h2
theorem trimR_length (s : List UInt8) : (trimR s).length ≤ s.length := by
  obtain ⟨n, h⟩ := trimR_prefix s
  rw [h]; simp; omega

/- a text's length, a note's -/
def isQ (c : UInt8) : Bool := decide (c.toNat = 39)
def qlen (s : List UInt8) : Nat := match idxOf isQ (s.drop 1) with
  | none => 0
  | some i => if ((s.drop 1).take i).all isPln then i + 2 else 0
def nlen (s : List UInt8) : Nat := if s.take 2 = [47, 47] then (if (s.takeWhile notNl).all isPln then (s.takeWhile notNl).length else 0) else 0
theorem quoted_eq (s : List UInt8) : quoted s = match idxOf isQ (s.drop 1) with
    | none => ([], false)
    | some i => (s.take (i + 2), (s.take (i + 2)).all isPln) := rfl
theorem isPln_q {c : UInt8} (h : isQ c = true) : isPln c = true := by
  simp [isQ] at h; simp [isPln, h]
theorem idxOf_lt {p : UInt8 → Bool} {s : List UInt8} {i : Nat} (h : idxOf p s = some i) : i < s.length := by
  obtain ⟨_, e, he, _⟩ := idxOf_some.1 h
  exact (List.getElem?_eq_some_iff.1 he).1
/- the text that begins with a sign for texts: azs it is, and long enough -/
theorem quoted_q {c : UInt8} {s : List UInt8} (hc : isQ c = true) : (quoted (c :: s)).2 = true ↔ qlen (c :: s) ≠ 0 := by
  rw [quoted_eq]; unfold qlen
  simp only [List.drop_succ_cons, List.drop_zero]
  cases h : idxOf isQ s with
  | none => simp
  | some i =>
    simp only [List.take_succ_cons, List.all_cons, isPln_q hc, Bool.true_and]
    obtain ⟨h1, e, he, hq⟩ := idxOf_some.1 h
    rw [takeE he, List.all_append]
    simp [isPln_q hq]
theorem quoted_len {c : UInt8} {s : List UInt8} (hc : isQ c = true) (h : qlen (c :: s) ≠ 0) : (quoted (c :: s)).1 = (c :: s).take (qlen (c :: s)) ∧ qlen (c :: s) ≤ (c :: s).length := by
  rw [quoted_eq]; unfold qlen at h ⊢
  simp only [List.drop_succ_cons, List.drop_zero] at h ⊢
  cases hi : idxOf isQ s with
  | none => rw [hi] at h; simp at h
  | some i =>
    rw [hi] at h
    simp only at h ⊢
    split at h
    · rename_i hp
      have := idxOf_lt hi
      rw [if_pos hp]
      exact ⟨rfl, by simp; omega⟩
    · exact (h rfl).elim

theorem isFst_notFig {c : UInt8} (h : isFst c = true) : isFig c = false := by
  simp [isFst, isFig] at h ⊢; omega
theorem isFst_inn {c : UInt8} (h : isFst c = true) : isInn c = true := by simp [isInn, h]
theorem isFig_inn {c : UInt8} (h : isFig c = true) : isInn c = true := by simp [isInn, h]

/- what a sign is: each kind alone -/
theorem sg_name (s : List UInt8) : isSgn s 1 = match s with
    | [] => false
    | c :: _ => isFst c && (s.all isInn && decide (s.length ≤ 30)) := by
  cases s with
  | nil => rfl
  | cons c t =>
    by_cases hc : isFst c = true
    · simp only [isSgn, sgAt, hc, if_true, Bool.true_and]
      by_cases ha : (c :: t).all isInn = true
      · have := takeWhile_eq_self.2 ha
        rw [this, ha]; simp
      · have hn : ¬ (c :: t).takeWhile isInn = c :: t := fun e => ha (takeWhile_eq_self.1 e)
        simp only [Bool.not_eq_true] at ha
        rw [ha]
        have : ((c :: t).takeWhile isInn == c :: t) = false := by rw [beq_eq_false_iff_ne]; exact hn
        rw [this]; simp
    · simp only [Bool.not_eq_true] at hc
      simp only [hc, Bool.false_and]
      rw [Bool.eq_false_iff]
      intro h
      simp only [isSgn, sgAt, hc, Bool.false_eq_true, if_false, Bool.and_eq_true, decide_eq_true_eq] at h
      have h1 := h.2.2.1
      repeat' split at h1
      all_goals simp at h1
theorem sg_num (s : List UInt8) : isSgn s 2 = (s.all isFig && (decide (1 ≤ s.length) && decide (s.length ≤ 12))) := by
  cases s with
  | nil => rfl
  | cons c t =>
    by_cases hc : isFst c = true
    · have hf := isFst_notFig hc
      simp only [List.all_cons, hf, Bool.false_and]
      simp [isSgn, sgAt, hc]
    · simp only [Bool.not_eq_true] at hc
      by_cases hf : isFig c = true
      · simp only [isSgn, sgAt, hc, hf, Bool.false_eq_true, if_false, if_true]
        by_cases ha : (c :: t).all isFig = true
        · have := takeWhile_eq_self.2 ha
          rw [this, ha]; simp
        · have hn : ¬ (c :: t).takeWhile isFig = c :: t := fun e => ha (takeWhile_eq_self.1 e)
          simp only [Bool.not_eq_true] at ha
          rw [ha]
          have : ((c :: t).takeWhile isFig == c :: t) = false := by rw [beq_eq_false_iff_ne]; exact hn
          rw [this]; simp
      · simp only [Bool.not_eq_true] at hf
        simp only [List.all_cons, hf, Bool.false_and]
        rw [Bool.eq_false_iff]
        intro h
        simp only [isSgn, sgAt, hc, hf, Bool.false_eq_true, if_false, Bool.and_eq_true, decide_eq_true_eq] at h
        have h1 := h.2.2.1
        repeat' split at h1
        all_goals simp at h1
theorem sg_quot (s : List UInt8) : isSgn s 3 = match s with
    | [] => false
    | c :: _ => isQ c && (decide (1 < s.length) && decide (qlen s = s.length)) := by
  cases s with
  | nil => rfl
  | cons c t =>
    by_cases hq : isQ c = true
    · have h39 : c.toNat = 39 := by simpa [isQ] using hq
      have hc : isFst c = false := by simp [isFst]; omega
      have hf : isFig c = false := by simp [isFig]; omega
      simp only [hq, Bool.true_and]
      simp only [isSgn, sgAt, hc, hf, h39, Bool.false_eq_true, if_false, if_true]
      by_cases h0 : qlen (c :: t) = 0
      · have h2 : (quoted (c :: t)).2 = false := by
          rw [Bool.eq_false_iff]; intro h; exact (quoted_q hq).1 h h0
        rw [h2, h0]; simp
      · have h2 := (quoted_q hq).2 h0
        obtain ⟨h3, h4⟩ := quoted_len hq h0
        have h5 : 1 < qlen (c :: t) := by
          unfold qlen at h0 ⊢
          split at h0
          · exact (h0 rfl).elim
          · split at h0
            · rename_i hp; rw [if_pos hp]; omega
            · exact (h0 rfl).elim
        rw [h2, h3]
        rw [Bool.eq_iff_iff]
        simp only [Bool.and_eq_true, Bool.not_eq_true', decide_eq_true_eq, beq_iff_eq, List.length_take]
        constructor
        · rintro ⟨_, _, _, e, hl⟩
          have := congrArg List.length e
          simp only [List.length_take] at this
          constructor <;> omega
        · rintro ⟨h6, h7⟩
          refine ⟨by simp, trivial, trivial, ?_, ?_⟩
          · rw [h7, List.take_length]
          · omega
    · simp only [Bool.not_eq_true] at hq
      have h39 : ¬ c.toNat = 39 := by simpa [isQ] using hq
      simp only [hq, Bool.false_and]
      rw [Bool.eq_false_iff]
      intro h
      simp only [isSgn, sgAt, h39, if_false, Bool.and_eq_true, decide_eq_true_eq] at h
      have h1 := h.2.2.1
      repeat' split at h1
      all_goals simp at h1
theorem sg_note (s : List UInt8) : isSgn s 5 = (decide (1 < s.length) && (decide (nlen s = s.length) && (trimR s == s))) := by
  cases s with
  | nil => rfl
  | cons c t =>
    by_cases hp : (c :: t).take 2 = [47, 47]
    · have h47 : c = 47 := by
        have := congrArg (fun l : List UInt8 => l.head?) hp
        simpa using this
      subst h47
      have hl : 1 < (47 :: t).length := by
        have := congrArg List.length hp
        simp only [List.length_take, List.length_cons, List.length_nil] at this ⊢; omega
      have hc : isFst 47 = false := by decide
      have hf : isFig 47 = false := by decide
      have hq : ¬ (47 : UInt8).toNat = 39 := by decide
      simp only [isSgn, sgAt, hc, hf, hq, hp, Bool.false_eq_true, if_false, if_true, nlen]
      rw [Bool.eq_iff_iff]
      simp only [Bool.and_eq_true, Bool.not_eq_true', decide_eq_true_eq, beq_iff_eq, beq_eq_false_iff_ne]
      constructor
      · rintro ⟨_, h1, _, h2, h3⟩
        rw [if_pos h1]
        have h3 : ((47 :: t).takeWhile notNl).length = (47 :: t).length := by omega
        refine ⟨hl, h3, ?_⟩
        have e : (47 :: t).takeWhile notNl = 47 :: t := by
          have := List.takeWhile_prefix (p := notNl) (l := 47 :: t)
          exact List.IsPrefix.eq_of_length this h3
        rw [e] at h2; exact h2
      · rintro ⟨_, h1, h2⟩
        split at h1
        · rename_i h3
          have e : (47 :: t).takeWhile notNl = 47 :: t := by
            have := List.takeWhile_prefix (p := notNl) (l := 47 :: t)
            exact List.IsPrefix.eq_of_length this h1
          rw [e] at h3 ⊢
          exact ⟨by simp, h3, trivial, h2, rfl⟩
        · simp at h1
    · have h0 : nlen (c :: t) = 0 := by simp only [nlen, if_neg hp]
      rw [h0]
      have : decide (0 = (c :: t).length) = false := by simp
      rw [this]
      simp only [Bool.false_and, Bool.and_false]
      rw [Bool.eq_false_iff]
      intro h
      simp only [isSgn, sgAt, hp, if_false, Bool.and_eq_true, decide_eq_true_eq] at h
      have h1 := h.2.2.1
      repeat' split at h1
      all_goals simp at h1
theorem qlen_found {s : List UInt8} {m : Nat} {e : UInt8} (h : ∀ e ∈ (s.drop 1).take m, isQ e = false ∧ isPln e = true) (he : (s.drop 1)[m]? = some e) (hq : isQ e = true) : qlen s = m + 2 := by
  unfold qlen
  rw [idxOf_some.2 ⟨fun e he => (h e he).1, e, he, hq⟩]
  simp only
  rw [if_pos (List.all_eq_true.2 fun e he => (h e he).2)]
theorem qlen_bad {s : List UInt8} {m : Nat} {e : UInt8} (h : ∀ e ∈ (s.drop 1).take m, isQ e = false ∧ isPln e = true) (he : (s.drop 1)[m]? = some e) (hq : isQ e = false) (hp : isPln e = false) : qlen s = 0 := by
  unfold qlen
  cases hi : idxOf isQ (s.drop 1) with
  | none => rfl
  | some i =>
    simp only
    obtain ⟨h1, d, hd, hdq⟩ := idxOf_some.1 hi
    rw [if_neg]
    intro hall
    have hmi : m < i := by
      rcases Nat.lt_trichotomy m i with h' | h' | h'
      · exact h'
      · subst h'; rw [he] at hd; cases hd; rw [hq] at hdq; cases hdq
      · have : d ∈ (s.drop 1).take m := by
          rw [List.mem_take_iff_getElem]
          obtain ⟨a, b⟩ := List.getElem?_eq_some_iff.1 hd
          exact ⟨i, by omega, b⟩
        rw [(h d this).1] at hdq; cases hdq
    have : e ∈ (s.drop 1).take i := by
      rw [List.mem_take_iff_getElem]
      obtain ⟨a, b⟩ := List.getElem?_eq_some_iff.1 he
      exact ⟨m, by omega, b⟩
    rw [List.all_eq_true.1 hall e this] at hp; cases hp
theorem qlen_end {s : List UInt8} {m : Nat} (h : ∀ e ∈ (s.drop 1).take m, isQ e = false ∧ isPln e = true) (hl : (s.drop 1).length ≤ m) : qlen s = 0 := by
  unfold qlen
  rw [List.take_of_length_le hl] at h
  rw [idxOf_none.2 fun e he => (h e he).1]
theorem nlen_end {s : List UInt8} {m : Nat} (hp : s.take 2 = [47, 47]) (h : ∀ e ∈ s.take m, notNl e = true ∧ isPln e = true) (he : s.length ≤ m ∨ ∃ e, s[m]? = some e ∧ notNl e = false) (hm : m ≤ s.length) : nlen s = m := by
  have h1 := takeWhile_take (fun e he => (h e he).1) he
  unfold nlen
  rw [if_pos hp, ← h1, if_pos (List.all_eq_true.2 fun e he => (h e he).2), List.length_take]; omega
theorem nlen_bad {s : List UInt8} {m : Nat} {e : UInt8} (hp : s.take 2 = [47, 47]) (h : ∀ e ∈ s.take m, notNl e = true ∧ isPln e = true) (he : s[m]? = some e) (hn : notNl e = true) (hq : isPln e = false) : nlen s = 0 := by
  unfold nlen
  rw [if_pos hp, if_neg]
  intro hall
  have : e ∈ s.takeWhile notNl := by
    have h2 : s = s.take m ++ e :: s.drop (m + 1) := by rw [← dropE he, List.take_append_drop]
    rw [h2, List.takeWhile_append_of_pos (fun e he => (h e he).1), List.takeWhile_cons, if_pos hn]
    simp
  rw [List.all_eq_true.1 hall e this] at hq; cases hq
theorem nlen_no {s : List UInt8} (hp : s.take 2 ≠ [47, 47]) : nlen s = 0 := by
  unfold nlen; rw [if_neg hp]
theorem drop1_get {s : List UInt8} {a n : Int} (h0 : 0 ≤ a) (h : a + 1 ≤ n) : ((s.drop a.toNat).drop 1)[(n - a - 1).toNat]? = s[n.toNat]? := by
  rw [List.getElem?_drop, List.getElem?_drop]; congr 1; omega
theorem drop0_get {s : List UInt8} {a n : Int} (h0 : 0 ≤ a) (h : a ≤ n) : (s.drop a.toNat)[(n - a).toNat]? = s[n.toNat]? := by
  rw [List.getElem?_drop]; congr 1; omega
theorem all_next {p : UInt8 → Prop} {s : List UInt8} {m k : Nat} {e : UInt8} (h : ∀ e ∈ s.take m, p e) (he : s[m]? = some e) (hp : p e) (hk : k = m + 1) : ∀ e ∈ s.take k, p e := by
  subst hk
  rw [takeE he]; intro x hx
  rcases List.mem_append.1 hx with hx | hx
  · exact h x hx
  · simp at hx; subst hx; exact hp
/- the reference's loops -/
def qI (x : List UInt8 × Int) (i : Int) : Prop := x.2 + 1 ≤ i ∧ (i ≤ x.1.length ∨ i = x.2 + 1) ∧ ∀ e ∈ ((x.1.drop x.2.toNat).drop 1).take (i - x.2 - 1).toNat, isQ e = false ∧ isPln e = true
theorem qI_0 {x : List UInt8 × Int} : qI x (x.2 + 1) := by
  refine ⟨by omega, .inr rfl, fun e he => ?_⟩
  rw [show (x.2 + 1 - x.2 - 1).toNat = 0 by omega] at he; simp at he
theorem qI_b {x : List UInt8 × Int} {i : Int} (h : qI x i) : x.2 + 1 ≤ i ∧ (i ≤ x.1.length ∨ i = x.2 + 1) := ⟨h.1, h.2.1⟩
theorem qI_found {x : List UInt8 × Int} {i : Int} {c : UInt8} (h0 : 0 ≤ x.2) (h : qI x i) (hq : (c.toNat : Int) = 39) (hc : x.1[i.toNat]? = some c) : i + 1 - x.2 = qlen (x.1.drop x.2.toNat) := by
  have := h.1
  rw [qlen_found h.2.2 (by rw [drop1_get h0 h.1]; exact hc) (by simp [isQ]; omega)]; omega
theorem qI_bad {x : List UInt8 × Int} {i : Int} {c d : UInt8} (h0 : 0 ≤ x.2) (h : qI x i) (hq : (c.toNat : Int) ≠ 39) (hc : x.1[i.toNat]? = some c) (hp : isPln d = false) (hd : x.1[i.toNat]? = some d) : 0 = (qlen (x.1.drop x.2.toNat) : Int) := by
  rw [hc] at hd; cases hd
  rw [qlen_bad h.2.2 (by rw [drop1_get h0 h.1]; exact hc) (by simp [isQ]; omega) hp]; rfl
theorem qI_next {x : List UInt8 × Int} {i : Int} {c d : UInt8} (h0 : 0 ≤ x.2) (h : qI x i) (hl : i < x.1.length) (hq : (c.toNat : Int) ≠ 39) (hc : x.1[i.toNat]? = some c) (hp : isPln d = true) (hd : x.1[i.toNat]? = some d) : qI x (i + 1) := by
  rw [hc] at hd; cases hd
  have := h.1
  exact ⟨by omega, .inl (by omega), all_next (p := fun e => isQ e = false ∧ isPln e = true) h.2.2 (by rw [drop1_get h0 h.1]; exact hc) ⟨by simp [isQ]; omega, hp⟩ (by omega)⟩
theorem qI_end {x : List UInt8 × Int} {i : Int} (h0 : 0 ≤ x.2) (h : qI x i) (hl : ¬ i < x.1.length) : 0 = (qlen (x.1.drop x.2.toNat) : Int) := by
  rw [qlen_end h.2.2 (by simp; omega)]; rfl
def nI (x : List UInt8 × Int) (i : Int) : Prop := (x.2 ≤ i ∧ i ≤ x.1.length) ∧ (x.1.drop x.2.toNat).take 2 = [47, 47] ∧ ∀ e ∈ (x.1.drop x.2.toNat).take (i - x.2).toNat, notNl e = true ∧ isPln e = true
theorem nI_pre {x : List UInt8 × Int} (h0 : 0 ≤ x.2) : List.drop x.2.toNat (List.take (x.2 + 2).toNat x.1) = (x.1.drop x.2.toNat).take 2 := by
  rw [List.drop_take]; congr 1; omega
theorem nI_0 {x : List UInt8 × Int} (h0 : 0 ≤ x.2) (hl : x.2 ≤ x.1.length) (h : (List.drop x.2.toNat (List.take (x.2 + 2).toNat x.1) == [47, 47]) = true) : nI x x.2 := by
  rw [nI_pre h0] at h
  refine ⟨⟨by omega, hl⟩, by simpa using h, fun e he => ?_⟩
  rw [show (x.2 - x.2).toNat = 0 by omega] at he; simp at he
theorem nI_no {x : List UInt8 × Int} (h0 : 0 ≤ x.2) (h : (List.drop x.2.toNat (List.take (x.2 + 2).toNat x.1) == [47, 47]) = false) : 0 = (nlen (x.1.drop x.2.toNat) : Int) := by
  rw [nI_pre h0] at h
  rw [nlen_no (by simpa using h)]; rfl
theorem nI_short {x : List UInt8 × Int} (h0 : 0 ≤ x.2) (h : x.2 + 2 > x.1.length) : 0 = (nlen (x.1.drop x.2.toNat) : Int) := by
  rw [nlen_no]
  · rfl
  · intro e; have := congrArg List.length e; simp at this; omega
theorem nI_bad {x : List UInt8 × Int} {i : Int} {c d : UInt8} (h0 : 0 ≤ x.2) (h : nI x i) (hn : (c.toNat : Int) ≠ 10) (hc : x.1[i.toNat]? = some c) (hp : isPln d = false) (hd : x.1[i.toNat]? = some d) : 0 = (nlen (x.1.drop x.2.toNat) : Int) := by
  rw [hc] at hd; cases hd
  rw [nlen_bad h.2.1 h.2.2 (by rw [drop0_get h0 h.1.1]; exact hc) (by simp [notNl]; omega) hp]; rfl
theorem nI_next {x : List UInt8 × Int} {i : Int} {c d : UInt8} (h0 : 0 ≤ x.2) (h : nI x i) (hl : i < x.1.length) (hn : (c.toNat : Int) ≠ 10) (hc : x.1[i.toNat]? = some c) (hp : isPln d = true) (hd : x.1[i.toNat]? = some d) : nI x (i + 1) := by
  rw [hc] at hd; cases hd
  have := h.1
  exact ⟨by omega, h.2.1, all_next (p := fun e => notNl e = true ∧ isPln e = true) h.2.2 (by rw [drop0_get h0 h.1.1]; exact hc) ⟨by simp [notNl]; omega, hp⟩ (by omega)⟩
theorem nI_stop {x : List UInt8 × Int} {i : Int} {c : UInt8} (h0 : 0 ≤ x.2) (h : nI x i) (hn : (c.toNat : Int) = 10) (hc : x.1[i.toNat]? = some c) : i - x.2 = (nlen (x.1.drop x.2.toNat) : Int) := by
  have := h.1
  have hl := (List.getElem?_eq_some_iff.1 hc).1
  rw [nlen_end h.2.1 h.2.2 (.inr ⟨c, by rw [drop0_get h0 h.1.1]; exact hc, by simp [notNl]; omega⟩) (by simp; omega)]; omega
theorem nI_end {x : List UInt8 × Int} {i : Int} (h0 : 0 ≤ x.2) (h : nI x i) (hl : ¬ i < x.1.length) : i - x.2 = (nlen (x.1.drop x.2.toNat) : Int) := by
  have := h.1
  rw [nlen_end h.2.1 h.2.2 (.inl (by simp; omega)) (by simp; omega)]; omega
/- names -/
def nmI (x : List UInt8) (i : Int) : Prop := (0 ≤ i ∧ i ≤ x.length) ∧ (inn x.length 1 30 = true ∧ isFst (x.headD 0) = true ∧ kw x = false) ∧ ∀ e ∈ x.take i.toNat, isInn e = true
theorem nameOk_eq {x : List UInt8} : nameOk x = true ↔ (inn x.length 1 30 = true ∧ isFst (x.headD 0) = true ∧ kw x = false) ∧ x.all isInn = true := by
  unfold nameOk
  rw [sg_name]
  cases x with
  | nil => simp [inn]
  | cons c t =>
    simp only [inn, Bool.and_eq_true, decide_eq_true_eq, Bool.not_eq_true', List.headD_cons, List.length_cons]
    constructor
    · rintro ⟨⟨h1, h2, h3⟩, h4⟩; exact ⟨⟨⟨by omega, by omega⟩, h1, h4⟩, h2⟩
    · rintro ⟨⟨⟨h1, h2⟩, h3, h4⟩, h5⟩; exact ⟨⟨h3, h5, by omega⟩, h4⟩
theorem head_of {x : List UInt8} {c : UInt8} (h : x[0]? = some c) : x.headD 0 = c := by cases x <;> simp_all
theorem nmI_no {x : List UInt8} (h : ¬ (inn x.length 1 30 = true ∧ isFst (x.headD 0) = true ∧ kw x = false)) : false = nameOk x := by
  symm; rw [Bool.eq_false_iff]; intro hn; exact h (nameOk_eq.1 hn).1
theorem nmI_0 {x : List UInt8} (h : inn x.length 1 30 = true) (h1 : isFst (x.headD 0) = true) (h2 : kw x = false) : nmI x 0 := ⟨by omega, ⟨h, h1, h2⟩, fun e he => by simp at he⟩
theorem nmI_next {x : List UInt8} {i : Int} {c : UInt8} (h : nmI x i) (hc : x[i.toNat]? = some c) (hl : i < x.length) (hp : isInn c = true) : nmI x (i + 1) := by
  have := h.1
  exact ⟨by omega, h.2.1, all_next (p := fun e => isInn e = true) h.2.2 hc hp (by omega)⟩
theorem nmI_bad {x : List UInt8} {i : Int} {c : UInt8} (h : nmI x i) (hc : x[i.toNat]? = some c) (hp : isInn c = false) : false = nameOk x := by
  symm; rw [Bool.eq_false_iff]; intro hn
  have := (nameOk_eq.1 hn).2
  rw [not_all hc hp] at this; cases this
theorem nmI_end {x : List UInt8} {i : Int} (h : nmI x i) (hl : ¬ i < x.length) : true = nameOk x := by
  symm; rw [nameOk_eq]; exact ⟨h.2.1, all_of_take h.2.2 (by omega)⟩
theorem q_yes {x : List UInt8} {c : UInt8} (h1 : (x.length : Int) > 1) (hq : (c.toNat : Int) = 39) (h : x[0]? = some c) : ((qlen x : Int) == (x.length : Int)) = isSgn x 3 := by
  cases x with
  | nil => cases h
  | cons d t =>
    have : d = c := by simpa using h
    subst this
    have e : isQ d = true := by simp [isQ]; omega
    rw [sg_quot, Bool.eq_iff_iff]
    simp [e] at h1 ⊢; omega
theorem q_no {x : List UInt8} {c : UInt8} (hq : (c.toNat : Int) ≠ 39) (h : x[0]? = some c) : false = isSgn x 3 := by
  cases x with
  | nil => cases h
  | cons d t =>
    have : d = c := by simpa using h
    subst this
    have e : isQ d = false := by simp [isQ]; omega
    rw [sg_quot]; simp [e]
theorem q_short {x : List UInt8} (h1 : ¬ (x.length : Int) > 1) : false = isSgn x 3 := by
  rw [sg_quot]
  cases x with
  | nil => rfl
  | cons d t => 
    have : decide (1 < (d :: t).length) = false := decide_eq_false (by omega)
    simp only [this, Bool.false_and, Bool.and_false]
theorem n_yes {x : List UInt8} (h1 : (x.length : Int) > 1) (h2 : (nlen x : Int) = x.length) : (trimR x == x) = isSgn x 5 := by
  rw [sg_note]
  have e1 : decide (1 < x.length) = true := decide_eq_true (by omega)
  have e2 : decide (nlen x = x.length) = true := decide_eq_true (by omega)
  simp [e1, e2]
theorem n_no {x : List UInt8} (h2 : (nlen x : Int) ≠ x.length) : false = isSgn x 5 := by
  rw [sg_note]
  have e2 : decide (nlen x = x.length) = false := decide_eq_false (by omega)
  simp only [e2, Bool.false_and, Bool.and_false]
theorem n_short {x : List UInt8} (h1 : ¬ (x.length : Int) > 1) : false = isSgn x 5 := by
  rw [sg_note]
  have e2 : decide (1 < x.length) = false := decide_eq_false (by omega)
  simp only [e2, Bool.false_and]
end Go.My
end
