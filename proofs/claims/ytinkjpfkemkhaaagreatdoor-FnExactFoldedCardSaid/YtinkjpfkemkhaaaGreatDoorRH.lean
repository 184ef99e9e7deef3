/- A part of the proof: the engine and the contracts, joined. -/
import Derived.Test.YtinkjpfkemkhaaaGreatDoorRG
import Derived.Lib.ItoaNum
section
/- The laws' helpers over groups and marks; the laws of order and of groups. -/
set_option linter.unusedVariables false
set_option linter.unusedSimpArgs false
namespace Go.My
open Go.Eng Go.Proofs
variable {G : GInv}

theorem ex_gr {p q : Gr → Prop} (a : List Int) (b : Int) (h1 : p ⟨a, b⟩) (h2 : q ⟨a, b⟩) : ∃ x, p x ∧ q x := ⟨_, h1, h2⟩
theorem ex_nd {p q : Nd → Prop} (a : Int) (b : List UInt8) (c : List Int) (d : Bool) (h1 : p ⟨a, b, c, d⟩) (h2 : q ⟨a, b, c, d⟩) : ∃ x, p x ∧ q x := ⟨_, h1, h2⟩
theorem ex_gr2 {p q : Gr → Prop} (a : List Int) (b : Int) (h2 : q ⟨a, b⟩) (h1 : p ⟨a, b⟩) : ∃ x, p x ∧ q x := ⟨_, h1, h2⟩
theorem ex_nd2 {p q : Nd → Prop} (a : Int) (b : List UInt8) (c : List Int) (d : Bool) (h2 : q ⟨a, b, c, d⟩) (h1 : p ⟨a, b, c, d⟩) : ∃ x, p x ∧ q x := ⟨_, h1, h2⟩
def s_eqGr  : Sig := { X := Gr × Gr, args := fun x => [.agg (grA false x.1), .agg (grA false x.2)], pre := fun x => x.1.notes.length < 2 ^ 62 ∧ x.2.notes.length < 2 ^ 62, Y := Unit, post := fun x y => True, res := fun x y => .bool (beqGr x.1 x.2), outs := fun x y => [.top, .top], keep := false }
theorem eqGr_vc (x : Gr × Gr) : vcFun Go.Proofs.Tryz.prog (Γof [(38, 0, s_eqInts)]) (Eof []) false (Lof ([])) Go.Proofs.Tryz.f68.ntmps Go.Proofs.Tryz.f68.results.toList (Go.Proofs.Tryz.f68.body.getD .skip) s_eqGr x = ((∀ (y : Unit), True → True ∧ True ∧ True ∧ True) ∧ ∃ (x_1 : List Int × List Int), (List.length x_1.fst < (9223372036854775808 : Nat) ∧ List.length x_1.snd < (9223372036854775808 : Nat)) ∧ AV.sl false (0 : Nat) (1 : Nat) Int intA x.fst.notes = AV.sl false (0 : Nat) (1 : Nat) Int intA x_1.fst ∧ AV.sl false (0 : Nat) (1 : Nat) Int intA x.snd.notes = AV.sl false (0 : Nat) (1 : Nat) Int intA x_1.snd ∧ ∀ (y : Unit), True → bcase (!x_1.fst == x_1.snd) (∃ (y : Unit), True ∧ false = beqGr x.fst x.snd ∧ True) (bcase (x.fst.member != x.snd.member) (∃ (y : Unit), True ∧ false = beqGr x.fst x.snd ∧ True) (∃ (y : Unit), True ∧ true = beqGr x.fst x.snd ∧ True))) := by kernel_rfl
theorem eqGr_ok  : Contract G Tryz.prog 68 s_eqGr :=
  vcFun_ok (Γ := Γof [(38, 0, s_eqInts)]) (E := Eof []) (ov := false) (L := fun x => Lof ([])) Tryz.func68 rfl (by decide) (Γof_ok (l := [(38, 0, s_eqInts)]) ⟨eqInts_ok, trivial⟩) fun (x : Gr × Gr) (hx : x.1.notes.length < 2 ^ 62 ∧ x.2.notes.length < 2 ^ 62) => (eqGr_vc  x).mpr (by
  obtain ⟨h1, h2⟩ := hx
  (repeat' first | with_reducible rfl | exact True.intro | refine inR_i64 ?_ ?_ | with_reducible refine And.intro ?_ ?_ | with_reducible refine bcase_dec (fun _ => ?_) (fun _ => ?_) | with_reducible refine bcase_bne (fun _ => ?_) (fun _ => ?_) | with_reducible refine bcase_beq (fun _ => ?_) (fun _ => ?_) | with_reducible refine bcase_not (fun _ => ?_) (fun _ => ?_) | refine bcase_intro (fun _ => ?_) (fun _ => ?_) | refine sl_eq ?_ | refine ex_flip () ?_ ?_ | (apply ex_flip6 <;> try dsimp only) | (apply ex_flip5 <;> try dsimp only) | (apply ex_flip4 <;> try dsimp only) | (apply ex_flip3 <;> try dsimp only) | (apply ex_flip2 <;> try dsimp only) | apply ex_flip | (refine Prod.forall.2 ?_; intro _; try dsimp only) | (intro _; try dsimp only)) <;> (try dsimp only at *) <;> (try simp only [i64max, List.length_cons, List.length_nil]) <;> (try omega)
  all_goals simp_all [beqGr]
  all_goals omega)

def lEqGrs (x : List Gr × List Gr) : LS := {
  ι := Int, inv := fun i => 0 ≤ i ∧ i ≤ x.1.length ∧ x.1.take i.toNat = x.2.take i.toNat, regs := fun i => [(0, grs x.1), (1, grs x.2), (5, .int .i64 i)], als := [], meas := fun i => x.1.length - i.toNat }
def s_eqGrs  : Sig := { X := List Gr × List Gr, args := fun x => [grs x.1, grs x.2], pre := fun x => smallGrs x.1 ∧ smallGrs x.2, Y := Unit, post := fun x y => True, res := fun x y => .bool (beqGrs x.1 x.2), outs := fun x y => [.top, .top], keep := false }
theorem eqGrs_vc (x : List Gr × List Gr) : vcFun Go.Proofs.Tryz.prog (Γof [(68, 0, s_eqGr)]) (Eof []) false (Lof ([(4,lEqGrs x)])) Go.Proofs.Tryz.f20.ntmps Go.Proofs.Tryz.f20.results.toList (Go.Proofs.Tryz.f20.body.getD .skip) s_eqGrs x = ((∀ (y : Unit), True → True ∧ True ∧ True ∧ True) ∧ bcase ((↑(List.length x.fst) : Int) != (↑(List.length x.snd) : Int)) (∃ (y : Unit), True ∧ false = beqGrs x.fst x.snd ∧ True) ((∃ (i : Int), ((0 : Int) ≤ i ∧ i ≤ (↑(List.length x.fst) : Int) ∧ List.take (Int.toNat i) x.fst = List.take (Int.toNat i) x.snd) ∧ (AV.sl false (0 : Nat) (2 : Nat) Gr (grA false) x.fst = AV.sl false (0 : Nat) (2 : Nat) Gr (grA false) x.fst ∧ AV.sl false (0 : Nat) (2 : Nat) Gr (grA false) x.snd = AV.sl false (0 : Nat) (2 : Nat) Gr (grA false) x.snd ∧ (0 : Int) = i ∧ True) ∧ True) ∧ ∀ (i : Int), (0 : Int) ≤ i ∧ i ≤ (↑(List.length x.fst) : Int) ∧ List.take (Int.toNat i) x.fst = List.take (Int.toNat i) x.snd → bcase (decide (i < (↑(List.length x.fst) : Int))) (true = true ∧ true = true ∧ ((0 : Int) ≤ i ∧ i < (↑(List.length x.fst) : Int)) ∧ ∀ (e : Gr), x.fst[Int.toNat i]? = some e → ((0 : Int) ≤ i ∧ i < (↑(List.length x.snd) : Int)) ∧ ∀ (e_1 : Gr), x.snd[Int.toNat i]? = some e_1 → ∃ (x_1 : Gr × Gr), (List.length x_1.fst.notes < (4611686018427387904 : Nat) ∧ List.length x_1.snd.notes < (4611686018427387904 : Nat)) ∧ AV.sl false (0 : Nat) (1 : Nat) Int intA e.notes = AV.sl false (0 : Nat) (1 : Nat) Int intA x_1.fst.notes ∧ e.member = x_1.fst.member ∧ AV.sl false (0 : Nat) (1 : Nat) Int intA e_1.notes = AV.sl false (0 : Nat) (1 : Nat) Int intA x_1.snd.notes ∧ e_1.member = x_1.snd.member ∧ ∃ (y0 : Unit), (∀ (y : Unit), True → AV.bool (beqGr x_1.fst x_1.snd) = AV.bool (beqGr x_1.fst x_1.snd)) ∧ true = true ∧ bcase (!beqGr x_1.fst x_1.snd) (∃ (y : Unit), True ∧ false = beqGrs x.fst x.snd ∧ True) (inR IntKind.i64 (i + (1 : Int)) ∧ ∃ (i' : Int), ((0 : Int) ≤ i' ∧ i' ≤ (↑(List.length x.fst) : Int) ∧ List.take (Int.toNat i') x.fst = List.take (Int.toNat i') x.snd) ∧ List.length x.fst - Int.toNat i' < List.length x.fst - Int.toNat i ∧ (AV.sl false (0 : Nat) (2 : Nat) Gr (grA false) x.fst = AV.sl false (0 : Nat) (2 : Nat) Gr (grA false) x.fst ∧ AV.sl false (0 : Nat) (2 : Nat) Gr (grA false) x.snd = AV.sl false (0 : Nat) (2 : Nat) Gr (grA false) x.snd ∧ i + (1 : Int) = i' ∧ True) ∧ True)) (∃ (y : Unit), True ∧ true = beqGrs x.fst x.snd ∧ True))) := by kernel_rfl
theorem eqGrs_ok  : Contract G Tryz.prog 20 s_eqGrs :=
  vcFun_ok (Γ := Γof [(68, 0, s_eqGr)]) (E := Eof []) (ov := false) (L := fun x => Lof ([(4,lEqGrs x)])) Tryz.func20 rfl (by decide) (Γof_ok (l := [(68, 0, s_eqGr)]) ⟨eqGr_ok, trivial⟩) fun (x : List Gr × List Gr) (hx : smallGrs x.1 ∧ smallGrs x.2) => (eqGrs_vc  x).mpr (by
  obtain ⟨h1, h2⟩ := hx; have hl1 := h1.1; have hl2 := h2.1
  (repeat' first | with_reducible rfl | exact True.intro | refine inR_i64 ?_ ?_ | with_reducible refine And.intro ?_ ?_ | with_reducible refine bcase_dec (fun _ => ?_) (fun _ => ?_) | with_reducible refine bcase_bne (fun _ => ?_) (fun _ => ?_) | with_reducible refine bcase_beq (fun _ => ?_) (fun _ => ?_) | with_reducible refine bcase_not (fun _ => ?_) (fun _ => ?_) | refine bcase_intro (fun _ => ?_) (fun _ => ?_) | refine sl_eq ?_ | refine ex_flip () ?_ ?_ | (apply ex_flip6 <;> try dsimp only) | (apply ex_flip5 <;> try dsimp only) | (apply ex_flip4 <;> try dsimp only) | (apply ex_flip3 <;> try dsimp only) | (apply ex_flip2 <;> try dsimp only) | apply ex_flip | (refine Prod.forall.2 ?_; intro _; try dsimp only) | (intro _; try dsimp only)) <;> (try dsimp only at *) <;> (try simp only [i64max, List.length_cons, List.length_nil]) <;> (try omega)
  · rename_i h; exact beqGrs_false (fun e => h (by rw [e]))
  · rfl
  · rename_i h i hi hl e he f hf hn
    exact beqGrs_false (fun e => by rw [e, hf] at he; rw [Option.some.inj he, beqGr_self] at hn; cases hn)
  · rename_i h i hi hl e he f hf hn
    exact takeEq hi.1 hi.2.2 he hf (beqGr_eq.1 hn)
  · rename_i h i hi hl e he f hf
    have := h1.2 _ (memE he); omega
  · rename_i h i hi hl e he f hf
    have := h2.2 _ (memE hf); omega
  · rename_i h i hi hl
    exact beqGrs_true (takeAll (by omega) hi.2.2 (by omega)))

theorem mk_len {k i : Int} {l : List Int} (h : 0 ≤ i ∧ i ≤ l.length) : (mkI k i.toNat ++ l.drop i.toNat).length = l.length := by rw [List.length_append, mkI_len, List.length_drop]; omega
theorem mk_set {k i : Int} {l : List Int} (h : 0 ≤ i ∧ i ≤ l.length) (hl : i < ((mkI k i.toNat ++ l.drop i.toNat).length : Int)) : (mkI k i.toNat ++ l.drop i.toNat).set i.toNat (k + i) = mkI k (i + 1).toNat ++ l.drop (i + 1).toNat := by
  rw [mk_len h] at hl
  have := @mkI_set k l i.toNat (by omega)
  rw [show ((i.toNat : Nat) : Int) = i by omega] at this
  rw [this, toNat1 h.1]
theorem mk_end {k i : Int} {l : List Int} (h : 0 ≤ i ∧ i ≤ l.length) (hl : ¬ i < ((mkI k i.toNat ++ l.drop i.toNat).length : Int)) : mkI k i.toNat ++ l.drop i.toNat = mkI k l.length := by
  rw [mk_len h] at hl
  exact mkI_full (by omega) (by omega)
theorem mk_end2 {k i : Int} {l : List Int} (h : 0 ≤ i ∧ i ≤ l.length) (hl : ¬ i < ((mkI k i.toNat ++ l.drop i.toNat).length : Int)) : k + i = k + l.length := by
  rw [mk_len h] at hl; omega
def s_markInts  : Sig := { X := List Int × Int, args := fun x => [oints x.1, .int .i64 x.2], pre := fun x => x.1.length ≤ 2 ^ 40 ∧ 0 ≤ x.2 ∧ x.2 ≤ 2 ^ 60, Y := Unit, post := fun x y => True, res := fun x y => .int .i64 (x.2 + x.1.length), outs := fun x y => [oints (mkI x.2 x.1.length), .top], keep := false, fixed := [0] }
theorem markInts_vc (x : List Int × Int) : vcFun Go.Proofs.Tryz.prog (Γof []) (Eof []) false (Lof ([(2,{ ι := Int, inv := fun i => 0 ≤ i ∧ i ≤ x.1.length, regs := fun i => [(0, oints (mkI x.2 i.toNat ++ x.1.drop i.toNat)), (1, .int .i64 (x.2 + i)), (5, .int .i64 i)], als := [], meas := fun i => x.1.length - i.toNat })])) Go.Proofs.Tryz.f39.ntmps Go.Proofs.Tryz.f39.results.toList (Go.Proofs.Tryz.f39.body.getD .skip) s_markInts x = ((∀ (y : Unit), True → True ∧ (∀ (x : Int), True ∧ True) ∧ True ∧ True) ∧ (∃ (i : Int), ((0 : Int) ≤ i ∧ i ≤ (↑(List.length x.fst) : Int)) ∧ (AV.sl true (0 : Nat) (1 : Nat) Int intA x.fst = AV.sl true (0 : Nat) (1 : Nat) Int intA (mkI x.snd (Int.toNat i) ++ List.drop (Int.toNat i) x.fst) ∧ x.snd = x.snd + i ∧ (0 : Int) = i ∧ True) ∧ True) ∧ ∀ (i : Int), (0 : Int) ≤ i ∧ i ≤ (↑(List.length x.fst) : Int) → bcase (decide (i < (↑(List.length (mkI x.snd (Int.toNat i) ++ List.drop (Int.toNat i) x.fst)) : Int))) (((0 : Int) ≤ i ∧ i < (↑(List.length (mkI x.snd (Int.toNat i) ++ List.drop (Int.toNat i) x.fst)) : Int)) ∧ Int.toNat i < List.length (mkI x.snd (Int.toNat i) ++ List.drop (Int.toNat i) x.fst) ∧ ∀ (x_1 : Int), (mkI x.snd (Int.toNat i) ++ List.drop (Int.toNat i) x.fst)[Int.toNat i]? = some x_1 → ∃ (x' : Int), ((@List.nil AV) = [] ∧ (@List.nil AV) = []) ∧ x.snd + i = x' ∧ inR IntKind.i64 (x.snd + i + (1 : Int)) ∧ inR IntKind.i64 (i + (1 : Int)) ∧ ∃ (i' : Int), ((0 : Int) ≤ i' ∧ i' ≤ (↑(List.length x.fst) : Int)) ∧ List.length x.fst - Int.toNat i' < List.length x.fst - Int.toNat i ∧ (AV.sl true (0 : Nat) (1 : Nat) Int intA (List.set (mkI x.snd (Int.toNat i) ++ List.drop (Int.toNat i) x.fst) (Int.toNat i) x') = AV.sl true (0 : Nat) (1 : Nat) Int intA (mkI x.snd (Int.toNat i') ++ List.drop (Int.toNat i') x.fst) ∧ x.snd + i + (1 : Int) = x.snd + i' ∧ i + (1 : Int) = i' ∧ True) ∧ True) (∃ (y : Unit), True ∧ x.snd + i = x.snd + (↑(List.length x.fst) : Int) ∧ AV.sl true (0 : Nat) (1 : Nat) Int intA (mkI x.snd (Int.toNat i) ++ List.drop (Int.toNat i) x.fst) = AV.sl true (0 : Nat) (1 : Nat) Int intA (mkI x.snd (List.length x.fst)) ∧ True)) := by kernel_rfl
theorem markInts_ok  : Contract G Tryz.prog 39 s_markInts :=
  vcFun_ok (Γ := Γof []) (E := Eof []) (ov := false) (L := fun x => Lof ([(2,{ ι := Int, inv := fun i => 0 ≤ i ∧ i ≤ x.1.length, regs := fun i => [(0, oints (mkI x.2 i.toNat ++ x.1.drop i.toNat)), (1, .int .i64 (x.2 + i)), (5, .int .i64 i)], als := [], meas := fun i => x.1.length - i.toNat })])) Tryz.func39 rfl (by decide) (Γof_ok (l := []) trivial) fun (x : List Int × Int) (hx : x.1.length ≤ 2 ^ 40 ∧ 0 ≤ x.2 ∧ x.2 ≤ 2 ^ 60) => (markInts_vc  x).mpr (by
  obtain ⟨h1, h2, h3⟩ := hx
  (repeat' first | with_reducible rfl | exact True.intro | refine inR_i64 ?_ ?_ | with_reducible refine And.intro ?_ ?_ | with_reducible refine bcase_dec (fun _ => ?_) (fun _ => ?_) | with_reducible refine bcase_bne (fun _ => ?_) (fun _ => ?_) | with_reducible refine bcase_beq (fun _ => ?_) (fun _ => ?_) | with_reducible refine bcase_not (fun _ => ?_) (fun _ => ?_) | refine bcase_intro (fun _ => ?_) (fun _ => ?_) | refine sl_eq ?_ | refine ex_flip () ?_ ?_ | (apply ex_flip6 <;> try dsimp only) | (apply ex_flip5 <;> try dsimp only) | (apply ex_flip4 <;> try dsimp only) | (apply ex_flip3 <;> try dsimp only) | (apply ex_flip2 <;> try dsimp only) | apply ex_flip | (refine Prod.forall.2 ?_; intro _; try dsimp only) | (intro _; try dsimp only))
  all_goals first
    | rfl
    | (simp [mkI]; done)
    | exact mk_set (by assumption) (by assumption)
    | exact mk_end (by assumption) (by assumption)
    | exact mk_end2 (by assumption) (by assumption)
    | ((try simp only [i64max]); omega)
    | (have hi := (show (0 : Int) ≤ _ ∧ _ ≤ (x.1.length : Int) by assumption); have hl := @mk_len x.2 _ x.1 hi; (try simp only [i64max]); omega)
    | skip)

def s_heldInts  : Sig := { X := List Int × Int, args := fun x => [ints x.1, .int .i64 x.2], pre := fun x => x.1 = mkI x.2 x.1.length ∧ x.1.length ≤ 2 ^ 40 ∧ 0 ≤ x.2 ∧ x.2 ≤ 2 ^ 60, Y := Unit, post := fun x y => True, res := fun x y => .int .i64 (x.2 + x.1.length), outs := fun x y => [.top, .top], keep := false }
theorem heldInts_vc (x : List Int × Int) : vcFun Go.Proofs.Tryz.prog (Γof []) (Eof []) false (Lof ([(2,{ ι := Int, inv := fun i => 0 ≤ i ∧ i ≤ x.1.length, regs := fun i => [(0, ints x.1), (1, .int .i64 (x.2 + i)), (5, .int .i64 i)], als := [], meas := fun i => x.1.length - i.toNat })])) Go.Proofs.Tryz.f60.ntmps Go.Proofs.Tryz.f60.results.toList (Go.Proofs.Tryz.f60.body.getD .skip) s_heldInts x = ((∀ (y : Unit), True → True ∧ True ∧ True ∧ True) ∧ (∃ (i : Int), ((0 : Int) ≤ i ∧ i ≤ (↑(List.length x.fst) : Int)) ∧ (AV.sl false (0 : Nat) (1 : Nat) Int intA x.fst = AV.sl false (0 : Nat) (1 : Nat) Int intA x.fst ∧ x.snd = x.snd + i ∧ (0 : Int) = i ∧ True) ∧ True) ∧ ∀ (i : Int), (0 : Int) ≤ i ∧ i ≤ (↑(List.length x.fst) : Int) → bcase (decide (i < (↑(List.length x.fst) : Int))) (((0 : Int) ≤ i ∧ i < (↑(List.length x.fst) : Int)) ∧ ∀ (e : Int), x.fst[Int.toNat i]? = some e → bcase (e != x.snd + i) (∃ (y : Unit), True ∧ (-1 : Int) = x.snd + (↑(List.length x.fst) : Int) ∧ True) (inR IntKind.i64 (x.snd + i + (1 : Int)) ∧ inR IntKind.i64 (i + (1 : Int)) ∧ ∃ (i' : Int), ((0 : Int) ≤ i' ∧ i' ≤ (↑(List.length x.fst) : Int)) ∧ List.length x.fst - Int.toNat i' < List.length x.fst - Int.toNat i ∧ (AV.sl false (0 : Nat) (1 : Nat) Int intA x.fst = AV.sl false (0 : Nat) (1 : Nat) Int intA x.fst ∧ x.snd + i + (1 : Int) = x.snd + i' ∧ i + (1 : Int) = i' ∧ True) ∧ True)) (∃ (y : Unit), True ∧ x.snd + i = x.snd + (↑(List.length x.fst) : Int) ∧ True)) := by kernel_rfl
theorem heldInts_ok  : Contract G Tryz.prog 60 s_heldInts :=
  vcFun_ok (Γ := Γof []) (E := Eof []) (ov := false) (L := fun x => Lof ([(2,{ ι := Int, inv := fun i => 0 ≤ i ∧ i ≤ x.1.length, regs := fun i => [(0, ints x.1), (1, .int .i64 (x.2 + i)), (5, .int .i64 i)], als := [], meas := fun i => x.1.length - i.toNat })])) Tryz.func60 rfl (by decide) (Γof_ok (l := []) trivial) fun (x : List Int × Int) (hx : x.1 = mkI x.2 x.1.length ∧ x.1.length ≤ 2 ^ 40 ∧ 0 ≤ x.2 ∧ x.2 ≤ 2 ^ 60) => (heldInts_vc  x).mpr (by
  obtain ⟨h0, h1, h2, h3⟩ := hx
  have hat : ∀ {i v : Int}, 0 ≤ i → x.1[i.toNat]? = some v → v = x.2 + i := by
    intro i v hi hv
    have hl := (getE hv).1
    rw [h0, mkI_at hl] at hv
    simp only [Option.some.injEq] at hv; omega
  (repeat' first | with_reducible rfl | exact True.intro | refine inR_i64 ?_ ?_ | with_reducible refine And.intro ?_ ?_ | with_reducible refine bcase_dec (fun _ => ?_) (fun _ => ?_) | with_reducible refine bcase_bne (fun _ => ?_) (fun _ => ?_) | with_reducible refine bcase_beq (fun _ => ?_) (fun _ => ?_) | with_reducible refine bcase_not (fun _ => ?_) (fun _ => ?_) | refine bcase_intro (fun _ => ?_) (fun _ => ?_) | refine sl_eq ?_ | refine ex_flip () ?_ ?_ | (apply ex_flip6 <;> try dsimp only) | (apply ex_flip5 <;> try dsimp only) | (apply ex_flip4 <;> try dsimp only) | (apply ex_flip3 <;> try dsimp only) | (apply ex_flip2 <;> try dsimp only) | apply ex_flip | (refine Prod.forall.2 ?_; intro _; try dsimp only) | (intro _; try dsimp only))
  all_goals try (have hv := hat (show 0 ≤ _ from And.left (by assumption)) (by assumption))
  all_goals first
    | rfl
    | ((try simp only [i64max]); omega)
    | skip)

def mkB (l : List Gr) : Prop := l.length ≤ 12 ∧ ∀ g ∈ l, g.notes.length ≤ 12
theorem mkB_tot {l : List Gr} {i : Nat} (h : mkB l) : 0 ≤ totG (l.take i) ∧ totG (l.take i) ≤ 200 := by
  have := @totG_bd (l.take i) 12 fun g hg => h.2 g (List.mem_of_mem_take hg)
  have h2 : (l.take i).length ≤ 12 := by rw [List.length_take]; have := h.1; omega
  omega
def mgI (l : List Gr) (i : Int) : Prop := mkB l ∧ 0 ≤ i ∧ i ≤ l.length
theorem mgI_len {k i : Int} {l : List Gr} (h : mgI l i) : (mkGs k (l.take i.toNat) ++ l.drop i.toNat).length = l.length := by
  obtain ⟨_, h1, h2⟩ := h
  rw [List.length_append, mkGs_len, List.length_take, List.length_drop]; omega
theorem mgI_at {k i : Int} {l : List Gr} {g : Gr} (h : mgI l i) (hg : (mkGs k (l.take i.toNat) ++ l.drop i.toNat)[i.toNat]? = some g) : l[i.toNat]? = some g := by
  have hlt := (getE hg).1
  rw [mgI_len h] at hlt
  have hl : (mkGs k (l.take i.toNat)).length = i.toNat := by rw [mkGs_len, List.length_take]; omega
  rw [List.getElem?_append_right (by omega), hl, Nat.sub_self] at hg
  simpa using hg
theorem mgI_g {k i : Int} {l : List Gr} {g : Gr} (h : mgI l i) (hg : (mkGs k (l.take i.toNat) ++ l.drop i.toNat)[i.toNat]? = some g) : g.notes.length ≤ 12 := h.1.2 g (memE (mgI_at h hg))
theorem mg_set1 {l : List Gr} {i : Nat} {a b : Gr} (h : i < l.length) : (l.set i a)[i]? = some b ↔ a = b := by
  rw [List.getElem?_set_self h]; simp
theorem mg_set2 {l : List Gr} {i : Nat} {a b : Gr} : (l.set i a).set i b = l.set i b := List.set_set ..
theorem mg_step {k i : Int} {l : List Gr} {g b : Gr} (h : mgI l i) (hg : (mkGs k (l.take i.toNat) ++ l.drop i.toNat)[i.toNat]? = some g) (hb : b = mkG (k + totG (l.take i.toNat)) g) :
    (mkGs k (l.take i.toNat) ++ l.drop i.toNat).set i.toNat b = mkGs k (l.take (i + 1).toNat) ++ l.drop (i + 1).toNat := by
  rw [hb, mkGs_set (mgI_at h hg), toNat1 h.2.1]
theorem mg_tot {k i : Int} {l : List Gr} {g : Gr} (h : mgI l i) (hg : (mkGs k (l.take i.toNat) ++ l.drop i.toNat)[i.toNat]? = some g) : k + totG (l.take i.toNat) + g.notes.length + 1 = k + totG (l.take (i + 1).toNat) := by
  rw [toNat1 h.2.1, takeE (mgI_at h hg), totG_snoc]; omega
theorem mg_end {k i : Int} {l : List Gr} (h : mgI l i) (hl : ¬ i < ((mkGs k (l.take i.toNat) ++ l.drop i.toNat).length : Int)) : mkGs k (l.take i.toNat) ++ l.drop i.toNat = mkGs k l ∧ k + totG (l.take i.toNat) = k + totG l := by
  rw [mgI_len h] at hl
  rw [List.take_of_length_le (by omega), List.drop_eq_nil_of_le (by omega)]; simp
theorem mg_set2' {k i : Int} {l : List Gr} {g b c : Gr} (h : mgI l i) (hg : (mkGs k (l.take i.toNat) ++ l.drop i.toNat)[i.toNat]? = some g) (hb : b = mkG (k + totG (l.take i.toNat)) g) :
    ((mkGs k (l.take i.toNat) ++ l.drop i.toNat).set i.toNat c).set i.toNat b = mkGs k (l.take (i + 1).toNat) ++ l.drop (i + 1).toNat := by
  rw [mg_set2]; exact mg_step h hg hb
theorem mg_set3 {k i : Int} {l : List Gr} {g c b : Gr} (h : mgI l i) (hg : (mkGs k (l.take i.toNat) ++ l.drop i.toNat)[i.toNat]? = some g) (hb : ((mkGs k (l.take i.toNat) ++ l.drop i.toNat).set i.toNat c)[i.toNat]? = some b) : c = b :=
  (mg_set1 (getE hg).1).1 hb
theorem mgI_tot {i : Int} {l : List Gr} (h : mgI l i) : 0 ≤ totG (l.take i.toNat) ∧ totG (l.take i.toNat) ≤ 200 := mkB_tot h.1
def lMkGrs (x : List Gr × Int) : LS := {
  ι := Int, inv := mgI x.1, regs := fun i => [(0, ogrs (mkGs x.2 (x.1.take i.toNat) ++ x.1.drop i.toNat)), (1, .int .i64 (x.2 + totG (x.1.take i.toNat))), (5, .int .i64 i)], als := [], meas := fun i => x.1.length - i.toNat }
def s_markGrs  : Sig := { X := List Gr × Int, args := fun x => [ogrs x.1, .int .i64 x.2], pre := fun x => mkB x.1 ∧ 0 ≤ x.2 ∧ x.2 ≤ 2 ^ 50, Y := Unit, post := fun x y => True, res := fun x y => .int .i64 (x.2 + totG x.1), outs := fun x y => [ogrs (mkGs x.2 x.1), .top], keep := false, fixed := [0] }
theorem markGrs_vc (x : List Gr × Int) : vcFun Go.Proofs.Tryz.prog (Γof [(39, 0, s_markInts)]) (Eof []) false (Lof ([(2,lMkGrs x)])) Go.Proofs.Tryz.f21.ntmps Go.Proofs.Tryz.f21.results.toList (Go.Proofs.Tryz.f21.body.getD .skip) s_markGrs x = ((∀ (y : Unit), True → True ∧ (∀ (x : Gr), (∀ (x : Int), True ∧ True) ∧ True ∧ True) ∧ True ∧ True) ∧ (∃ (i : Int), mgI x.fst i ∧ (AV.sl true (0 : Nat) (2 : Nat) Gr (grA true) x.fst = AV.sl true (0 : Nat) (2 : Nat) Gr (grA true) (mkGs x.snd (List.take (Int.toNat i) x.fst) ++ List.drop (Int.toNat i) x.fst) ∧ x.snd = x.snd + totG (List.take (Int.toNat i) x.fst) ∧ (0 : Int) = i ∧ True) ∧ True) ∧ ∀ (i : Int), mgI x.fst i → bcase (decide (i < (↑(List.length (mkGs x.snd (List.take (Int.toNat i) x.fst) ++ List.drop (Int.toNat i) x.fst)) : Int))) (((0 : Int) ≤ i ∧ i < (↑(List.length (mkGs x.snd (List.take (Int.toNat i) x.fst) ++ List.drop (Int.toNat i) x.fst)) : Int)) ∧ Int.toNat i < List.length (mkGs x.snd (List.take (Int.toNat i) x.fst) ++ List.drop (Int.toNat i) x.fst) ∧ ∀ (z : Gr), (mkGs x.snd (List.take (Int.toNat i) x.fst) ++ List.drop (Int.toNat i) x.fst)[Int.toNat i]? = some z → ∃ (x_1 : List Int × Int), (List.length x_1.fst ≤ (1099511627776 : Nat) ∧ (0 : Int) ≤ x_1.snd ∧ x_1.snd ≤ (2 : Int) ^ (60 : Nat)) ∧ AV.sl true (0 : Nat) (1 : Nat) Int intA z.notes = AV.sl true (0 : Nat) (1 : Nat) Int intA x_1.fst ∧ x.snd + totG (List.take (Int.toNat i) x.fst) = x_1.snd ∧ ∀ (y : Unit), True → ∃ (z' : Gr), [AV.sl true (0 : Nat) (1 : Nat) Int intA z'.notes, AV.int IntKind.i64 z'.member] = [AV.sl true (0 : Nat) (1 : Nat) Int intA (mkI x_1.snd (List.length x_1.fst)), AV.int IntKind.i64 z.member] ∧ ((0 : Int) ≤ i ∧ i < (↑(List.length (List.set (mkGs x.snd (List.take (Int.toNat i) x.fst) ++ List.drop (Int.toNat i) x.fst) (Int.toNat i) z')) : Int)) ∧ Int.toNat i < List.length (List.set (mkGs x.snd (List.take (Int.toNat i) x.fst) ++ List.drop (Int.toNat i) x.fst) (Int.toNat i) z') ∧ ∀ (x_2 : Gr), (List.set (mkGs x.snd (List.take (Int.toNat i) x.fst) ++ List.drop (Int.toNat i) x.fst) (Int.toNat i) z')[Int.toNat i]? = some x_2 → ∃ (x' : Gr), ([AV.sl true (0 : Nat) (1 : Nat) Int intA x'.notes] = [AV.sl true (0 : Nat) (1 : Nat) Int intA x_2.notes] ∧ (@List.nil AV) = []) ∧ x_1.snd + (↑(List.length x_1.fst) : Int) = x'.member ∧ inR IntKind.i64 (x_1.snd + (↑(List.length x_1.fst) : Int) + (1 : Int)) ∧ inR IntKind.i64 (i + (1 : Int)) ∧ ∃ (i' : Int), mgI x.fst i' ∧ List.length x.fst - Int.toNat i' < List.length x.fst - Int.toNat i ∧ (AV.sl true (0 : Nat) (2 : Nat) Gr (grA true) (List.set (List.set (mkGs x.snd (List.take (Int.toNat i) x.fst) ++ List.drop (Int.toNat i) x.fst) (Int.toNat i) z') (Int.toNat i) x') = AV.sl true (0 : Nat) (2 : Nat) Gr (grA true) (mkGs x.snd (List.take (Int.toNat i') x.fst) ++ List.drop (Int.toNat i') x.fst) ∧ x_1.snd + (↑(List.length x_1.fst) : Int) + (1 : Int) = x.snd + totG (List.take (Int.toNat i') x.fst) ∧ i + (1 : Int) = i' ∧ True) ∧ True) (∃ (y : Unit), True ∧ x.snd + totG (List.take (Int.toNat i) x.fst) = x.snd + totG x.fst ∧ AV.sl true (0 : Nat) (2 : Nat) Gr (grA true) (mkGs x.snd (List.take (Int.toNat i) x.fst) ++ List.drop (Int.toNat i) x.fst) = AV.sl true (0 : Nat) (2 : Nat) Gr (grA true) (mkGs x.snd x.fst) ∧ True)) := by kernel_rfl
theorem markGrs_ok  : Contract G Tryz.prog 21 s_markGrs :=
  vcFun_ok (Γ := Γof [(39, 0, s_markInts)]) (E := Eof []) (ov := false) (L := fun x => Lof ([(2,lMkGrs x)])) Tryz.func21 rfl (by decide) (Γof_ok (l := [(39, 0, s_markInts)]) ⟨markInts_ok, trivial⟩) fun (x : List Gr × Int) (hx : mkB x.1 ∧ 0 ≤ x.2 ∧ x.2 ≤ 2 ^ 50) => (markGrs_vc  x).mpr (by
  obtain ⟨h1, h2, h3⟩ := hx
  (repeat' first | refine ex_gr (mkI _ _) _ rfl ?_ | refine ex_gr2 _ _ ⟨rfl, ?_⟩ ⟨rfl, rfl⟩ | with_reducible rfl | exact True.intro | refine inR_i64 ?_ ?_ | with_reducible refine And.intro ?_ ?_ | with_reducible refine bcase_dec (fun _ => ?_) (fun _ => ?_) | with_reducible refine bcase_bne (fun _ => ?_) (fun _ => ?_) | with_reducible refine bcase_beq (fun _ => ?_) (fun _ => ?_) | with_reducible refine bcase_not (fun _ => ?_) (fun _ => ?_) | refine bcase_intro (fun _ => ?_) (fun _ => ?_) | refine sl_eq ?_ | refine ex_flip () ?_ ?_ | (apply ex_flip6 <;> try dsimp only) | (apply ex_flip5 <;> try dsimp only) | (apply ex_flip4 <;> try dsimp only) | (apply ex_flip3 <;> try dsimp only) | (apply ex_flip2 <;> try dsimp only) | apply ex_flip | (refine Prod.forall.2 ?_; intro _; try dsimp only) | (intro _; try dsimp only))
  all_goals try (have e := mg_set3 (show mgI _ _ by assumption) (show (mkGs _ _ ++ _)[Int.toNat _]? = some _ by assumption) (show (List.set _ _ _)[_]? = some _ by assumption); subst e)
  all_goals first
    | rfl
    | exact ⟨h1, by omega, by omega⟩
    | (simp [totG, mkGs]; done)
    | exact (show mgI _ _ by assumption).2.1
    | exact mg_tot (by assumption) (by assumption)
    | exact (mg_end (by assumption) (by assumption)).1
    | exact (mg_end (by assumption) (by assumption)).2
    | exact mg_set2' (by assumption) (by assumption) rfl
    | (have hi := (show mgI _ _ by assumption); have hl := @mgI_len x.2 _ x.1 hi; exact ⟨h1, by have := hi.2.1; omega, by have := hi.2.2; omega⟩)
    | (have hi := (show mgI _ _ by assumption); have hl := @mgI_len x.2 _ x.1 hi; have hg := mgI_g hi (show (mkGs _ _ ++ _)[Int.toNat _]? = some _ by assumption); (try dsimp only); omega)
    | (have hi := (show mgI _ _ by assumption); have hl := @mgI_len x.2 _ x.1 hi; have ht := mgI_tot hi; have := hi.2.1; have := hi.2.2; have hg := mgI_g hi (show (mkGs _ _ ++ _)[Int.toNat _]? = some _ by assumption); (try rw [List.length_set]); (try simp only [i64max]); omega)
    | (have hi := (show mgI _ _ by assumption); have hl := @mgI_len x.2 _ x.1 hi; have := hi.2.1; have := hi.2.2; have := h1.1; (try rw [List.length_set]); (try simp only [i64max]); omega)
    | skip)

def hgI (k : Int) (l : List Gr) (i : Int) : Prop := (mkB l ∧ l = mkGs k l) ∧ 0 ≤ i ∧ i ≤ l.length
theorem hgI_at {k i : Int} {l : List Gr} {g : Gr} (h : hgI k l i) (hg : l[i.toNat]? = some g) : g = mkG (k + totG (l.take i.toNat)) g := by
  have h1 : (mkGs k l)[i.toNat]? = some g := by rw [← h.1.2]; exact hg
  have h2 := mkGs_at (k := k) hg
  rw [h1] at h2; exact Option.some.inj h2
theorem hgI_1 {k i : Int} {l : List Gr} {g : Gr} (h : hgI k l i) (hg : l[i.toNat]? = some g) : g.notes = mkI (k + totG (l.take i.toNat)) g.notes.length ∧ g.member = k + totG (l.take i.toNat) + g.notes.length := by
  have h2 := hgI_at h hg
  have h3 := congrArg Gr.notes h2; have h4 := congrArg Gr.member h2
  exact ⟨h3, h4⟩
theorem hgI_tot {k i : Int} {l : List Gr} {g : Gr} (h : hgI k l i) (hg : l[i.toNat]? = some g) : k + totG (l.take i.toNat) + g.notes.length + 1 = k + totG (l.take (i + 1).toNat) := by
  rw [toNat1 h.2.1, takeE hg, totG_snoc]; omega
theorem hgI_bd {k i : Int} {l : List Gr} (h : hgI k l i) : (0 ≤ totG (l.take i.toNat) ∧ totG (l.take i.toNat) ≤ 200) ∧ l.length ≤ 12 := ⟨mkB_tot h.1.1, h.1.1.1⟩
theorem hgI_nt {k i : Int} {l : List Gr} {g : Gr} (h : hgI k l i) (hg : l[i.toNat]? = some g) : g.notes.length ≤ 12 := h.1.1.2 g (memE hg)
theorem hgI_end {k i : Int} {l : List Gr} (h : hgI k l i) (hl : ¬ i < l.length) : k + totG (l.take i.toNat) = k + totG l := by
  rw [List.take_of_length_le (by have := h.2.2; omega)]
def lHdGrs (x : List Gr × Int) : LS := {
  ι := Int, inv := hgI x.2 x.1, regs := fun i => [(0, grs x.1), (1, .int .i64 (x.2 + totG (x.1.take i.toNat))), (5, .int .i64 i)], als := [], meas := fun i => x.1.length - i.toNat }
def s_heldGrs  : Sig := { X := List Gr × Int, args := fun x => [grs x.1, .int .i64 x.2], pre := fun x => (mkB x.1 ∧ x.1 = mkGs x.2 x.1) ∧ 0 ≤ x.2 ∧ x.2 ≤ 2 ^ 50, Y := Unit, post := fun x y => True, res := fun x y => .int .i64 (x.2 + totG x.1), outs := fun x y => [.top, .top], keep := false }
theorem heldGrs_vc (x : List Gr × Int) : vcFun Go.Proofs.Tryz.prog (Γof [(60, 0, s_heldInts)]) (Eof []) false (Lof ([(2,lHdGrs x)])) Go.Proofs.Tryz.f22.ntmps Go.Proofs.Tryz.f22.results.toList (Go.Proofs.Tryz.f22.body.getD .skip) s_heldGrs x = ((∀ (y : Unit), True → True ∧ True ∧ True ∧ True) ∧ (∃ (i : Int), hgI x.snd x.fst i ∧ (AV.sl false (0 : Nat) (2 : Nat) Gr (grA false) x.fst = AV.sl false (0 : Nat) (2 : Nat) Gr (grA false) x.fst ∧ x.snd = x.snd + totG (List.take (Int.toNat i) x.fst) ∧ (0 : Int) = i ∧ True) ∧ True) ∧ ∀ (i : Int), hgI x.snd x.fst i → bcase (decide (i < (↑(List.length x.fst) : Int))) (((0 : Int) ≤ i ∧ i < (↑(List.length x.fst) : Int)) ∧ ∀ (e : Gr), x.fst[Int.toNat i]? = some e → ∃ (x_1 : List Int × Int), (x_1.fst = mkI x_1.snd (List.length x_1.fst) ∧ List.length x_1.fst ≤ (1099511627776 : Nat) ∧ (0 : Int) ≤ x_1.snd ∧ x_1.snd ≤ (2 : Int) ^ (60 : Nat)) ∧ AV.sl false (0 : Nat) (1 : Nat) Int intA e.notes = AV.sl false (0 : Nat) (1 : Nat) Int intA x_1.fst ∧ x.snd + totG (List.take (Int.toNat i) x.fst) = x_1.snd ∧ ∀ (y : Unit), True → bcase (decide (x_1.snd + (↑(List.length x_1.fst) : Int) < (0 : Int))) (∃ (y : Unit), True ∧ (-1 : Int) = x.snd + totG x.fst ∧ True) (((0 : Int) ≤ i ∧ i < (↑(List.length x.fst) : Int)) ∧ ∀ (e : Gr), x.fst[Int.toNat i]? = some e → bcase (e.member != x_1.snd + (↑(List.length x_1.fst) : Int)) (∃ (y : Unit), True ∧ (-1 : Int) = x.snd + totG x.fst ∧ True) (inR IntKind.i64 (x_1.snd + (↑(List.length x_1.fst) : Int) + (1 : Int)) ∧ inR IntKind.i64 (i + (1 : Int)) ∧ ∃ (i' : Int), hgI x.snd x.fst i' ∧ List.length x.fst - Int.toNat i' < List.length x.fst - Int.toNat i ∧ (AV.sl false (0 : Nat) (2 : Nat) Gr (grA false) x.fst = AV.sl false (0 : Nat) (2 : Nat) Gr (grA false) x.fst ∧ x_1.snd + (↑(List.length x_1.fst) : Int) + (1 : Int) = x.snd + totG (List.take (Int.toNat i') x.fst) ∧ i + (1 : Int) = i' ∧ True) ∧ True))) (∃ (y : Unit), True ∧ x.snd + totG (List.take (Int.toNat i) x.fst) = x.snd + totG x.fst ∧ True)) := by kernel_rfl
theorem heldGrs_ok  : Contract G Tryz.prog 22 s_heldGrs :=
  vcFun_ok (Γ := Γof [(60, 0, s_heldInts)]) (E := Eof []) (ov := false) (L := fun x => Lof ([(2,lHdGrs x)])) Tryz.func22 rfl (by decide) (Γof_ok (l := [(60, 0, s_heldInts)]) ⟨heldInts_ok, trivial⟩) fun (x : List Gr × Int) (hx : (mkB x.1 ∧ x.1 = mkGs x.2 x.1) ∧ 0 ≤ x.2 ∧ x.2 ≤ 2 ^ 50) => (heldGrs_vc  x).mpr (by
  obtain ⟨h1, h2, h3⟩ := hx
  (repeat' first | with_reducible rfl | exact True.intro | refine inR_i64 ?_ ?_ | with_reducible refine And.intro ?_ ?_ | with_reducible refine bcase_dec (fun _ => ?_) (fun _ => ?_) | with_reducible refine bcase_bne (fun _ => ?_) (fun _ => ?_) | with_reducible refine bcase_beq (fun _ => ?_) (fun _ => ?_) | with_reducible refine bcase_not (fun _ => ?_) (fun _ => ?_) | refine bcase_intro (fun _ => ?_) (fun _ => ?_) | refine sl_eq ?_ | refine ex_flip () ?_ ?_ | (apply ex_flip6 <;> try dsimp only) | (apply ex_flip5 <;> try dsimp only) | (apply ex_flip4 <;> try dsimp only) | (apply ex_flip3 <;> try dsimp only) | (apply ex_flip2 <;> try dsimp only) | apply ex_flip | (refine Prod.forall.2 ?_; intro _; try dsimp only) | (intro _; try dsimp only))
  all_goals (repeat (rename x.1[Int.toNat _]? = some _ => hq; revert hq; rename x.1[Int.toNat _]? = some _ => hr; intro hq; rw [hr] at hq; cases hq))
  all_goals first
    | rfl
    | exact ⟨h1, by omega, by omega⟩
    | (simp [totG]; done)
    | exact (show hgI _ _ _ by assumption).2.1
    | exact hgI_tot (by assumption) (by assumption)
    | exact hgI_end (by assumption) (by assumption)
    | exact (hgI_1 (by assumption) (by assumption)).1
    | (have hi := (show hgI _ _ _ by assumption); exact ⟨h1, by have := hi.2.1; omega, by have := hi.2.2; omega⟩)
    | (have hi := (show hgI _ _ _ by assumption); have hb := hgI_bd hi; have := hi.2.1; have := hi.2.2; (try simp only [i64max]); omega)
    | (have hi := (show hgI _ _ _ by assumption); have hb := hgI_bd hi; have hn := hgI_nt hi (by assumption); have hm := (hgI_1 hi (by assumption)).2; have := hi.2.1; have := hi.2.2; (try simp only [i64max]); omega)
    | skip)

theorem gText {l : List Nd} (h : ¬ szNds l 1048576 < 0) {e : Nd} (he : e ∈ l) : e.text.length ≤ 1099511627776 := by have := gB2 h he; omega
end Go.My
end
section
/- Marks of nodes. -/
set_option linter.unusedVariables false
set_option linter.unusedSimpArgs false
namespace Go.My
open Go.Eng Go.Proofs
variable {G : GInv}

/- marks of nodes: what they are does not matter -/
def digs : Nat → Nat → List UInt8
  | 0, _ => []
  | n + 1, k => if k = 0 then [] else digs n (k / 10) ++ [UInt8.ofNat (48 + k % 10)]
def mText (k : Int) : List UInt8 := if k ≤ 0 then [109, 48] else 109 :: digs 64 k.toNat
theorem digs_len : ∀ {n k : Nat}, (digs n k).length ≤ n
  | 0, k => Nat.le_refl _
  | n + 1, k => by
    unfold digs; split
    · simp
    · have := @digs_len n (k / 10); simp; omega
theorem digs_eq : ∀ {n m k : Nat}, k < 10 ^ n → k < 10 ^ m → digs n k = digs m k
  | 0, 0, k, _, _ => rfl
  | 0, m + 1, k, h, _ => by
    have : k = 0 := by simp at h; exact h
    subst this; simp [digs]
  | n + 1, 0, k, _, h => by
    have : k = 0 := by simp at h; exact h
    subst this; simp [digs]
  | n + 1, m + 1, k, h1, h2 => by
    simp only [digs]
    split
    · rfl
    · rw [digs_eq (n := n) (m := m) (by rw [Nat.pow_succ] at h1; omega) (by rw [Nat.pow_succ] at h2; omega)]
def mdI (k0 k : Int) (out : List UInt8) : Prop := (0 ≤ k ∧ k ≤ k0 ∧ k0 ≤ 2 ^ 60) ∧ digs 64 k.toNat ++ out = digs 64 k0.toNat
theorem mdI_init {k : Int} (h : ¬ k ≤ 0) (h2 : k ≤ 2 ^ 60) : mdI k k [] := ⟨by omega, by simp⟩
theorem mdI_next {k0 k : Int} {out : List UInt8} {c : UInt8} (h : mdI k0 k out) (hk : k > 0) (hc : 48 + k.tmod 10 = (c.toNat : Int)) : mdI k0 (k.tdiv 10) ([c] ++ out) := by
  obtain ⟨h1, h2⟩ := h
  have e1 : k.tdiv 10 = k / 10 := Int.tdiv_eq_ediv_of_nonneg (by omega)
  have e2 : k.tmod 10 = k % 10 := Int.tmod_eq_emod_of_nonneg (by omega)
  rw [e1]; rw [e2] at hc
  refine ⟨by omega, ?_⟩
  rw [← h2]
  have e3 : (k / 10).toNat = k.toNat / 10 := by omega
  have e4 : c = UInt8.ofNat (48 + k.toNat % 10) := by
    apply UInt8.toNat_inj.1
    have : (48 + k.toNat % 10) % 256 = 48 + k.toNat % 10 := by omega
    simp; omega
  have e5 : digs 64 k.toNat = digs 63 (k.toNat / 10) ++ [UInt8.ofNat (48 + k.toNat % 10)] := by
    rw [digs, if_neg (by omega)]
  rw [e3, e5, e4, digs_eq (n := 64) (m := 63) (by omega) (by omega)]; simp
theorem mdI_done {k0 k : Int} {out : List UInt8} (h : mdI k0 k out) (hk : ¬ k > 0) : out = digs 64 k0.toNat := by
  obtain ⟨h1, h2⟩ := h
  obtain rfl : k = 0 := by omega
  rw [← h2]; simp [digs]
theorem mdI_len {k0 k : Int} {out : List UInt8} (h : mdI k0 k out) : out.length ≤ 64 := by
  have := congrArg List.length h.2
  have h2 := @digs_len 64 k0.toNat
  simp at this; omega
theorem mdI_0 {k0 k : Int} {out : List UInt8} (h : mdI k0 k out) (hk : k > 0) : 0 ≤ k.tmod 10 ∧ k.tmod 10 < 10 ∧ 0 ≤ k.tdiv 10 ∧ k.tdiv 10 < k ∧ k ≤ 2 ^ 60 := by
  have e1 : k.tdiv 10 = k / 10 := Int.tdiv_eq_ediv_of_nonneg (by omega)
  have e2 : k.tmod 10 = k % 10 := Int.tmod_eq_emod_of_nonneg (by omega)
  have := h.1
  rw [e1, e2]; omega
theorem inR_u8 {n : Int} (h1 : 0 ≤ n) (h2 : n ≤ 255) : inR .u8 n := by
  unfold inR; simp [IntKind.min, IntKind.max, IntKind.bits, IntKind.signed]; omega
theorem u8_of {n : Int} (h0 : 0 ≤ n) (h1 : n < 256) : ∃ c : UInt8, n = (c.toNat : Int) := ⟨UInt8.ofNat n.toNat, by
  have : n.toNat % 256 = n.toNat := by omega
  simp; omega⟩
theorem ex_u8 {n : Int} {q : UInt8 → Prop} (h0 : 0 ≤ n) (h1 : n < 256) (h : ∀ c : UInt8, n = (c.toNat : Int) → q c) : ∃ c : UInt8, n = (c.toNat : Int) ∧ q c := by
  obtain ⟨c, hc⟩ := u8_of h0 h1
  exact ⟨c, hc, h c hc⟩
def s_markText  : Sig := { X := Int, args := fun x => [.int .i64 x], pre := fun x => x ≤ 2 ^ 60, Y := Unit, post := fun x y => True, res := fun x y => .str (mText x), outs := fun x y => [.top], keep := false }
theorem markText_vc (x : Int) : vcFun Go.Proofs.Tryz.prog (Γof []) (Eof [(135, ⟨UInt8,bytA⟩)]) false (Lof ([(4,{ ι := Int × List UInt8, inv := fun i => mdI x i.1 i.2, regs := fun i => [(0, .int .i64 i.1), (3, .str i.2)], als := [], meas := fun i => i.1.toNat })])) Go.Proofs.Tryz.f59.ntmps Go.Proofs.Tryz.f59.results.toList (Go.Proofs.Tryz.f59.body.getD .skip) s_markText x = ((∀ (y : Unit), True → True ∧ True ∧ True) ∧ bcase (decide (x ≤ (0 : Int))) (∃ (y : Unit), True ∧ #[(109 : UInt8), (48 : UInt8)].toList = mText x ∧ True) ((∃ (i : Int × List UInt8), mdI x i.fst i.snd ∧ (x = i.fst ∧ #[].toList = i.snd ∧ True) ∧ True) ∧ ∀ (i : Int × List UInt8), mdI x i.fst i.snd → bcase (decide (i.fst > (0 : Int))) ((10 : Int) ≠ (0 : Int) ∧ inR IntKind.i64 ((48 : Int) + Int.tmod i.fst (10 : Int)) ∧ inR IntKind.u8 ((48 : Int) + Int.tmod i.fst (10 : Int)) ∧ ∃ (x_1 : UInt8), (48 : Int) + Int.tmod i.fst (10 : Int) = (↑(UInt8.toNat x_1) : Int) ∧ ∃ (l : List UInt8), AV.sl false (0 : Nat) (1 : Nat) UInt8 bytA [x_1] = AV.sl false (0 : Nat) (1 : Nat) UInt8 bytA l ∧ (↑(List.length l + List.length i.snd) : Int) ≤ IntKind.max IntKind.i64 ∧ (10 : Int) ≠ (0 : Int) ∧ inR IntKind.i64 (Int.tdiv i.fst (10 : Int)) ∧ ∃ (i' : Int × List UInt8), mdI x i'.fst i'.snd ∧ Int.toNat i'.fst < Int.toNat i.fst ∧ (Int.tdiv i.fst (10 : Int) = i'.fst ∧ l ++ i.snd = i'.snd ∧ True) ∧ True) ((↑((1 : Nat) + List.length i.snd) : Int) ≤ IntKind.max IntKind.i64 ∧ ∃ (y : Unit), True ∧ #[(109 : UInt8)].toList ++ i.snd = mText x ∧ True))) := by kernel_rfl
theorem markText_ok  : Contract G Tryz.prog 59 s_markText :=
  vcFun_ok (Γ := Γof []) (E := Eof [(135, ⟨UInt8,bytA⟩)]) (ov := false) (L := fun x => Lof ([(4,{ ι := Int × List UInt8, inv := fun i => mdI x i.1 i.2, regs := fun i => [(0, .int .i64 i.1), (3, .str i.2)], als := [], meas := fun i => i.1.toNat })])) Tryz.func59 rfl (by decide) (Γof_ok (l := []) trivial) fun (x : Int) (hx : x ≤ 2 ^ 60) => (markText_vc  x).mpr (by
  have hx : x ≤ 2 ^ 60 := hx
  (repeat' first | refine ex_u8 ?_ ?_ ?_ | with_reducible rfl | exact True.intro | refine inR_i64 ?_ ?_ | with_reducible refine And.intro ?_ ?_ | with_reducible refine bcase_dec (fun _ => ?_) (fun _ => ?_) | with_reducible refine bcase_bne (fun _ => ?_) (fun _ => ?_) | with_reducible refine bcase_beq (fun _ => ?_) (fun _ => ?_) | with_reducible refine bcase_not (fun _ => ?_) (fun _ => ?_) | refine bcase_intro (fun _ => ?_) (fun _ => ?_) | refine sl_eq ?_ | refine ex_flip () ?_ ?_ | (apply ex_flip6 <;> try dsimp only) | (apply ex_flip5 <;> try dsimp only) | (apply ex_flip4 <;> try dsimp only) | (apply ex_flip3 <;> try dsimp only) | (apply ex_flip2 <;> try dsimp only) | apply ex_flip | (refine Prod.forall.2 ?_; intro _; try dsimp only) | (intro _; try dsimp only))
  all_goals first
    | rfl
    | (simp [mText, *]; done)
    | exact mdI_init (by assumption) hx
    | exact mdI_next (by assumption) (by assumption) (by assumption)
    | (rw [mdI_done (by assumption) (by assumption), mText, if_neg (by assumption)]; rfl)
    | (have h0 := mdI_0 (by assumption) (by assumption); exact inR_u8 (by omega) (by omega))
    | (have h0 := mdI_0 (by assumption) (by assumption); have h1 := mdI_len (by assumption); (try simp only [i64max, List.length_cons, List.length_nil]); omega)
    | (have h1 := mdI_len (by assumption); (try simp only [i64max, List.length_cons, List.length_nil]); omega)
    | skip
  have hd := mdI_done (show mdI _ _ _ by assumption) (by assumption)
  rw [hd, mText, if_neg (by assumption)]
  rfl)

section
variable {α : Type}
def gTot (sz : α → Nat) : List α → Int
  | [] => 0
  | g :: l => sz g + gTot sz l
def gMk (mk : Int → α → α) (sz : α → Nat) (k : Int) : List α → List α
  | [] => []
  | g :: l => mk k g :: gMk mk sz (k + sz g) l
variable {mk : Int → α → α} {sz : α → Nat}
theorem gTot_snoc : ∀ {l : List α} {g : α}, gTot sz (l ++ [g]) = gTot sz l + sz g
  | [], g => by simp [gTot]
  | x :: l, g => by simp only [List.cons_append, gTot]; rw [gTot_snoc]; omega
theorem gMk_snoc : ∀ {l : List α} {g : α} {k : Int}, gMk mk sz k (l ++ [g]) = gMk mk sz k l ++ [mk (k + gTot sz l) g]
  | [], g, k => by simp [gMk, gTot]
  | x :: l, g, k => by
    simp only [List.cons_append, gMk, gTot]; rw [gMk_snoc]
    rw [show k + (sz x : Int) + gTot sz l = k + (sz x + gTot sz l) by omega]
theorem gMk_len : ∀ {l : List α} {k : Int}, (gMk mk sz k l).length = l.length
  | [], k => rfl
  | x :: l, k => by simp [gMk, gMk_len]
theorem gMk_at : ∀ {l : List α} {k : Int} {i : Nat} {g : α}, l[i]? = some g → (gMk mk sz k l)[i]? = some (mk (k + gTot sz (l.take i)) g)
  | [], k, i, g, h => by simp at h
  | x :: l, k, 0, g, h => by simp at h; subst h; simp [gMk, gTot]
  | x :: l, k, i + 1, g, h => by
    simp only [gMk, List.getElem?_cons_succ, List.take_succ_cons, gTot] at h ⊢
    rw [gMk_at h]; congr 2; omega
theorem gTot_bd : ∀ {l : List α} {n : Nat}, (∀ g ∈ l, sz g ≤ n) → 0 ≤ gTot sz l ∧ gTot sz l ≤ l.length * n
  | [], n, h => by simp [gTot]
  | x :: l, n, h => by
    have h1 := h x (by simp)
    have h2 := gTot_bd (l := l) (n := n) fun g hg => h g (by simp [hg])
    rw [gTot, List.length_cons]
    have e : ((l.length + 1 : Nat) : Int) * (n : Int) = l.length * n + n := by rw [Int.natCast_add, Int.add_mul]; simp
    rw [e]; omega
theorem gMk_set {l : List α} {k : Int} {i : Nat} {g : α} (h : l[i]? = some g) : (gMk mk sz k (l.take i) ++ l.drop i).set i (mk (k + gTot sz (l.take i)) g) = gMk mk sz k (l.take (i + 1)) ++ l.drop (i + 1) := by
  have hi := (getE h).1
  have e : (gMk mk sz k (l.take i)).length = i := by rw [gMk_len, List.length_take]; omega
  rw [List.set_append_right _ _ (by rw [e]; exact Nat.le_refl i), e, Nat.sub_self, dropE h, List.set_cons_zero, takeE h, gMk_snoc]
  simp
theorem gset {L : List α} {i : Nat} {a b : α} (hb : (L.set i a)[i]? = some b) : a = b := by
  rw [List.getElem?_set] at hb
  split at hb
  · split at hb
    · exact Option.some.inj hb
    · cases hb
  · rename_i h; exact (h rfl).elim
/- the state while marks are written -/
def gSt (mk : Int → α → α) (sz : α → Nat) (k : Int) (l : List α) (i : Int) : List α := gMk mk sz k (l.take i.toNat) ++ l.drop i.toNat
def qgB (sz : α → Nat) (l : List α) : Prop := l.length ≤ 1048576 ∧ ∀ g ∈ l, sz g ≤ 1048600
def qgI (sz : α → Nat) (l : List α) (i : Int) : Prop := qgB sz l ∧ 0 ≤ i ∧ i ≤ l.length
theorem gSt_len {k i : Int} {l : List α} (h : qgI sz l i) : (gSt mk sz k l i).length = l.length := by
  have := h.2
  rw [gSt, List.length_append, gMk_len, List.length_take, List.length_drop]; omega
theorem gSt_at {k i : Int} {l : List α} {g : α} (h : qgI sz l i) (hg : (gSt mk sz k l i)[i.toNat]? = some g) : l[i.toNat]? = some g := by
  have hlt := (getE hg).1
  rw [gSt_len h] at hlt
  have hl : (gMk mk sz k (l.take i.toNat)).length = i.toNat := by rw [gMk_len, List.length_take]; omega
  rw [gSt, List.getElem?_append_right (by omega), hl, Nat.sub_self] at hg
  simpa using hg
theorem qgI_tot {i : Int} {l : List α} (h : qgI sz l i) : 0 ≤ gTot sz (l.take i.toNat) ∧ gTot sz (l.take i.toNat) ≤ 2000000000000 := by
  have h1 := @gTot_bd _ sz (l.take i.toNat) 1048600 fun g hg => h.1.2 g (List.mem_of_mem_take hg)
  have h2 : (l.take i.toNat).length ≤ 1048576 := by rw [List.length_take]; have := h.1.1; omega
  omega
theorem gSt_end {k i : Int} {l : List α} (h : qgI sz l i) (hl : ¬ i < ((gSt mk sz k l i).length : Int)) : gSt mk sz k l i = gMk mk sz k l ∧ k + gTot sz (l.take i.toNat) = k + gTot sz l := by
  rw [gSt_len h] at hl
  rw [gSt, List.take_of_length_le (by omega), List.drop_eq_nil_of_le (by omega)]; simp
theorem gSt_0 {k : Int} {l : List α} : l = gSt mk sz k l 0 := by simp [gSt, gMk]
theorem gSt_step {k i : Int} {l : List α} {g b : α} (h : qgI sz l i) (hg : (gSt mk sz k l i)[i.toNat]? = some g) (hb : b = mk (k + gTot sz (l.take i.toNat)) g) : (gSt mk sz k l i).set i.toNat b = gSt mk sz k l (i + 1) := by
  rw [hb, gSt, gMk_set (gSt_at h hg), gSt, toNat1 h.2.1]
theorem gTot_step {k i : Int} {l : List α} {g : α} (h : qgI sz l i) (hg : (gSt mk sz k l i)[i.toNat]? = some g) : k + gTot sz (l.take (i + 1).toNat) = k + gTot sz (l.take i.toNat) + sz g := by
  rw [toNat1 h.2.1, takeE (gSt_at h hg), gTot_snoc]; omega
theorem qgI_sz {k i : Int} {l : List α} {g : α} (h : qgI sz l i) (hg : (gSt mk sz k l i)[i.toNat]? = some g) : sz g ≤ 1048600 := h.1.2 g (memE (gSt_at h hg))
theorem qgI_next {k i : Int} {l : List α} {g : α} (h : qgI sz l i) (hg : (gSt mk sz k l i)[i.toNat]? = some g) : qgI sz l (i + 1) := by
  have := (getE (gSt_at h hg)).1
  exact ⟨h.1, by have := h.2.1; omega, by have := h.2.1; omega⟩
/- held -/
def qhI (mk : Int → α → α) (sz : α → Nat) (k : Int) (l : List α) (i : Int) : Prop := l = gMk mk sz k l ∧ qgI sz l i
theorem qhI_at {k i : Int} {l : List α} {g : α} (h : qhI mk sz k l i) (hg : l[i.toNat]? = some g) : g = mk (k + gTot sz (l.take i.toNat)) g := by
  have h1 : (gMk mk sz k l)[i.toNat]? = some g := by rw [← h.1]; exact hg
  have h2 := gMk_at (mk := mk) (sz := sz) (k := k) hg
  rw [h1] at h2; exact Option.some.inj h2
theorem qhI_step {k i : Int} {l : List α} {g : α} (h : qhI mk sz k l i) (hg : l[i.toNat]? = some g) : k + gTot sz (l.take (i + 1).toNat) = k + gTot sz (l.take i.toNat) + sz g := by
  rw [toNat1 h.2.2.1, takeE hg, gTot_snoc]; omega
theorem qhI_next {k i : Int} {l : List α} {g : α} (h : qhI mk sz k l i) (hg : l[i.toNat]? = some g) : qhI mk sz k l (i + 1) := by
  have := (getE hg).1
  exact ⟨h.1, h.2.1, by have := h.2.2.1; omega, by have := h.2.2.1; omega⟩
theorem qhI_sz {k i : Int} {l : List α} {g : α} (h : qhI mk sz k l i) (hg : l[i.toNat]? = some g) : sz g ≤ 1048600 := h.2.1.2 g (memE hg)
theorem qhI_end {k i : Int} {l : List α} (h : qhI mk sz k l i) (hl : ¬ i < (l.length : Int)) : k + gTot sz (l.take i.toNat) = k + gTot sz l := by
  rw [List.take_of_length_le (by have := h.2.2.2; omega)]
theorem gMk_idem (hs : ∀ k g, sz (mk k g) = sz g) (hm : ∀ k g, mk k (mk k g) = mk k g) : ∀ {l : List α} {k : Int}, gMk mk sz k (gMk mk sz k l) = gMk mk sz k l ∧ gTot sz (gMk mk sz k l) = gTot sz l
  | [], k => ⟨rfl, rfl⟩
  | g :: l, k => by
    simp only [gMk, gTot, hs, hm]
    have := @gMk_idem hs hm l (k + sz g)
    rw [this.1, this.2]; exact ⟨rfl, rfl⟩
theorem gMk_mem (hs : ∀ k g, sz (mk k g) = sz g) : ∀ {l : List α} {k : Int} {n : Nat}, (∀ g ∈ l, sz g ≤ n) → ∀ g ∈ gMk mk sz k l, sz g ≤ n
  | [], k, n, h, g, hg => by cases hg
  | x :: l, k, n, h, g, hg => by
    rcases List.mem_cons.1 hg with e | e
    · rw [e, hs]; exact h x (by simp)
    · exact gMk_mem hs (fun y hy => h y (by simp [hy])) g e
theorem gB_mk (hs : ∀ k g, sz (mk k g) = sz g) {l : List α} {k : Int} (h : qgB sz l) : qgB sz (gMk mk sz k l) := ⟨by rw [gMk_len]; exact h.1, gMk_mem hs h.2⟩
end
def mkN (k : Int) (x : Nd) : Nd := ⟨k, mText (k + 1), mkI (k + 1 + 1) x.kids.length, (k + 1 + 1 + x.kids.length).tmod 3 == 0⟩
def szN (x : Nd) : Nat := x.kids.length + 3
theorem szN_mk (k : Int) (x : Nd) : szN (mkN k x) = szN x := by simp [szN, mkN, mkI_len]
theorem mkN_mk (k : Int) (x : Nd) : mkN k (mkN k x) = mkN k x := by simp [mkN, mkI_len]
def lMkNs (x : List Nd × Int) : LS := {
  ι := Int, inv := qgI szN x.1, regs := fun i => [(0, onds (gSt mkN szN x.2 x.1 i)), (1, .int .i64 (x.2 + gTot szN (x.1.take i.toNat))), (5, .int .i64 i)], als := [], meas := fun i => x.1.length - i.toNat }
def s_markNds  : Sig := { X := List Nd × Int, args := fun x => [onds x.1, .int .i64 x.2], pre := fun x => qgB szN x.1 ∧ 0 ≤ x.2 ∧ x.2 ≤ 2 ^ 50, Y := Unit, post := fun x y => True, res := fun x y => .int .i64 (x.2 + gTot szN x.1), outs := fun x y => [onds (gMk mkN szN x.2 x.1), .top], keep := false, fixed := [0] }
theorem markNds_vc (x : List Nd × Int) : vcFun Go.Proofs.Tryz.prog (Γof [(39, 0, s_markInts), (59, 0, s_markText)]) (Eof []) false (Lof ([(2,lMkNs x)])) Go.Proofs.Tryz.f16.ntmps Go.Proofs.Tryz.f16.results.toList (Go.Proofs.Tryz.f16.body.getD .skip) s_markNds x = ((∀ (y : Unit), True → True ∧ (∀ (x : Nd), True ∧ True ∧ (∀ (x : Int), True ∧ True) ∧ True ∧ True) ∧ True ∧ True) ∧ (∃ (i : Int), qgI szN x.fst i ∧ (AV.sl true (0 : Nat) (4 : Nat) Nd (ndA true) x.fst = AV.sl true (0 : Nat) (4 : Nat) Nd (ndA true) (gSt mkN szN x.snd x.fst i) ∧ x.snd = x.snd + gTot szN (List.take (Int.toNat i) x.fst) ∧ (0 : Int) = i ∧ True) ∧ True) ∧ ∀ (i : Int), qgI szN x.fst i → bcase (decide (i < (↑(List.length (gSt mkN szN x.snd x.fst i)) : Int))) (((0 : Int) ≤ i ∧ i < (↑(List.length (gSt mkN szN x.snd x.fst i)) : Int)) ∧ Int.toNat i < List.length (gSt mkN szN x.snd x.fst i) ∧ ∀ (x_1 : Nd), (gSt mkN szN x.snd x.fst i)[Int.toNat i]? = some x_1 → ∃ (x' : Nd), ((@List.nil AV) = [] ∧ [AV.str x'.text, AV.sl true (0 : Nat) (1 : Nat) Int intA x'.kids, AV.bool x'.blank] = [AV.str x_1.text, AV.sl true (0 : Nat) (1 : Nat) Int intA x_1.kids, AV.bool x_1.blank]) ∧ x.snd + gTot szN (List.take (Int.toNat i) x.fst) = x'.kind ∧ inR IntKind.i64 (x.snd + gTot szN (List.take (Int.toNat i) x.fst) + (1 : Int)) ∧ ∃ (x_2 : Int), x_2 ≤ (2 : Int) ^ (60 : Nat) ∧ x.snd + gTot szN (List.take (Int.toNat i) x.fst) + (1 : Int) = x_2 ∧ ∀ (y : Unit), True → ((0 : Int) ≤ i ∧ i < (↑(List.length (List.set (gSt mkN szN x.snd x.fst i) (Int.toNat i) x')) : Int)) ∧ Int.toNat i < List.length (List.set (gSt mkN szN x.snd x.fst i) (Int.toNat i) x') ∧ ∀ (x_3 : Nd), (List.set (gSt mkN szN x.snd x.fst i) (Int.toNat i) x')[Int.toNat i]? = some x_3 → ∃ (x'_1 : Nd), ([AV.int IntKind.i64 x'_1.kind] = [AV.int IntKind.i64 x_3.kind] ∧ [AV.sl true (0 : Nat) (1 : Nat) Int intA x'_1.kids, AV.bool x'_1.blank] = [AV.sl true (0 : Nat) (1 : Nat) Int intA x_3.kids, AV.bool x_3.blank]) ∧ mText x_2 = x'_1.text ∧ inR IntKind.i64 (x.snd + gTot szN (List.take (Int.toNat i) x.fst) + (1 : Int) + (1 : Int)) ∧ ((0 : Int) ≤ i ∧ i < (↑(List.length (List.set (List.set (gSt mkN szN x.snd x.fst i) (Int.toNat i) x') (Int.toNat i) x'_1)) : Int)) ∧ Int.toNat i < List.length (List.set (List.set (gSt mkN szN x.snd x.fst i) (Int.toNat i) x') (Int.toNat i) x'_1) ∧ ∀ (z : Nd), (List.set (List.set (gSt mkN szN x.snd x.fst i) (Int.toNat i) x') (Int.toNat i) x'_1)[Int.toNat i]? = some z → ∃ (x_4 : List Int × Int), (List.length x_4.fst ≤ (1099511627776 : Nat) ∧ (0 : Int) ≤ x_4.snd ∧ x_4.snd ≤ (2 : Int) ^ (60 : Nat)) ∧ AV.sl true (0 : Nat) (1 : Nat) Int intA z.kids = AV.sl true (0 : Nat) (1 : Nat) Int intA x_4.fst ∧ x.snd + gTot szN (List.take (Int.toNat i) x.fst) + (1 : Int) + (1 : Int) = x_4.snd ∧ ∀ (y : Unit), True → ∃ (z' : Nd), [AV.int IntKind.i64 z'.kind, AV.str z'.text, AV.sl true (0 : Nat) (1 : Nat) Int intA z'.kids, AV.bool z'.blank] = [AV.int IntKind.i64 z.kind, AV.str z.text, AV.sl true (0 : Nat) (1 : Nat) Int intA (mkI x_4.snd (List.length x_4.fst)), AV.bool z.blank] ∧ (3 : Int) ≠ (0 : Int) ∧ ((0 : Int) ≤ i ∧ i < (↑(List.length (List.set (List.set (List.set (gSt mkN szN x.snd x.fst i) (Int.toNat i) x') (Int.toNat i) x'_1) (Int.toNat i) z')) : Int)) ∧ Int.toNat i < List.length (List.set (List.set (List.set (gSt mkN szN x.snd x.fst i) (Int.toNat i) x') (Int.toNat i) x'_1) (Int.toNat i) z') ∧ ∀ (x_5 : Nd), (List.set (List.set (List.set (gSt mkN szN x.snd x.fst i) (Int.toNat i) x') (Int.toNat i) x'_1) (Int.toNat i) z')[Int.toNat i]? = some x_5 → ∃ (x'_2 : Nd), ([AV.int IntKind.i64 x'_2.kind, AV.str x'_2.text, AV.sl true (0 : Nat) (1 : Nat) Int intA x'_2.kids] = [AV.int IntKind.i64 x_5.kind, AV.str x_5.text, AV.sl true (0 : Nat) (1 : Nat) Int intA x_5.kids] ∧ (@List.nil AV) = []) ∧ (Int.tmod (x_4.snd + (↑(List.length x_4.fst) : Int)) (3 : Int) == (0 : Int)) = x'_2.blank ∧ inR IntKind.i64 (x_4.snd + (↑(List.length x_4.fst) : Int) + (1 : Int)) ∧ inR IntKind.i64 (i + (1 : Int)) ∧ ∃ (i' : Int), qgI szN x.fst i' ∧ List.length x.fst - Int.toNat i' < List.length x.fst - Int.toNat i ∧ (AV.sl true (0 : Nat) (4 : Nat) Nd (ndA true) (List.set (List.set (List.set (List.set (gSt mkN szN x.snd x.fst i) (Int.toNat i) x') (Int.toNat i) x'_1) (Int.toNat i) z') (Int.toNat i) x'_2) = AV.sl true (0 : Nat) (4 : Nat) Nd (ndA true) (gSt mkN szN x.snd x.fst i') ∧ x_4.snd + (↑(List.length x_4.fst) : Int) + (1 : Int) = x.snd + gTot szN (List.take (Int.toNat i') x.fst) ∧ i + (1 : Int) = i' ∧ True) ∧ True) (∃ (y : Unit), True ∧ x.snd + gTot szN (List.take (Int.toNat i) x.fst) = x.snd + gTot szN x.fst ∧ AV.sl true (0 : Nat) (4 : Nat) Nd (ndA true) (gSt mkN szN x.snd x.fst i) = AV.sl true (0 : Nat) (4 : Nat) Nd (ndA true) (gMk mkN szN x.snd x.fst) ∧ True)) := by kernel_rfl
theorem markNds_ok  : Contract G Tryz.prog 16 s_markNds :=
  vcFun_ok (Γ := Γof [(39, 0, s_markInts), (59, 0, s_markText)]) (E := Eof []) (ov := false) (L := fun x => Lof ([(2,lMkNs x)])) Tryz.func16 rfl (by decide) (Γof_ok (l := [(39, 0, s_markInts), (59, 0, s_markText)]) ⟨markInts_ok, markText_ok, trivial⟩) fun (x : List Nd × Int) (hx : qgB szN x.1 ∧ 0 ≤ x.2 ∧ x.2 ≤ 2 ^ 50) => (markNds_vc  x).mpr (by
  obtain ⟨h1, h2, h3⟩ := hx
  (repeat' first | refine ex_nd _ _ (mkI _ _) _ rfl ?_ | refine ex_nd2 _ (mText _) _ _ ⟨rfl, ?_⟩ ⟨rfl, rfl⟩ | refine ex_nd2 _ _ _ _ ⟨rfl, ?_⟩ ⟨rfl, rfl⟩ | with_reducible rfl | exact True.intro | refine inR_i64 ?_ ?_ | with_reducible refine And.intro ?_ ?_ | with_reducible refine bcase_dec (fun _ => ?_) (fun _ => ?_) | with_reducible refine bcase_bne (fun _ => ?_) (fun _ => ?_) | with_reducible refine bcase_beq (fun _ => ?_) (fun _ => ?_) | with_reducible refine bcase_not (fun _ => ?_) (fun _ => ?_) | refine bcase_intro (fun _ => ?_) (fun _ => ?_) | refine sl_eq ?_ | refine ex_flip () ?_ ?_ | (apply ex_flip6 <;> try dsimp only) | (apply ex_flip5 <;> try dsimp only) | (apply ex_flip4 <;> try dsimp only) | (apply ex_flip3 <;> try dsimp only) | (apply ex_flip2 <;> try dsimp only) | apply ex_flip | (refine Prod.forall.2 ?_; intro _; try dsimp only) | (intro _; try dsimp only))
  all_goals (repeat (rename (List.set _ _ _)[_]? = some _ => hq; have e := gset hq; clear hq; subst e))
  all_goals (try (rename Nd => zz; obtain ⟨_, _, _, _⟩ := zz; dsimp only at *))
  all_goals (try simp only [List.length_set, List.set_set])
  all_goals first
    | rfl
    | exact gSt_0
    | exact ⟨h1, by omega, by omega⟩
    | (simp [gTot]; done)
    | exact (show qgI _ _ _ by assumption).2.1
    | assumption
    | exact (gSt_end (by assumption) (by assumption)).1
    | exact (gSt_end (by assumption) (by assumption)).2
    | exact gSt_step (by assumption) (by assumption) rfl
    | exact qgI_next (by assumption) (by assumption)
    | (have ht := gTot_step (k := x.2) (show qgI _ _ _ by assumption) (by assumption); rw [ht]; simp [szN]; omega)
    | (have hi := (show qgI _ _ _ by assumption); have hl := @gSt_len _ mkN szN x.2 _ _ hi; have ht := qgI_tot hi; have := hi.2.1; have := hi.2.2; have := h1.1; (try simp only [i64max]); omega)
    | (have hi := (show qgI _ _ _ by assumption); have hl := @gSt_len _ mkN szN x.2 _ _ hi; have ht := qgI_tot hi; have := hi.2.1; have := hi.2.2; have hg := qgI_sz hi (by assumption); simp only [szN] at hg; have := h1.1; (try simp only [i64max]); omega)
    | skip)

end Go.My
end
section
/- What is reckoned ahead: the program's functions. -/
set_option linter.unusedVariables false
set_option linter.unusedSimpArgs false
namespace Go.My
open Go.Eng Go.Proofs
variable {G : GInv}

def s_isValueAt  : Sig := { X := List Nd × Int, args := fun x => [nds x.1, .int .i64 x.2], pre := fun x => okNds x.1 ∧ x.1.length ≤ 2 ^ 30, Y := Unit, post := fun x y => True, res := fun x y => .bool (isVal (kindAt x.1 x.2) && !decide (deepOf x.1 x.2 = 0)), outs := fun x y => [.top, .top], keep := false }
theorem isValueAt_vc (x : List Nd × Int) : vcFun Go.Proofs.Tryz.prog (Γof [(118, 0, s_isNode), (144, 0, s_isValue), (110, 0, s_iDeepOf)]) (Eof []) false (Lof ([])) Go.Proofs.Tryz.f91.ntmps Go.Proofs.Tryz.f91.results.toList (Go.Proofs.Tryz.f91.body.getD .skip) s_isValueAt x = ((∀ (y : Unit), True → True ∧ True ∧ True ∧ True) ∧ ∃ (x_1 : List Nd × Int), List.length x_1.fst < (4611686018427387904 : Nat) ∧ AV.sl false (0 : Nat) (4 : Nat) Nd (ndA false) x.fst = AV.sl false (0 : Nat) (4 : Nat) Nd (ndA false) x_1.fst ∧ x.snd = x_1.snd ∧ ∀ (y : Unit), True → bcase (isNd x_1.fst x_1.snd) (((0 : Int) ≤ x.snd ∧ x.snd < (↑(List.length x.fst) : Int)) ∧ ∀ (e : Nd), x.fst[Int.toNat x.snd]? = some e → ∃ (x_2 : Int), True ∧ e.kind = x_2 ∧ ∀ (y : Unit), True → bcase (isVal x_2) (∃ (x_3 : List Nd × Int), (okNds x_3.fst ∧ List.length x_3.fst ≤ (1073741824 : Nat)) ∧ AV.sl false (0 : Nat) (4 : Nat) Nd (ndA false) x.fst = AV.sl false (0 : Nat) (4 : Nat) Nd (ndA false) x_3.fst ∧ x.snd = x_3.snd ∧ ∀ (y : Unit), True → ∃ (y : Unit), True ∧ decide (deepOf x_3.fst x_3.snd > (0 : Int)) = (isVal (kindAt x.fst x.snd) && !decide (deepOf x.fst x.snd = (0 : Int))) ∧ True) (∃ (y : Unit), True ∧ false = (isVal (kindAt x.fst x.snd) && !decide (deepOf x.fst x.snd = (0 : Int))) ∧ True)) (∃ (y : Unit), True ∧ false = (isVal (kindAt x.fst x.snd) && !decide (deepOf x.fst x.snd = (0 : Int))) ∧ True)) := by kernel_rfl
theorem isValueAt_ok  : Contract G Tryz.prog 91 s_isValueAt :=
  vcFun_ok (Γ := Γof [(118, 0, s_isNode), (144, 0, s_isValue), (110, 0, s_iDeepOf)]) (E := Eof []) (ov := false) (L := fun x => Lof ([])) Tryz.func91 rfl (by decide) (Γof_ok (l := [(118, 0, s_isNode), (144, 0, s_isValue), (110, 0, s_iDeepOf)]) ⟨isNode_ok, isValue_ok, iDeepOf_ok, trivial⟩) fun (x : List Nd × Int) (hx : okNds x.1 ∧ x.1.length ≤ 2 ^ 30) => (isValueAt_vc  x).mpr (by
  obtain ⟨h1, h2⟩ := hx; have hl := h1.1
  (repeat' first | with_reducible rfl | exact True.intro | refine inR_i64 ?_ ?_ | with_reducible refine And.intro ?_ ?_ | with_reducible refine bcase_dec (fun _ => ?_) (fun _ => ?_) | with_reducible refine bcase_bne (fun _ => ?_) (fun _ => ?_) | with_reducible refine bcase_beq (fun _ => ?_) (fun _ => ?_) | with_reducible refine bcase_not (fun _ => ?_) (fun _ => ?_) | refine bcase_intro (fun _ => ?_) (fun _ => ?_) | refine sl_eq ?_ | refine ex_flip () ?_ ?_ | (apply ex_flip6 <;> try dsimp only) | (apply ex_flip5 <;> try dsimp only) | (apply ex_flip4 <;> try dsimp only) | (apply ex_flip3 <;> try dsimp only) | (apply ex_flip2 <;> try dsimp only) | apply ex_flip | (refine Prod.forall.2 ?_; intro _; try dsimp only) | (intro _; try dsimp only))
  all_goals try (have hn := isNd_iff.1 (show isNd x.1 x.2 = true by assumption))
  all_goals first
    | exact h1
    | exact h2
    | omega
    | (have h0 := dp_no (show isNd x.1 x.2 = false by assumption); simp [← h0]; done)
    | (rw [kindAt, ndAt_of (by assumption)]; have hd := @deepOf_nonneg x.1 x.2; by_cases h0 : deepOf x.1 x.2 = 0 <;> simp [*] <;> omega)
    | skip)

theorem fig_at {s : List UInt8} {n : Nat} {c : UInt8} (h : s.all isFig = true) (hc : s[n]? = some c) : 48 ≤ c.toNat ∧ c.toNat ≤ 57 := by
  have := List.all_eq_true.1 h c (memE hc)
  simpa [isFig] using this
def s_numberOf  : Sig := { X := List UInt8, args := fun x => [.str x], pre := fun x => x.all isFig = true ∧ x.length ≤ 9, Y := Unit, post := fun x y => True, res := fun x y => .int .i64 (figV x), outs := fun x y => [.top], keep := false }
theorem numberOf_vc (x : List UInt8) : vcFun Go.Proofs.Tryz.prog (Γof []) (Eof []) false (Lof ([(3,{ ι := Int, inv := fun i => 0 ≤ i ∧ i ≤ x.length, regs := fun i => [(0, .str x), (3, .int .i64 (figV (x.take i.toNat))), (4, .int .i64 i)], als := [], meas := fun i => x.length - i.toNat })])) Go.Proofs.Tryz.f163.ntmps Go.Proofs.Tryz.f163.results.toList (Go.Proofs.Tryz.f163.body.getD .skip) s_numberOf x = ((∀ (y : Unit), True → True ∧ True ∧ True) ∧ (∃ (i : Int), ((0 : Int) ≤ i ∧ i ≤ (↑(List.length x) : Int)) ∧ (x = x ∧ (0 : Int) = figV (List.take (Int.toNat i) x) ∧ (0 : Int) = i ∧ True) ∧ True) ∧ ∀ (i : Int), (0 : Int) ≤ i ∧ i ≤ (↑(List.length x) : Int) → bcase (decide (i < (↑(List.length x) : Int))) (inR IntKind.i64 (figV (List.take (Int.toNat i) x) * (10 : Int)) ∧ ((0 : Int) ≤ i ∧ i < (↑(List.length x) : Int)) ∧ ∀ (c : UInt8), x[Int.toNat i]? = some c → inR IntKind.u8 ((↑(UInt8.toNat c) : Int) - (48 : Int)) ∧ inR IntKind.i64 ((↑(UInt8.toNat c) : Int) - (48 : Int)) ∧ inR IntKind.i64 (figV (List.take (Int.toNat i) x) * (10 : Int) + ((↑(UInt8.toNat c) : Int) - (48 : Int))) ∧ inR IntKind.i64 (i + (1 : Int)) ∧ ∃ (i' : Int), ((0 : Int) ≤ i' ∧ i' ≤ (↑(List.length x) : Int)) ∧ List.length x - Int.toNat i' < List.length x - Int.toNat i ∧ (x = x ∧ figV (List.take (Int.toNat i) x) * (10 : Int) + ((↑(UInt8.toNat c) : Int) - (48 : Int)) = figV (List.take (Int.toNat i') x) ∧ i + (1 : Int) = i' ∧ True) ∧ True) (∃ (y : Unit), True ∧ figV (List.take (Int.toNat i) x) = figV x ∧ True)) := by kernel_rfl
theorem numberOf_ok  : Contract G Tryz.prog 163 s_numberOf :=
  vcFun_ok (Γ := Γof []) (E := Eof []) (ov := false) (L := fun x => Lof ([(3,{ ι := Int, inv := fun i => 0 ≤ i ∧ i ≤ x.length, regs := fun i => [(0, .str x), (3, .int .i64 (figV (x.take i.toNat))), (4, .int .i64 i)], als := [], meas := fun i => x.length - i.toNat })])) Tryz.func163 rfl (by decide) (Γof_ok (l := []) trivial) fun (x : List UInt8) (hx : x.all isFig = true ∧ x.length ≤ 9) => (numberOf_vc  x).mpr (by
  obtain ⟨h1, h2⟩ := hx
  have hb : ∀ i : Int, 0 ≤ figV (x.take i.toNat) ∧ figV (x.take i.toNat) < 1000000000 := fun i => figV_bd (List.all_eq_true.2 fun c hc => List.all_eq_true.1 h1 c (List.mem_of_mem_take hc)) (by simp; omega)
  (repeat' first | with_reducible rfl | exact True.intro | refine inR_i64 ?_ ?_ | with_reducible refine And.intro ?_ ?_ | with_reducible refine bcase_dec (fun _ => ?_) (fun _ => ?_) | with_reducible refine bcase_bne (fun _ => ?_) (fun _ => ?_) | with_reducible refine bcase_beq (fun _ => ?_) (fun _ => ?_) | with_reducible refine bcase_not (fun _ => ?_) (fun _ => ?_) | refine bcase_intro (fun _ => ?_) (fun _ => ?_) | refine sl_eq ?_ | refine ex_flip () ?_ ?_ | (apply ex_flip6 <;> try dsimp only) | (apply ex_flip5 <;> try dsimp only) | (apply ex_flip4 <;> try dsimp only) | (apply ex_flip3 <;> try dsimp only) | (apply ex_flip2 <;> try dsimp only) | apply ex_flip | (refine Prod.forall.2 ?_; intro _; try dsimp only) | (intro _; try dsimp only))
  all_goals try (have hf := fig_at h1 (show x[Int.toNat _]? = some _ by assumption))
  all_goals try (have hbb := hb (by assumption))
  all_goals first
    | rfl
    | omega
    | exact inR_u8 (by omega) (by omega)
    | ((try simp only [i64max]); omega)
    | (rw [toNat1 (by omega), figV_take (by assumption)]; done)
    | (rw [List.take_of_length_le (by omega)]; done)
    | skip)

def s_reckon  : Sig := { X := List UInt8 × Int × Int, args := fun x => [.str x.1, .int .i64 x.2.1, .int .i64 x.2.2], pre := fun x => bdd x.2.1 ∧ bdd x.2.2, Y := Unit, post := fun x y => True, res := fun x y => .int .i64 (reck x.1 x.2.1 x.2.2), outs := fun x y => [.top, .top, .top], keep := false }
theorem reckon_vc (x : List UInt8 × Int × Int) : vcFun Go.Proofs.Tryz.prog (Γof []) (Eof []) false (Lof ([])) Go.Proofs.Tryz.f193.ntmps Go.Proofs.Tryz.f193.results.toList (Go.Proofs.Tryz.f193.body.getD .skip) s_reckon x = ((∀ (y : Unit), True → True ∧ True ∧ True ∧ True ∧ True) ∧ bcase (x.fst == #[(43 : UInt8)].toList) (inR IntKind.i64 (x.snd.fst + x.snd.snd) ∧ ∃ (y : Unit), True ∧ x.snd.fst + x.snd.snd = reck x.fst x.snd.fst x.snd.snd ∧ True) (bcase (x.fst == #[(45 : UInt8)].toList) (inR IntKind.i64 (x.snd.fst - x.snd.snd) ∧ ∃ (y : Unit), True ∧ x.snd.fst - x.snd.snd = reck x.fst x.snd.fst x.snd.snd ∧ True) (inR IntKind.i64 (x.snd.fst * x.snd.snd) ∧ ∃ (y : Unit), True ∧ x.snd.fst * x.snd.snd = reck x.fst x.snd.fst x.snd.snd ∧ True))) := by kernel_rfl
theorem reckon_ok  : Contract G Tryz.prog 193 s_reckon :=
  vcFun_ok (Γ := Γof []) (E := Eof []) (ov := false) (L := fun x => Lof ([])) Tryz.func193 rfl (by decide) (Γof_ok (l := []) trivial) fun (x : List UInt8 × Int × Int) (hx : bdd x.2.1 ∧ bdd x.2.2) => (reckon_vc  x).mpr (by
  obtain ⟨h1, h2⟩ := hx
  have hm := mul_bd h1.1 h1.2 h2.1 h2.2
  unfold bdd at h1 h2
  (repeat' first | with_reducible rfl | exact True.intro | refine inR_i64 ?_ ?_ | with_reducible refine And.intro ?_ ?_ | with_reducible refine bcase_dec (fun _ => ?_) (fun _ => ?_) | with_reducible refine bcase_bne (fun _ => ?_) (fun _ => ?_) | with_reducible refine bcase_beq (fun _ => ?_) (fun _ => ?_) | with_reducible refine bcase_not (fun _ => ?_) (fun _ => ?_) | refine bcase_intro (fun _ => ?_) (fun _ => ?_) | refine sl_eq ?_ | refine ex_flip () ?_ ?_ | (apply ex_flip6 <;> try dsimp only) | (apply ex_flip5 <;> try dsimp only) | (apply ex_flip4 <;> try dsimp only) | (apply ex_flip3 <;> try dsimp only) | (apply ex_flip2 <;> try dsimp only) | apply ex_flip | (refine Prod.forall.2 ?_; intro _; try dsimp only) | (intro _; try dsimp only))
  all_goals first
    | (simp [reck, *]; done)
    | ((try simp only [i64max]); omega)
    | skip)

def consP (n : Nat) (x : List Nd × Int) : Prop := okNds x.1 ∧ okUp x.1 x.2 ∧ x.2 < n
def s_cR (n : Nat) : Sig := { X := List Nd × Int, args := fun x => [nds x.1, .int .i64 x.2], pre := fun x => consP n x, Y := Unit, post := fun x y => True, res := fun x y => .tup [.int .i64 (oI (cV x.1 x.2)), .bool (cV x.1 x.2).isSome], outs := fun x y => [.top, .top], keep := false }
def cI (ns : List Nd) (x : Nd) (i s : Int) : Prop := 0 ≤ i ∧ i ≤ x.kids.length ∧ bdd s ∧ chainF x.text ((x.kids.take i.toNat).map (cV ns)) = some s
theorem cI_init {ns : List Nd} {x : Nd} : cI ns x 0 0 := ⟨by omega, by omega, by unfold bdd; omega, rfl⟩
theorem cI_first {ns : List Nd} {x : Nd} {i s c : Int} (h : cI ns x i s) (hc : x.kids[i.toNat]? = some c) (hi : i = 0) (hu : okUp ns c) (hs : (cV ns c).isSome = true) : cI ns x (i + 1) (oI (cV ns c)) := by
  subst hi
  have := (getE hc).1
  refine ⟨by omega, by omega, oI_bd hu, ?_⟩
  rw [toNat1 (by omega), takeE hc]
  simp only [Int.toNat_zero, List.take_zero, List.nil_append, List.map_cons, List.map_nil, chainF, List.foldl_nil]
  rw [oI]; cases hv : cV ns c with
  | none => rw [hv] at hs; cases hs
  | some v => rfl
theorem cI_snoc {ns : List Nd} {x : Nd} {i s c : Int} (h : cI ns x i s) (hc : x.kids[i.toNat]? = some c) (hi : i ≠ 0) : chainF x.text ((x.kids.take (i + 1).toNat).map (cV ns)) = stepV x.text (some s) (cV ns c) := by
  rw [toNat1 h.1, takeE hc, List.map_append, List.map_cons, List.map_nil, chainF_snoc, h.2.2.2]
  have := (getE hc).1
  intro e
  simp only [List.map_eq_nil_iff, List.take_eq_nil_iff] at e
  rcases e with e | e
  · have := h.1; omega
  · rw [e] at this; simp at this
theorem some_oI {o : Option Int} (h : o.isSome = true) : o = some (oI o) := by
  cases o with
  | none => cases h
  | some v => rfl
theorem cI_next {ns : List Nd} {x : Nd} {i s c : Int} (h : cI ns x i s) (hc : x.kids[i.toNat]? = some c) (hi : i ≠ 0) (hs : (cV ns c).isSome = true) (hr : inn (reck x.text s (oI (cV ns c))) (-1000000000) 1000000000 = true) : cI ns x (i + 1) (reck x.text s (oI (cV ns c))) := by
  have := (getE hc).1
  have h0 := h.1
  refine ⟨by omega, by omega, inn_iff.1 hr, ?_⟩
  rw [cI_snoc h hc hi, some_oI hs]
  simp only [stepV]; rw [if_pos hr]; rfl
theorem cI_bad {ns : List Nd} {x : Nd} {i s c : Int} (h : cI ns x i s) (hc : x.kids[i.toNat]? = some c) (hi : i ≠ 0) (hs : (cV ns c).isSome = true) (hr : inn (reck x.text s (oI (cV ns c))) (-1000000000) 1000000000 = false) : chainF x.text (x.kids.map (cV ns)) = none := by
  have e : x.kids = x.kids.take (i + 1).toNat ++ x.kids.drop (i + 1).toNat := (List.take_append_drop _ _).symm
  have h1 := cI_snoc h hc hi
  rw [some_oI hs] at h1
  simp only [stepV] at h1
  rw [if_neg (by simp [hr])] at h1
  rw [e, List.map_append]
  refine chainF_none ?_ h1
  intro e2; rw [e2] at h1; cases h1
theorem cI_none {ns : List Nd} {x : Nd} {i s c : Int} (h : cI ns x i s) (hc : x.kids[i.toNat]? = some c) (hs : (cV ns c).isSome = false) : chainF x.text (x.kids.map (cV ns)) = none := by
  have hs : cV ns c = none := by cases hv : cV ns c with
    | none => rfl
    | some v => rw [hv] at hs; cases hs
  have e : x.kids = x.kids.take (i + 1).toNat ++ x.kids.drop (i + 1).toNat := (List.take_append_drop _ _).symm
  have h1 : chainF x.text ((x.kids.take (i + 1).toNat).map (cV ns)) = none := by
    by_cases hi : i = 0
    · subst hi; rw [toNat1 (by omega), takeE hc]
      simp [chainF, hs]
    · rw [cI_snoc h hc hi, hs]; rfl
  rw [e, List.map_append]
  refine chainF_none ?_ h1
  intro e2; rw [e2] at h1; cases h1
theorem cI_done {ns : List Nd} {x : Nd} {i s : Int} (h : cI ns x i s) (hl : ¬ i < x.kids.length) : chainF x.text (x.kids.map (cV ns)) = some s := by
  have h3 := h.2.2.2
  rwa [List.take_of_length_le (by have := h.1; omega)] at h3
def s_chainC (n : Nat) : Sig := { X := List Nd × Nd, args := fun x => [nds x.1, .agg (ndA false x.2)], pre := fun x => okNds x.1 ∧ x.2.kids.length < 2 ^ 62 ∧ ∀ c ∈ x.2.kids, okUp x.1 c ∧ c < n, Y := Unit, post := fun x y => True, res := fun x y => .tup [.int .i64 (oI (chainV x.2.text (x.2.kids.map (cV x.1)))), .bool (chainV x.2.text (x.2.kids.map (cV x.1))).isSome], outs := fun x y => [.top, .top], keep := false }
theorem chainC_vc (n : Nat) (x : List Nd × Nd) : vcFun Go.Proofs.Tryz.prog (Γof [(130, 0, (s_cR n)), (193, 0, s_reckon), (92, 0, s_inRange)]) (Eof []) false (Lof ([(5,{ ι := Int × Int, inv := fun i => cI x.1 x.2 i.1 i.2, regs := fun i => [(0, nds x.1), (3, .box 0 (ndA false x.2)), (6, .int .i64 i.2), (25, ints x.2.kids), (26, .int .i64 x.2.kids.length), (27, .int .i64 i.1)], als := [], meas := fun i => x.2.kids.length - i.1.toNat })])) Go.Proofs.Tryz.f164.ntmps Go.Proofs.Tryz.f164.results.toList (Go.Proofs.Tryz.f164.body.getD .skip) (s_chainC n) x = ((∀ (y : Unit), True → (True ∧ True ∧ True) ∧ True ∧ True ∧ True) ∧ bcase (!x.snd.text == #[(43 : UInt8)].toList) (bcase (!x.snd.text == #[(45 : UInt8)].toList) (bcase (!x.snd.text == #[(42 : UInt8)].toList) (∃ (y : Unit), True ∧ (0 : Int) = oI (chainV x.snd.text (List.map (cV x.fst) x.snd.kids)) ∧ false = Option.isSome (chainV x.snd.text (List.map (cV x.fst) x.snd.kids)) ∧ True) ((∃ (i : Int × Int), cI x.fst x.snd i.fst i.snd ∧ (AV.sl false (0 : Nat) (4 : Nat) Nd (ndA false) x.fst = AV.sl false (0 : Nat) (4 : Nat) Nd (ndA false) x.fst ∧ x.snd.kind = x.snd.kind ∧ x.snd.text = x.snd.text ∧ AV.sl false (0 : Nat) (1 : Nat) Int intA x.snd.kids = AV.sl false (0 : Nat) (1 : Nat) Int intA x.snd.kids ∧ x.snd.blank = x.snd.blank ∧ (0 : Int) = i.snd ∧ AV.sl false (0 : Nat) (1 : Nat) Int intA x.snd.kids = AV.sl false (0 : Nat) (1 : Nat) Int intA x.snd.kids ∧ (↑(List.length x.snd.kids) : Int) = (↑(List.length x.snd.kids) : Int) ∧ (0 : Int) = i.fst ∧ True) ∧ True) ∧ ∀ (i : Int × Int), cI x.fst x.snd i.fst i.snd → bcase (decide (i.fst < (↑(List.length x.snd.kids) : Int))) (((0 : Int) ≤ i.fst ∧ i.fst < (↑(List.length x.snd.kids) : Int)) ∧ ∀ (e : Int), x.snd.kids[Int.toNat i.fst]? = some e → ∃ (x_1 : List Nd × Int), consP n x_1 ∧ AV.sl false (0 : Nat) (4 : Nat) Nd (ndA false) x.fst = AV.sl false (0 : Nat) (4 : Nat) Nd (ndA false) x_1.fst ∧ e = x_1.snd ∧ ∀ (y : Unit), True → bcase (!Option.isSome (cV x_1.fst x_1.snd)) (∃ (y : Unit), True ∧ (0 : Int) = oI (chainV x.snd.text (List.map (cV x.fst) x.snd.kids)) ∧ false = Option.isSome (chainV x.snd.text (List.map (cV x.fst) x.snd.kids)) ∧ True) (bcase (i.fst == (0 : Int)) (inR IntKind.i64 (i.fst + (1 : Int)) ∧ ∃ (i' : Int × Int), cI x.fst x.snd i'.fst i'.snd ∧ List.length x.snd.kids - Int.toNat i'.fst < List.length x.snd.kids - Int.toNat i.fst ∧ (AV.sl false (0 : Nat) (4 : Nat) Nd (ndA false) x.fst = AV.sl false (0 : Nat) (4 : Nat) Nd (ndA false) x.fst ∧ x.snd.kind = x.snd.kind ∧ x.snd.text = x.snd.text ∧ AV.sl false (0 : Nat) (1 : Nat) Int intA x.snd.kids = AV.sl false (0 : Nat) (1 : Nat) Int intA x.snd.kids ∧ x.snd.blank = x.snd.blank ∧ oI (cV x_1.fst x_1.snd) = i'.snd ∧ AV.sl false (0 : Nat) (1 : Nat) Int intA x.snd.kids = AV.sl false (0 : Nat) (1 : Nat) Int intA x.snd.kids ∧ (↑(List.length x.snd.kids) : Int) = (↑(List.length x.snd.kids) : Int) ∧ i.fst + (1 : Int) = i'.fst ∧ True) ∧ True) (∃ (x_2 : List UInt8 × Int × Int), (bdd x_2.snd.fst ∧ bdd x_2.snd.snd) ∧ x.snd.text = x_2.fst ∧ i.snd = x_2.snd.fst ∧ oI (cV x_1.fst x_1.snd) = x_2.snd.snd ∧ ∀ (y : Unit), True → ∃ (x_3 : Int × Int × Int), True ∧ reck x_2.fst x_2.snd.fst x_2.snd.snd = x_3.fst ∧ (-1000000000 : Int) = x_3.snd.fst ∧ (1000000000 : Int) = x_3.snd.snd ∧ ∀ (y : Unit), True → bcase (!inn x_3.fst x_3.snd.fst x_3.snd.snd) (∃ (y : Unit), True ∧ (0 : Int) = oI (chainV x.snd.text (List.map (cV x.fst) x.snd.kids)) ∧ false = Option.isSome (chainV x.snd.text (List.map (cV x.fst) x.snd.kids)) ∧ True) (inR IntKind.i64 (i.fst + (1 : Int)) ∧ ∃ (i' : Int × Int), cI x.fst x.snd i'.fst i'.snd ∧ List.length x.snd.kids - Int.toNat i'.fst < List.length x.snd.kids - Int.toNat i.fst ∧ (AV.sl false (0 : Nat) (4 : Nat) Nd (ndA false) x.fst = AV.sl false (0 : Nat) (4 : Nat) Nd (ndA false) x.fst ∧ x.snd.kind = x.snd.kind ∧ x.snd.text = x.snd.text ∧ AV.sl false (0 : Nat) (1 : Nat) Int intA x.snd.kids = AV.sl false (0 : Nat) (1 : Nat) Int intA x.snd.kids ∧ x.snd.blank = x.snd.blank ∧ reck x_2.fst x_2.snd.fst x_2.snd.snd = i'.snd ∧ AV.sl false (0 : Nat) (1 : Nat) Int intA x.snd.kids = AV.sl false (0 : Nat) (1 : Nat) Int intA x.snd.kids ∧ (↑(List.length x.snd.kids) : Int) = (↑(List.length x.snd.kids) : Int) ∧ i.fst + (1 : Int) = i'.fst ∧ True) ∧ True)))) (∃ (y : Unit), True ∧ i.snd = oI (chainV x.snd.text (List.map (cV x.fst) x.snd.kids)) ∧ true = Option.isSome (chainV x.snd.text (List.map (cV x.fst) x.snd.kids)) ∧ True))) ((∃ (i : Int × Int), cI x.fst x.snd i.fst i.snd ∧ (AV.sl false (0 : Nat) (4 : Nat) Nd (ndA false) x.fst = AV.sl false (0 : Nat) (4 : Nat) Nd (ndA false) x.fst ∧ x.snd.kind = x.snd.kind ∧ x.snd.text = x.snd.text ∧ AV.sl false (0 : Nat) (1 : Nat) Int intA x.snd.kids = AV.sl false (0 : Nat) (1 : Nat) Int intA x.snd.kids ∧ x.snd.blank = x.snd.blank ∧ (0 : Int) = i.snd ∧ AV.sl false (0 : Nat) (1 : Nat) Int intA x.snd.kids = AV.sl false (0 : Nat) (1 : Nat) Int intA x.snd.kids ∧ (↑(List.length x.snd.kids) : Int) = (↑(List.length x.snd.kids) : Int) ∧ (0 : Int) = i.fst ∧ True) ∧ True) ∧ ∀ (i : Int × Int), cI x.fst x.snd i.fst i.snd → bcase (decide (i.fst < (↑(List.length x.snd.kids) : Int))) (((0 : Int) ≤ i.fst ∧ i.fst < (↑(List.length x.snd.kids) : Int)) ∧ ∀ (e : Int), x.snd.kids[Int.toNat i.fst]? = some e → ∃ (x_1 : List Nd × Int), consP n x_1 ∧ AV.sl false (0 : Nat) (4 : Nat) Nd (ndA false) x.fst = AV.sl false (0 : Nat) (4 : Nat) Nd (ndA false) x_1.fst ∧ e = x_1.snd ∧ ∀ (y : Unit), True → bcase (!Option.isSome (cV x_1.fst x_1.snd)) (∃ (y : Unit), True ∧ (0 : Int) = oI (chainV x.snd.text (List.map (cV x.fst) x.snd.kids)) ∧ false = Option.isSome (chainV x.snd.text (List.map (cV x.fst) x.snd.kids)) ∧ True) (bcase (i.fst == (0 : Int)) (inR IntKind.i64 (i.fst + (1 : Int)) ∧ ∃ (i' : Int × Int), cI x.fst x.snd i'.fst i'.snd ∧ List.length x.snd.kids - Int.toNat i'.fst < List.length x.snd.kids - Int.toNat i.fst ∧ (AV.sl false (0 : Nat) (4 : Nat) Nd (ndA false) x.fst = AV.sl false (0 : Nat) (4 : Nat) Nd (ndA false) x.fst ∧ x.snd.kind = x.snd.kind ∧ x.snd.text = x.snd.text ∧ AV.sl false (0 : Nat) (1 : Nat) Int intA x.snd.kids = AV.sl false (0 : Nat) (1 : Nat) Int intA x.snd.kids ∧ x.snd.blank = x.snd.blank ∧ oI (cV x_1.fst x_1.snd) = i'.snd ∧ AV.sl false (0 : Nat) (1 : Nat) Int intA x.snd.kids = AV.sl false (0 : Nat) (1 : Nat) Int intA x.snd.kids ∧ (↑(List.length x.snd.kids) : Int) = (↑(List.length x.snd.kids) : Int) ∧ i.fst + (1 : Int) = i'.fst ∧ True) ∧ True) (∃ (x_2 : List UInt8 × Int × Int), (bdd x_2.snd.fst ∧ bdd x_2.snd.snd) ∧ x.snd.text = x_2.fst ∧ i.snd = x_2.snd.fst ∧ oI (cV x_1.fst x_1.snd) = x_2.snd.snd ∧ ∀ (y : Unit), True → ∃ (x_3 : Int × Int × Int), True ∧ reck x_2.fst x_2.snd.fst x_2.snd.snd = x_3.fst ∧ (-1000000000 : Int) = x_3.snd.fst ∧ (1000000000 : Int) = x_3.snd.snd ∧ ∀ (y : Unit), True → bcase (!inn x_3.fst x_3.snd.fst x_3.snd.snd) (∃ (y : Unit), True ∧ (0 : Int) = oI (chainV x.snd.text (List.map (cV x.fst) x.snd.kids)) ∧ false = Option.isSome (chainV x.snd.text (List.map (cV x.fst) x.snd.kids)) ∧ True) (inR IntKind.i64 (i.fst + (1 : Int)) ∧ ∃ (i' : Int × Int), cI x.fst x.snd i'.fst i'.snd ∧ List.length x.snd.kids - Int.toNat i'.fst < List.length x.snd.kids - Int.toNat i.fst ∧ (AV.sl false (0 : Nat) (4 : Nat) Nd (ndA false) x.fst = AV.sl false (0 : Nat) (4 : Nat) Nd (ndA false) x.fst ∧ x.snd.kind = x.snd.kind ∧ x.snd.text = x.snd.text ∧ AV.sl false (0 : Nat) (1 : Nat) Int intA x.snd.kids = AV.sl false (0 : Nat) (1 : Nat) Int intA x.snd.kids ∧ x.snd.blank = x.snd.blank ∧ reck x_2.fst x_2.snd.fst x_2.snd.snd = i'.snd ∧ AV.sl false (0 : Nat) (1 : Nat) Int intA x.snd.kids = AV.sl false (0 : Nat) (1 : Nat) Int intA x.snd.kids ∧ (↑(List.length x.snd.kids) : Int) = (↑(List.length x.snd.kids) : Int) ∧ i.fst + (1 : Int) = i'.fst ∧ True) ∧ True)))) (∃ (y : Unit), True ∧ i.snd = oI (chainV x.snd.text (List.map (cV x.fst) x.snd.kids)) ∧ true = Option.isSome (chainV x.snd.text (List.map (cV x.fst) x.snd.kids)) ∧ True))) ((∃ (i : Int × Int), cI x.fst x.snd i.fst i.snd ∧ (AV.sl false (0 : Nat) (4 : Nat) Nd (ndA false) x.fst = AV.sl false (0 : Nat) (4 : Nat) Nd (ndA false) x.fst ∧ x.snd.kind = x.snd.kind ∧ x.snd.text = x.snd.text ∧ AV.sl false (0 : Nat) (1 : Nat) Int intA x.snd.kids = AV.sl false (0 : Nat) (1 : Nat) Int intA x.snd.kids ∧ x.snd.blank = x.snd.blank ∧ (0 : Int) = i.snd ∧ AV.sl false (0 : Nat) (1 : Nat) Int intA x.snd.kids = AV.sl false (0 : Nat) (1 : Nat) Int intA x.snd.kids ∧ (↑(List.length x.snd.kids) : Int) = (↑(List.length x.snd.kids) : Int) ∧ (0 : Int) = i.fst ∧ True) ∧ True) ∧ ∀ (i : Int × Int), cI x.fst x.snd i.fst i.snd → bcase (decide (i.fst < (↑(List.length x.snd.kids) : Int))) (((0 : Int) ≤ i.fst ∧ i.fst < (↑(List.length x.snd.kids) : Int)) ∧ ∀ (e : Int), x.snd.kids[Int.toNat i.fst]? = some e → ∃ (x_1 : List Nd × Int), consP n x_1 ∧ AV.sl false (0 : Nat) (4 : Nat) Nd (ndA false) x.fst = AV.sl false (0 : Nat) (4 : Nat) Nd (ndA false) x_1.fst ∧ e = x_1.snd ∧ ∀ (y : Unit), True → bcase (!Option.isSome (cV x_1.fst x_1.snd)) (∃ (y : Unit), True ∧ (0 : Int) = oI (chainV x.snd.text (List.map (cV x.fst) x.snd.kids)) ∧ false = Option.isSome (chainV x.snd.text (List.map (cV x.fst) x.snd.kids)) ∧ True) (bcase (i.fst == (0 : Int)) (inR IntKind.i64 (i.fst + (1 : Int)) ∧ ∃ (i' : Int × Int), cI x.fst x.snd i'.fst i'.snd ∧ List.length x.snd.kids - Int.toNat i'.fst < List.length x.snd.kids - Int.toNat i.fst ∧ (AV.sl false (0 : Nat) (4 : Nat) Nd (ndA false) x.fst = AV.sl false (0 : Nat) (4 : Nat) Nd (ndA false) x.fst ∧ x.snd.kind = x.snd.kind ∧ x.snd.text = x.snd.text ∧ AV.sl false (0 : Nat) (1 : Nat) Int intA x.snd.kids = AV.sl false (0 : Nat) (1 : Nat) Int intA x.snd.kids ∧ x.snd.blank = x.snd.blank ∧ oI (cV x_1.fst x_1.snd) = i'.snd ∧ AV.sl false (0 : Nat) (1 : Nat) Int intA x.snd.kids = AV.sl false (0 : Nat) (1 : Nat) Int intA x.snd.kids ∧ (↑(List.length x.snd.kids) : Int) = (↑(List.length x.snd.kids) : Int) ∧ i.fst + (1 : Int) = i'.fst ∧ True) ∧ True) (∃ (x_2 : List UInt8 × Int × Int), (bdd x_2.snd.fst ∧ bdd x_2.snd.snd) ∧ x.snd.text = x_2.fst ∧ i.snd = x_2.snd.fst ∧ oI (cV x_1.fst x_1.snd) = x_2.snd.snd ∧ ∀ (y : Unit), True → ∃ (x_3 : Int × Int × Int), True ∧ reck x_2.fst x_2.snd.fst x_2.snd.snd = x_3.fst ∧ (-1000000000 : Int) = x_3.snd.fst ∧ (1000000000 : Int) = x_3.snd.snd ∧ ∀ (y : Unit), True → bcase (!inn x_3.fst x_3.snd.fst x_3.snd.snd) (∃ (y : Unit), True ∧ (0 : Int) = oI (chainV x.snd.text (List.map (cV x.fst) x.snd.kids)) ∧ false = Option.isSome (chainV x.snd.text (List.map (cV x.fst) x.snd.kids)) ∧ True) (inR IntKind.i64 (i.fst + (1 : Int)) ∧ ∃ (i' : Int × Int), cI x.fst x.snd i'.fst i'.snd ∧ List.length x.snd.kids - Int.toNat i'.fst < List.length x.snd.kids - Int.toNat i.fst ∧ (AV.sl false (0 : Nat) (4 : Nat) Nd (ndA false) x.fst = AV.sl false (0 : Nat) (4 : Nat) Nd (ndA false) x.fst ∧ x.snd.kind = x.snd.kind ∧ x.snd.text = x.snd.text ∧ AV.sl false (0 : Nat) (1 : Nat) Int intA x.snd.kids = AV.sl false (0 : Nat) (1 : Nat) Int intA x.snd.kids ∧ x.snd.blank = x.snd.blank ∧ reck x_2.fst x_2.snd.fst x_2.snd.snd = i'.snd ∧ AV.sl false (0 : Nat) (1 : Nat) Int intA x.snd.kids = AV.sl false (0 : Nat) (1 : Nat) Int intA x.snd.kids ∧ (↑(List.length x.snd.kids) : Int) = (↑(List.length x.snd.kids) : Int) ∧ i.fst + (1 : Int) = i'.fst ∧ True) ∧ True)))) (∃ (y : Unit), True ∧ i.snd = oI (chainV x.snd.text (List.map (cV x.fst) x.snd.kids)) ∧ true = Option.isSome (chainV x.snd.text (List.map (cV x.fst) x.snd.kids)) ∧ True))) := by kernel_rfl
theorem chainC_ok (n : Nat) (hc : Contract G Go.Proofs.Tryz.prog 130 (s_cR n)) : Contract G Tryz.prog 164 (s_chainC n) :=
  vcFun_ok (Γ := Γof [(130, 0, (s_cR n)), (193, 0, s_reckon), (92, 0, s_inRange)]) (E := Eof []) (ov := false) (L := fun x => Lof ([(5,{ ι := Int × Int, inv := fun i => cI x.1 x.2 i.1 i.2, regs := fun i => [(0, nds x.1), (3, .box 0 (ndA false x.2)), (6, .int .i64 i.2), (25, ints x.2.kids), (26, .int .i64 x.2.kids.length), (27, .int .i64 i.1)], als := [], meas := fun i => x.2.kids.length - i.1.toNat })])) Tryz.func164 rfl (by decide) (Γof_ok (l := [(130, 0, (s_cR n)), (193, 0, s_reckon), (92, 0, s_inRange)]) ⟨hc, reckon_ok, inRange_ok, trivial⟩) fun (x : List Nd × Nd) (hx : okNds x.1 ∧ x.2.kids.length < 2 ^ 62 ∧ ∀ c ∈ x.2.kids, okUp x.1 c ∧ c < n) => (chainC_vc n x).mpr (by
  obtain ⟨h1, h2, h3⟩ := hx
  (repeat' first | with_reducible rfl | exact True.intro | refine inR_i64 ?_ ?_ | with_reducible refine And.intro ?_ ?_ | with_reducible refine bcase_dec (fun _ => ?_) (fun _ => ?_) | with_reducible refine bcase_bne (fun _ => ?_) (fun _ => ?_) | with_reducible refine bcase_beq (fun _ => ?_) (fun _ => ?_) | with_reducible refine bcase_not (fun _ => ?_) (fun _ => ?_) | refine bcase_intro (fun _ => ?_) (fun _ => ?_) | refine sl_eq ?_ | refine ex_flip () ?_ ?_ | (apply ex_flip6 <;> try dsimp only) | (apply ex_flip5 <;> try dsimp only) | (apply ex_flip4 <;> try dsimp only) | (apply ex_flip3 <;> try dsimp only) | (apply ex_flip2 <;> try dsimp only) | apply ex_flip | (refine Prod.forall.2 ?_; intro _; try dsimp only) | (intro _; try dsimp only))
  all_goals first
    | rfl
    | omega
    | exact h1
    | exact cI_init
    | exact cI_first (by assumption) (by assumption) (by assumption) (h3 _ (memE (by assumption))).1 (by assumption)
    | exact cI_next (by assumption) (by assumption) (by assumption) (by assumption) (by assumption)
    | exact ⟨h1, (h3 _ (memE (by assumption))).1, (h3 _ (memE (by assumption))).2⟩
    | exact (show cI _ _ _ _ by assumption).2.2.1
    | exact oI_bd (h3 _ (memE (by assumption))).1
    | (have hcI := (show cI x.1 x.2 _ _ by assumption); have := hcI.1; have := hcI.2.1; (try simp only [i64max]); omega)
    | (simp [chainV, opOk, oI, *]; done)
    | (have hcc := cI_done (by assumption) (by assumption); simp [chainV, opOk, hcc, oI, *]; done)
    | (have hcc := cI_none (by assumption) (by assumption) (by assumption); simp [chainV, opOk, hcc, oI, *]; done)
    | (have hcc := cI_bad (by assumption) (by assumption) (by assumption) (by assumption) (by assumption); simp [chainV, opOk, hcc, oI, *]; done)
    | skip)

theorem consP_kid {n : Nat} {x : List Nd × Int} {y : Nd} {c : Int} (h : consP (n + 1) x) (hy : x.1[x.2.toNat]? = some y) (hc : c ∈ y.kids) : okUp x.1 c ∧ c < n := by
  obtain ⟨h1, h2, h3⟩ := h
  rw [← ndAt_of hy] at hc
  have := okUp_kid h2 hc
  exact ⟨this.1, by omega⟩
theorem consP_2 {n : Nat} {x : List Nd × Int} {y : Nd} (h : consP (n + 1) x) (hy : x.1[x.2.toNat]? = some y) (hk : y.kind = 2) : (y.text.all isFig = true ∧ 1 ≤ y.text.length ∧ y.text.length ≤ 12) ∧ cV x.1 x.2 = if 9 < y.text.length then none else some (figV y.text) := by
  have e := ndAt_of hy
  refine ⟨?_, ?_⟩
  · have := okUp2 h.2.1 (by rw [e]; exact hk); rwa [e] at this
  · rw [cV_def h.2.1, e, if_pos hk]
theorem consP_11 {n : Nat} {x : List Nd × Int} {y : Nd} (h : consP (n + 1) x) (hy : x.1[x.2.toNat]? = some y) (hk : y.kind = 11) : ∃ c, y.kids = [c] ∧ cV x.1 x.2 = cV x.1 c := by
  have e := ndAt_of hy
  obtain ⟨c, hc⟩ := okUp11 h.2.1 (by rw [e]; exact hk)
  rw [e] at hc
  refine ⟨c, hc, ?_⟩
  rw [cV_def h.2.1, e, if_neg (by omega), if_pos hk, hc]; rfl
theorem consP_7 {n : Nat} {x : List Nd × Int} {y : Nd} (h : consP (n + 1) x) (hy : x.1[x.2.toNat]? = some y) (hk : y.kind = 7) : cV x.1 x.2 = chainV y.text (y.kids.map (cV x.1)) := by
  rw [cV_def h.2.1, ndAt_of hy, if_neg (by omega), if_neg (by omega), if_pos hk]
theorem consP_0 {n : Nat} {x : List Nd × Int} {y : Nd} (h : consP (n + 1) x) (hy : x.1[x.2.toNat]? = some y) (h2 : y.kind ≠ 2) (h11 : y.kind ≠ 11) (h7 : y.kind ≠ 7) : cV x.1 x.2 = none := by
  rw [cV_def h.2.1, ndAt_of hy, if_neg h2, if_neg h11, if_neg h7]
def s_constZ  : Sig := { X := List Nd × Int, args := fun x => [nds x.1, .int .i64 x.2], pre := fun x => consP 0 x, Y := Unit, post := fun x y => True, res := fun x y => .tup [.int .i64 (oI (cV x.1 x.2)), .bool (cV x.1 x.2).isSome], outs := fun x y => [.top, .top], keep := false }
theorem constZ_vc (x : List Nd × Int) : vcFun Go.Proofs.Tryz.prog (Γof []) (Eof []) false (Lof ([])) Go.Proofs.Tryz.f130.ntmps Go.Proofs.Tryz.f130.results.toList (Go.Proofs.Tryz.f130.body.getD .skip) s_constZ x = ((∀ (y : Unit), True → (True ∧ True ∧ True) ∧ True ∧ True ∧ True) ∧ ((0 : Int) ≤ x.snd ∧ x.snd < (↑(List.length x.fst) : Int)) ∧ ∀ (e : Nd), x.fst[Int.toNat x.snd]? = some e → bcase (e.kind == (2 : Int)) (bcase (decide ((↑(List.length e.text) : Int) > (9 : Int))) (∃ (y : Unit), True ∧ (0 : Int) = oI (cV x.fst x.snd) ∧ false = Option.isSome (cV x.fst x.snd) ∧ True) False) (bcase (e.kind == (11 : Int)) (((0 : Int) ≤ (0 : Int) ∧ (0 : Int) < (↑(List.length e.kids) : Int)) ∧ ∀ (e_1 : Int), e.kids[(0 : Nat)]? = some e_1 → False) (bcase (e.kind == (7 : Int)) False (∃ (y : Unit), True ∧ (0 : Int) = oI (cV x.fst x.snd) ∧ false = Option.isSome (cV x.fst x.snd) ∧ True)))) := by kernel_rfl
theorem constZ_ok  : Contract G Tryz.prog 130 s_constZ :=
  vcFun_ok (Γ := Γof []) (E := Eof []) (ov := false) (L := fun x => Lof ([])) Tryz.func130 rfl (by decide) (Γof_ok (l := []) trivial) fun (x : List Nd × Int) (hx : consP 0 x) => (constZ_vc  x).mpr (by
  have h1 := hx.2.2; have h2 := isNd_iff.1 hx.2.1.1
  omega)

def s_constS (n : Nat) : Sig := { X := List Nd × Int, args := fun x => [nds x.1, .int .i64 x.2], pre := fun x => consP (n + 1) x, Y := Unit, post := fun x y => True, res := fun x y => .tup [.int .i64 (oI (cV x.1 x.2)), .bool (cV x.1 x.2).isSome], outs := fun x y => [.top, .top], keep := false }
theorem constS_vc (n : Nat) (x : List Nd × Int) : vcFun Go.Proofs.Tryz.prog (Γof [(130, 0, (s_cR n)), (164, 0, (s_chainC n)), (163, 0, s_numberOf)]) (Eof []) false (Lof ([])) Go.Proofs.Tryz.f130.ntmps Go.Proofs.Tryz.f130.results.toList (Go.Proofs.Tryz.f130.body.getD .skip) (s_constS n) x = ((∀ (y : Unit), True → (True ∧ True ∧ True) ∧ True ∧ True ∧ True) ∧ ((0 : Int) ≤ x.snd ∧ x.snd < (↑(List.length x.fst) : Int)) ∧ ∀ (e : Nd), x.fst[Int.toNat x.snd]? = some e → bcase (e.kind == (2 : Int)) (bcase (decide ((↑(List.length e.text) : Int) > (9 : Int))) (∃ (y : Unit), True ∧ (0 : Int) = oI (cV x.fst x.snd) ∧ false = Option.isSome (cV x.fst x.snd) ∧ True) (∃ (x_1 : List UInt8), (List.all x_1 isFig = true ∧ List.length x_1 ≤ (9 : Nat)) ∧ e.text = x_1 ∧ ∀ (y : Unit), True → ∃ (y : Unit), True ∧ figV x_1 = oI (cV x.fst x.snd) ∧ true = Option.isSome (cV x.fst x.snd) ∧ True)) (bcase (e.kind == (11 : Int)) (((0 : Int) ≤ (0 : Int) ∧ (0 : Int) < (↑(List.length e.kids) : Int)) ∧ ∀ (e_1 : Int), e.kids[(0 : Nat)]? = some e_1 → ∃ (x_1 : List Nd × Int), consP n x_1 ∧ AV.sl false (0 : Nat) (4 : Nat) Nd (ndA false) x.fst = AV.sl false (0 : Nat) (4 : Nat) Nd (ndA false) x_1.fst ∧ e_1 = x_1.snd ∧ ∀ (y : Unit), True → ∃ (y : Unit), True ∧ oI (cV x_1.fst x_1.snd) = oI (cV x.fst x.snd) ∧ Option.isSome (cV x_1.fst x_1.snd) = Option.isSome (cV x.fst x.snd) ∧ True) (bcase (e.kind == (7 : Int)) (∃ (x_1 : List Nd × Nd), (okNds x_1.fst ∧ List.length x_1.snd.kids < (4611686018427387904 : Nat) ∧ ∀ (c : Int), c ∈ x_1.snd.kids → okUp x_1.fst c ∧ c < (↑n : Int)) ∧ AV.sl false (0 : Nat) (4 : Nat) Nd (ndA false) x.fst = AV.sl false (0 : Nat) (4 : Nat) Nd (ndA false) x_1.fst ∧ e.kind = x_1.snd.kind ∧ e.text = x_1.snd.text ∧ AV.sl false (0 : Nat) (1 : Nat) Int intA e.kids = AV.sl false (0 : Nat) (1 : Nat) Int intA x_1.snd.kids ∧ e.blank = x_1.snd.blank ∧ ∀ (y : Unit), True → ∃ (y : Unit), True ∧ oI (chainV x_1.snd.text (List.map (cV x_1.fst) x_1.snd.kids)) = oI (cV x.fst x.snd) ∧ Option.isSome (chainV x_1.snd.text (List.map (cV x_1.fst) x_1.snd.kids)) = Option.isSome (cV x.fst x.snd) ∧ True) (∃ (y : Unit), True ∧ (0 : Int) = oI (cV x.fst x.snd) ∧ false = Option.isSome (cV x.fst x.snd) ∧ True)))) := by kernel_rfl
theorem constS_ok (n : Nat) (hc : Contract G Go.Proofs.Tryz.prog 130 (s_cR n)) : Contract G Tryz.prog 130 (s_constS n) :=
  vcFun_ok (Γ := Γof [(130, 0, (s_cR n)), (164, 0, (s_chainC n)), (163, 0, s_numberOf)]) (E := Eof []) (ov := false) (L := fun x => Lof ([])) Tryz.func130 rfl (by decide) (Γof_ok (l := [(130, 0, (s_cR n)), (164, 0, (s_chainC n)), (163, 0, s_numberOf)]) ⟨hc, (chainC_ok n hc), numberOf_ok, trivial⟩) fun (x : List Nd × Int) (hx : consP (n + 1) x) => (constS_vc n x).mpr (by
  have h1 := hx.1; have hl := h1.1; have hn := isNd_iff.1 hx.2.1.1
  (repeat' first | with_reducible rfl | exact True.intro | refine inR_i64 ?_ ?_ | with_reducible refine And.intro ?_ ?_ | with_reducible refine bcase_dec (fun _ => ?_) (fun _ => ?_) | with_reducible refine bcase_bne (fun _ => ?_) (fun _ => ?_) | with_reducible refine bcase_beq (fun _ => ?_) (fun _ => ?_) | with_reducible refine bcase_not (fun _ => ?_) (fun _ => ?_) | refine bcase_intro (fun _ => ?_) (fun _ => ?_) | refine sl_eq ?_ | refine ex_flip () ?_ ?_ | (apply ex_flip6 <;> try dsimp only) | (apply ex_flip5 <;> try dsimp only) | (apply ex_flip4 <;> try dsimp only) | (apply ex_flip3 <;> try dsimp only) | (apply ex_flip2 <;> try dsimp only) | apply ex_flip | (refine Prod.forall.2 ?_; intro _; try dsimp only) | (intro _; try dsimp only))
  all_goals first
    | omega
    | exact h1
    | exact (okNds_at (by assumption) h1).2
    | (have h2 := consP_2 hx (by assumption) (by assumption); rw [h2.2]; first | (rw [if_pos (by omega)]; rfl) | (rw [if_neg (by omega)]; rfl))
    | exact (consP_2 hx (by assumption) (by assumption)).1.1
    | (have hcc := consP_kid hx (by assumption) (memE (by assumption)); exact ⟨h1, hcc.1, hcc.2⟩)
    | exact (consP_kid hx (by assumption) (by assumption)).1
    | exact (consP_kid hx (by assumption) (by assumption)).2
    | (rw [consP_7 hx (by assumption) (by assumption)]; done)
    | (rw [consP_0 hx (by assumption) (by assumption) (by assumption) (by assumption)]; rfl)
    | (obtain ⟨c, hk, hv⟩ := consP_11 hx (by assumption) (by assumption); have h0 := (show (Nd.kids _)[0]? = some _ by assumption); rw [hk] at h0; cases h0; rw [hv]; done)
    | (obtain ⟨c, hk, hv⟩ := consP_11 hx (by assumption) (by assumption); rw [hk]; simp; done)
    | skip)

end Go.My
end
section
/- What is reckoned ahead: the reference's functions. -/
set_option linter.unusedVariables false
set_option linter.unusedSimpArgs false
namespace Go.My
open Go.Eng Go.Proofs
variable {G : GInv}

theorem constOf_all : ∀ n : Nat, Contract G Go.Proofs.Tryz.prog 130 (s_cR n)
  | 0 => constZ_ok
  | n + 1 => constS_ok n (constOf_all n)
theorem opt_cases {o : Option Int} : (o.isSome = true ∧ o = some (oI o)) ∨ (o.isSome = false ∧ o = none) := by
  cases o with
  | none => exact .inr ⟨rfl, rfl⟩
  | some v => exact .inl ⟨rfl, rfl⟩
def s_l24Figures  : Sig := { X := List UInt8, args := fun x => [.str x], pre := fun x => x.all isFig = true ∧ 1 ≤ x.length ∧ x.length ≤ 12, Y := Unit, post := fun x y => True, res := fun x y => .tup [.int .i64 (if 9 < x.length then 0 else figV x), .bool (decide (x.length ≤ 9))], outs := fun x y => [.top], keep := false }
theorem l24Figures_vc (x : List UInt8) : vcFun Go.Proofs.Tryz.prog (Γof [(220, 0, s_l04Figure)]) (Eof []) false (Lof ([(3,{ ι := Int, inv := fun i => 0 ≤ i ∧ i ≤ x.length ∧ (i = 0 ∨ x.length ≤ 9), regs := fun i => [(0, .str x), (4, .int .i64 (figV (x.take i.toNat))), (5, .int .i64 i)], als := [], meas := fun i => x.length - i.toNat })])) Go.Proofs.Tryz.f192.ntmps Go.Proofs.Tryz.f192.results.toList (Go.Proofs.Tryz.f192.body.getD .skip) s_l24Figures x = ((∀ (y : Unit), True → (True ∧ True ∧ True) ∧ True ∧ True) ∧ (∃ (i : Int), ((0 : Int) ≤ i ∧ i ≤ (↑(List.length x) : Int) ∧ (i = (0 : Int) ∨ List.length x ≤ (9 : Nat))) ∧ (x = x ∧ (0 : Int) = figV (List.take (Int.toNat i) x) ∧ (0 : Int) = i ∧ True) ∧ True) ∧ ∀ (i : Int), (0 : Int) ≤ i ∧ i ≤ (↑(List.length x) : Int) ∧ (i = (0 : Int) ∨ List.length x ≤ (9 : Nat)) → bcase (decide (i < (↑(List.length x) : Int))) (((0 : Int) ≤ i ∧ i < (↑(List.length x) : Int)) ∧ ∀ (c : UInt8), x[Int.toNat i]? = some c → ∃ (x_1 : UInt8), True ∧ (↑(UInt8.toNat c) : Int) = (↑(UInt8.toNat x_1) : Int) ∧ ∀ (y : Unit), True → bcase (!isFig x_1) (∃ (y : Unit), True ∧ ((0 : Int) = if (9 : Nat) < List.length x then (0 : Int) else figV x) ∧ false = decide (List.length x ≤ (9 : Nat)) ∧ True) (inR IntKind.i64 ((10 : Int) * figV (List.take (Int.toNat i) x)) ∧ ((0 : Int) ≤ i ∧ i < (↑(List.length x) : Int)) ∧ ∀ (c : UInt8), x[Int.toNat i]? = some c → inR IntKind.i64 (↑(UInt8.toNat c) : Int) ∧ inR IntKind.i64 ((10 : Int) * figV (List.take (Int.toNat i) x) + (↑(UInt8.toNat c) : Int)) ∧ inR IntKind.i64 ((10 : Int) * figV (List.take (Int.toNat i) x) + (↑(UInt8.toNat c) : Int) - (48 : Int)) ∧ bcase (decide ((↑(List.length x) : Int) > (9 : Int))) (∃ (y : Unit), True ∧ ((0 : Int) = if (9 : Nat) < List.length x then (0 : Int) else figV x) ∧ false = decide (List.length x ≤ (9 : Nat)) ∧ True) (inR IntKind.i64 (i + (1 : Int)) ∧ ∃ (i' : Int), ((0 : Int) ≤ i' ∧ i' ≤ (↑(List.length x) : Int) ∧ (i' = (0 : Int) ∨ List.length x ≤ (9 : Nat))) ∧ List.length x - Int.toNat i' < List.length x - Int.toNat i ∧ (x = x ∧ (10 : Int) * figV (List.take (Int.toNat i) x) + (↑(UInt8.toNat c) : Int) - (48 : Int) = figV (List.take (Int.toNat i') x) ∧ i + (1 : Int) = i' ∧ True) ∧ True))) (∃ (y : Unit), True ∧ (figV (List.take (Int.toNat i) x) = if (9 : Nat) < List.length x then (0 : Int) else figV x) ∧ decide ((↑(List.length x) : Int) > (0 : Int)) = decide (List.length x ≤ (9 : Nat)) ∧ True)) := by kernel_rfl
theorem l24Figures_ok  : Contract G Tryz.prog 192 s_l24Figures :=
  vcFun_ok (Γ := Γof [(220, 0, s_l04Figure)]) (E := Eof []) (ov := false) (L := fun x => Lof ([(3,{ ι := Int, inv := fun i => 0 ≤ i ∧ i ≤ x.length ∧ (i = 0 ∨ x.length ≤ 9), regs := fun i => [(0, .str x), (4, .int .i64 (figV (x.take i.toNat))), (5, .int .i64 i)], als := [], meas := fun i => x.length - i.toNat })])) Tryz.func192 rfl (by decide) (Γof_ok (l := [(220, 0, s_l04Figure)]) ⟨l04Figure_ok, trivial⟩) fun (x : List UInt8) (hx : x.all isFig = true ∧ 1 ≤ x.length ∧ x.length ≤ 12) => (l24Figures_vc  x).mpr (by
  obtain ⟨h1, h2, h3⟩ := hx
  have hb : ∀ i : Int, i = 0 ∨ x.length ≤ 9 → 0 ≤ figV (x.take i.toNat) ∧ figV (x.take i.toNat) < 1000000000 := fun i hi => figV_bd (List.all_eq_true.2 fun c hc => List.all_eq_true.1 h1 c (List.mem_of_mem_take hc)) (by simp; omega)
  (repeat' first | with_reducible rfl | exact True.intro | refine inR_i64 ?_ ?_ | with_reducible refine And.intro ?_ ?_ | with_reducible refine bcase_dec (fun _ => ?_) (fun _ => ?_) | with_reducible refine bcase_bne (fun _ => ?_) (fun _ => ?_) | with_reducible refine bcase_beq (fun _ => ?_) (fun _ => ?_) | with_reducible refine bcase_not (fun _ => ?_) (fun _ => ?_) | refine bcase_intro (fun _ => ?_) (fun _ => ?_) | refine sl_eq ?_ | refine ex_flip () ?_ ?_ | (apply ex_flip6 <;> try dsimp only) | (apply ex_flip5 <;> try dsimp only) | (apply ex_flip4 <;> try dsimp only) | (apply ex_flip3 <;> try dsimp only) | (apply ex_flip2 <;> try dsimp only) | apply ex_flip | (refine Prod.forall.2 ?_; intro _; try dsimp only) | (intro _; try dsimp only))
  all_goals try (have hf := fig_at h1 (show x[Int.toNat _]? = some _ by assumption))
  all_goals try (have hbb := hb _ (show _ ∧ _ ∧ _ by assumption).2.2)
  all_goals first
    | rfl
    | omega
    | ((try simp only [i64max]); omega)
    | (simp [isFig] at *; omega)
    | (rw [toNat1 (by omega), figV_take (by assumption)]; omega)
    | (rw [List.take_of_length_le (by omega), if_neg (by omega)]; done)
    | (rw [if_pos (by omega)]; done)
    | (rw [decide_eq_decide]; omega)
    | (symm; exact decide_eq_false (by omega))
    | skip)

def s_lR (n : Nat) : Sig := { X := List Nd × Int, args := fun x => [nds x.1, .int .i64 x.2], pre := fun x => consP n x, Y := Unit, post := fun x y => True, res := fun x y => .tup [.int .i64 (oI (cV x.1 x.2)), .bool (cV x.1 x.2).isSome], outs := fun x y => [.top, .top], keep := false }
def lc (ns : List Nd) (x : Nd) (i a : Int) (ok : Bool) : Prop := 1 ≤ i ∧ i ≤ x.kids.length ∧ (ok = true → bdd a ∧ chainF x.text ((x.kids.take i.toNat).map (cV ns)) = some a) ∧ (ok = false → chainF x.text ((x.kids.take i.toNat).map (cV ns)) = none)
theorem lc_init {ns : List Nd} {x : Nd} {c : Int} (hc : x.kids[0]? = some c) (hu : okUp ns c) : lc ns x 1 (oI (cV ns c)) (cV ns c).isSome := by
  have := (getE hc).1
  have e : (x.kids.take (1 : Int).toNat).map (cV ns) = [cV ns c] := by
    rw [show (1 : Int).toNat = 0 + 1 from rfl, takeE hc]; rfl
  refine ⟨by omega, by omega, fun h => ⟨oI_bd hu, ?_⟩, fun h => ?_⟩
  · rw [e]; simp only [chainF, List.foldl_nil]; exact some_oI h
  · rw [e]; simp only [chainF, List.foldl_nil]
    rcases opt_cases (o := cV ns c) with h1 | h2
    · rw [h1.1] at h; cases h
    · exact h2.2
theorem lc_snoc {ns : List Nd} {x : Nd} {i a c : Int} (h : lc ns x i a true) (hc : x.kids[i.toNat]? = some c) : chainF x.text ((x.kids.take (i + 1).toNat).map (cV ns)) = stepV x.text (some a) (cV ns c) := by
  have h1 := h.1
  have := (getE hc).1
  rw [toNat1 (by omega), takeE hc, List.map_append, List.map_cons, List.map_nil, chainF_snoc, (h.2.2.1 rfl).2]
  intro e
  simp only [List.map_eq_nil_iff, List.take_eq_nil_iff] at e
  rcases e with e | e
  · omega
  · rw [e] at this; simp at this
theorem lc_no {ns : List Nd} {x : Nd} {i a c r : Int} (h : lc ns x i a true) (hc : x.kids[i.toNat]? = some c) (hs : (cV ns c).isSome = false) : lc ns x (i + 1) r false := by
  have := (getE hc).1
  have h1 := h.1
  refine ⟨by omega, by omega, fun h => (by cases h), fun _ => ?_⟩
  rw [lc_snoc h hc]
  rcases opt_cases (o := cV ns c) with h1 | h2
  · rw [h1.1] at hs; cases hs
  · rw [h2.2]; rfl
theorem lc_yes {ns : List Nd} {x : Nd} {i a c r : Int} (h : lc ns x i a true) (hc : x.kids[i.toNat]? = some c) (hs : (cV ns c).isSome = true) (hr : r = reck x.text a (oI (cV ns c))) : lc ns x (i + 1) r (inn r (-1000000000) 1000000000) := by
  have := (getE hc).1
  have h1 := h.1
  have e := lc_snoc h hc
  rw [some_oI hs] at e
  simp only [stepV] at e
  rw [← hr] at e
  refine ⟨by omega, by omega, fun hb => ?_, fun hb => ?_⟩
  · rw [if_pos hb] at e; exact ⟨inn_iff.1 hb, e⟩
  · rw [if_neg (by simp [hb])] at e; exact e
theorem lc_none {ns : List Nd} {x : Nd} {i a : Int} (h : lc ns x i a false) : chainF x.text (x.kids.map (cV ns)) = none := by
  have e : x.kids = x.kids.take i.toNat ++ x.kids.drop i.toNat := (List.take_append_drop _ _).symm
  have h1 := h.2.2.2 rfl
  rw [e, List.map_append]
  refine chainF_none ?_ h1
  intro e2; rw [e2] at h1; cases h1
theorem lc_some {ns : List Nd} {x : Nd} {i a : Int} (h : lc ns x i a true) (hl : ¬ i < x.kids.length) : chainF x.text (x.kids.map (cV ns)) = some a := by
  have h1 := (h.2.2.1 rfl).2
  rwa [List.take_of_length_le (by have := h.1; omega)] at h1
def lL (x : List Nd × Int) : LS := {
  ι := Int × Int × Bool, inv := fun i => lc x.1 (ndAt x.1 x.2) i.1 i.2.1 i.2.2,
  regs := fun i => [(0, nds x.1), (6, .box 0 (ndA false (ndAt x.1 x.2))), (7, .int .i64 i.2.1), (8, .bool i.2.2), (9, .int .i64 i.1)], als := [], meas := fun i => (ndAt x.1 x.2).kids.length - i.1.toNat }
def lLJ (x : List Nd × Int) : LS := {
  ι := Unit, inv := fun _ => opOk (ndAt x.1 x.2).text = true,
  regs := fun i => [(0, nds x.1), (6, .box 0 (ndA false (ndAt x.1 x.2)))], als := [], meas := fun i => 0 }
theorem consP_len {n : Nat} {x : List Nd × Int} {y : Nd} (h : consP (n + 1) x) (hy : x.1[x.2.toNat]? = some y) (hk : y.kind = 7) : 2 ≤ y.kids.length := by
  have := okUp7 h.2.1 (by rw [ndAt_of hy]; exact hk); rwa [ndAt_of hy] at this
def s_l25Z  : Sig := { X := List Nd × Int, args := fun x => [nds x.1, .int .i64 x.2], pre := fun x => consP 0 x, Y := Unit, post := fun x y => True, res := fun x y => .tup [.int .i64 (oI (cV x.1 x.2)), .bool (cV x.1 x.2).isSome], outs := fun x y => [.top, .top], keep := false }
theorem l25Z_vc (x : List Nd × Int) : vcFun Go.Proofs.Tryz.prog (Γof []) (Eof []) false (Lof ([])) Go.Proofs.Tryz.f161.ntmps Go.Proofs.Tryz.f161.results.toList (Go.Proofs.Tryz.f161.body.getD .skip) s_l25Z x = ((∀ (y : Unit), True → (True ∧ True ∧ True) ∧ True ∧ True ∧ True) ∧ ((0 : Int) ≤ x.snd ∧ x.snd < (↑(List.length x.fst) : Int)) ∧ ∀ (e : Nd), x.fst[Int.toNat x.snd]? = some e → bcase (e.kind == (2 : Int)) False (bcase (e.kind == (11 : Int)) (((0 : Int) ≤ (0 : Int) ∧ (0 : Int) < (↑(List.length e.kids) : Int)) ∧ ∀ (e_1 : Int), e.kids[(0 : Nat)]? = some e_1 → False) (bcase (e.kind == (7 : Int)) (bcase (!e.text == #[(43 : UInt8)].toList) (bcase (!e.text == #[(45 : UInt8)].toList) (bcase (!e.text == #[(42 : UInt8)].toList) (∃ (y : Unit), True ∧ (0 : Int) = oI (cV x.fst x.snd) ∧ false = Option.isSome (cV x.fst x.snd) ∧ True) (((0 : Int) ≤ (0 : Int) ∧ (0 : Int) < (↑(List.length e.kids) : Int)) ∧ ∀ (e_1 : Int), e.kids[(0 : Nat)]? = some e_1 → False)) (((0 : Int) ≤ (0 : Int) ∧ (0 : Int) < (↑(List.length e.kids) : Int)) ∧ ∀ (e_1 : Int), e.kids[(0 : Nat)]? = some e_1 → False)) (((0 : Int) ≤ (0 : Int) ∧ (0 : Int) < (↑(List.length e.kids) : Int)) ∧ ∀ (e_1 : Int), e.kids[(0 : Nat)]? = some e_1 → False)) (∃ (y : Unit), True ∧ (0 : Int) = oI (cV x.fst x.snd) ∧ false = Option.isSome (cV x.fst x.snd) ∧ True)))) := by kernel_rfl
theorem l25Z_ok  : Contract G Tryz.prog 161 s_l25Z :=
  vcFun_ok (Γ := Γof []) (E := Eof []) (ov := false) (L := fun x => Lof ([])) Tryz.func161 rfl (by decide) (Γof_ok (l := []) trivial) fun (x : List Nd × Int) (hx : consP 0 x) => (l25Z_vc  x).mpr (by
  have h1 := hx.2.2; have h2 := isNd_iff.1 hx.2.1.1
  omega)

def s_l25S (n : Nat) : Sig := { X := List Nd × Int, args := fun x => [nds x.1, .int .i64 x.2], pre := fun x => consP (n + 1) x, Y := Unit, post := fun x y => True, res := fun x y => .tup [.int .i64 (oI (cV x.1 x.2)), .bool (cV x.1 x.2).isSome], outs := fun x y => [.top, .top], keep := false }
theorem l25S_vc (n : Nat) (x : List Nd × Int) : vcFun Go.Proofs.Tryz.prog (Γof [(161, 0, (s_lR n)), (192, 0, s_l24Figures), (84, 0, s_l01In)]) (Eof []) false (Lof ([(12,lL x), (200010,lLJ x)])) Go.Proofs.Tryz.f161.ntmps Go.Proofs.Tryz.f161.results.toList (Go.Proofs.Tryz.f161.body.getD .skip) (s_l25S n) x = ((∀ (y : Unit), True → (True ∧ True ∧ True) ∧ True ∧ True ∧ True) ∧ ((0 : Int) ≤ x.snd ∧ x.snd < (↑(List.length x.fst) : Int)) ∧ ∀ (e : Nd), x.fst[Int.toNat x.snd]? = some e → bcase (e.kind == (2 : Int)) (∃ (x_1 : List UInt8), (List.all x_1 isFig = true ∧ (1 : Nat) ≤ List.length x_1 ∧ List.length x_1 ≤ (12 : Nat)) ∧ e.text = x_1 ∧ ∀ (y : Unit), True → ∃ (y : Unit), True ∧ (if (9 : Nat) < List.length x_1 then (0 : Int) else figV x_1) = oI (cV x.fst x.snd) ∧ decide (List.length x_1 ≤ (9 : Nat)) = Option.isSome (cV x.fst x.snd) ∧ True) (bcase (e.kind == (11 : Int)) (((0 : Int) ≤ (0 : Int) ∧ (0 : Int) < (↑(List.length e.kids) : Int)) ∧ ∀ (e_1 : Int), e.kids[(0 : Nat)]? = some e_1 → ∃ (x_1 : List Nd × Int), consP n x_1 ∧ AV.sl false (0 : Nat) (4 : Nat) Nd (ndA false) x.fst = AV.sl false (0 : Nat) (4 : Nat) Nd (ndA false) x_1.fst ∧ e_1 = x_1.snd ∧ ∀ (y : Unit), True → ∃ (y : Unit), True ∧ oI (cV x_1.fst x_1.snd) = oI (cV x.fst x.snd) ∧ Option.isSome (cV x_1.fst x_1.snd) = Option.isSome (cV x.fst x.snd) ∧ True) (bcase (e.kind == (7 : Int)) (bcase (!e.text == #[(43 : UInt8)].toList) (bcase (!e.text == #[(45 : UInt8)].toList) (bcase (!e.text == #[(42 : UInt8)].toList) (∃ (y : Unit), True ∧ (0 : Int) = oI (cV x.fst x.snd) ∧ false = Option.isSome (cV x.fst x.snd) ∧ True) (∃ (i : Unit), opOk (ndAt x.fst x.snd).text = true ∧ (AV.sl false (0 : Nat) (4 : Nat) Nd (ndA false) x.fst = AV.sl false (0 : Nat) (4 : Nat) Nd (ndA false) x.fst ∧ e.kind = (ndAt x.fst x.snd).kind ∧ e.text = (ndAt x.fst x.snd).text ∧ AV.sl false (0 : Nat) (1 : Nat) Int intA e.kids = AV.sl false (0 : Nat) (1 : Nat) Int intA (ndAt x.fst x.snd).kids ∧ e.blank = (ndAt x.fst x.snd).blank ∧ True) ∧ True)) (∃ (i : Unit), opOk (ndAt x.fst x.snd).text = true ∧ (AV.sl false (0 : Nat) (4 : Nat) Nd (ndA false) x.fst = AV.sl false (0 : Nat) (4 : Nat) Nd (ndA false) x.fst ∧ e.kind = (ndAt x.fst x.snd).kind ∧ e.text = (ndAt x.fst x.snd).text ∧ AV.sl false (0 : Nat) (1 : Nat) Int intA e.kids = AV.sl false (0 : Nat) (1 : Nat) Int intA (ndAt x.fst x.snd).kids ∧ e.blank = (ndAt x.fst x.snd).blank ∧ True) ∧ True)) (∃ (i : Unit), opOk (ndAt x.fst x.snd).text = true ∧ (AV.sl false (0 : Nat) (4 : Nat) Nd (ndA false) x.fst = AV.sl false (0 : Nat) (4 : Nat) Nd (ndA false) x.fst ∧ e.kind = (ndAt x.fst x.snd).kind ∧ e.text = (ndAt x.fst x.snd).text ∧ AV.sl false (0 : Nat) (1 : Nat) Int intA e.kids = AV.sl false (0 : Nat) (1 : Nat) Int intA (ndAt x.fst x.snd).kids ∧ e.blank = (ndAt x.fst x.snd).blank ∧ True) ∧ True) ∧ ∀ (i : Unit), opOk (ndAt x.fst x.snd).text = true → ((0 : Int) ≤ (0 : Int) ∧ (0 : Int) < (↑(List.length (ndAt x.fst x.snd).kids) : Int)) ∧ ∀ (e : Int), (ndAt x.fst x.snd).kids[(0 : Nat)]? = some e → ∃ (x_1 : List Nd × Int), consP n x_1 ∧ AV.sl false (0 : Nat) (4 : Nat) Nd (ndA false) x.fst = AV.sl false (0 : Nat) (4 : Nat) Nd (ndA false) x_1.fst ∧ e = x_1.snd ∧ ∀ (y : Unit), True → (∃ (i : Int × Int × Bool), lc x.fst (ndAt x.fst x.snd) i.fst i.snd.fst i.snd.snd ∧ (AV.sl false (0 : Nat) (4 : Nat) Nd (ndA false) x.fst = AV.sl false (0 : Nat) (4 : Nat) Nd (ndA false) x.fst ∧ (ndAt x.fst x.snd).kind = (ndAt x.fst x.snd).kind ∧ (ndAt x.fst x.snd).text = (ndAt x.fst x.snd).text ∧ AV.sl false (0 : Nat) (1 : Nat) Int intA (ndAt x.fst x.snd).kids = AV.sl false (0 : Nat) (1 : Nat) Int intA (ndAt x.fst x.snd).kids ∧ (ndAt x.fst x.snd).blank = (ndAt x.fst x.snd).blank ∧ oI (cV x_1.fst x_1.snd) = i.snd.fst ∧ Option.isSome (cV x_1.fst x_1.snd) = i.snd.snd ∧ (1 : Int) = i.fst ∧ True) ∧ True) ∧ ∀ (i : Int × Int × Bool), lc x.fst (ndAt x.fst x.snd) i.fst i.snd.fst i.snd.snd → bcase (decide (i.fst < (↑(List.length (ndAt x.fst x.snd).kids) : Int))) (bcase i.snd.snd (((0 : Int) ≤ i.fst ∧ i.fst < (↑(List.length (ndAt x.fst x.snd).kids) : Int)) ∧ ∀ (e : Int), (ndAt x.fst x.snd).kids[Int.toNat i.fst]? = some e → ∃ (x_2 : List Nd × Int), consP n x_2 ∧ AV.sl false (0 : Nat) (4 : Nat) Nd (ndA false) x.fst = AV.sl false (0 : Nat) (4 : Nat) Nd (ndA false) x_2.fst ∧ e = x_2.snd ∧ ∀ (y : Unit), True → bcase ((ndAt x.fst x.snd).text == #[(43 : UInt8)].toList) (inR IntKind.i64 (i.snd.fst + oI (cV x_2.fst x_2.snd)) ∧ bcase (Option.isSome (cV x_2.fst x_2.snd)) (∃ (x_3 : Int × Int × Int), True ∧ i.snd.fst + oI (cV x_2.fst x_2.snd) = x_3.fst ∧ (-1000000000 : Int) = x_3.snd.fst ∧ (1000000000 : Int) = x_3.snd.snd ∧ ∀ (y : Unit), True → inR IntKind.i64 (i.fst + (1 : Int)) ∧ ∃ (i' : Int × Int × Bool), lc x.fst (ndAt x.fst x.snd) i'.fst i'.snd.fst i'.snd.snd ∧ List.length (ndAt x.fst x.snd).kids - Int.toNat i'.fst < List.length (ndAt x.fst x.snd).kids - Int.toNat i.fst ∧ (AV.sl false (0 : Nat) (4 : Nat) Nd (ndA false) x.fst = AV.sl false (0 : Nat) (4 : Nat) Nd (ndA false) x.fst ∧ (ndAt x.fst x.snd).kind = (ndAt x.fst x.snd).kind ∧ (ndAt x.fst x.snd).text = (ndAt x.fst x.snd).text ∧ AV.sl false (0 : Nat) (1 : Nat) Int intA (ndAt x.fst x.snd).kids = AV.sl false (0 : Nat) (1 : Nat) Int intA (ndAt x.fst x.snd).kids ∧ (ndAt x.fst x.snd).blank = (ndAt x.fst x.snd).blank ∧ i.snd.fst + oI (cV x_2.fst x_2.snd) = i'.snd.fst ∧ inn x_3.fst x_3.snd.fst x_3.snd.snd = i'.snd.snd ∧ i.fst + (1 : Int) = i'.fst ∧ True) ∧ True) (inR IntKind.i64 (i.fst + (1 : Int)) ∧ ∃ (i' : Int × Int × Bool), lc x.fst (ndAt x.fst x.snd) i'.fst i'.snd.fst i'.snd.snd ∧ List.length (ndAt x.fst x.snd).kids - Int.toNat i'.fst < List.length (ndAt x.fst x.snd).kids - Int.toNat i.fst ∧ (AV.sl false (0 : Nat) (4 : Nat) Nd (ndA false) x.fst = AV.sl false (0 : Nat) (4 : Nat) Nd (ndA false) x.fst ∧ (ndAt x.fst x.snd).kind = (ndAt x.fst x.snd).kind ∧ (ndAt x.fst x.snd).text = (ndAt x.fst x.snd).text ∧ AV.sl false (0 : Nat) (1 : Nat) Int intA (ndAt x.fst x.snd).kids = AV.sl false (0 : Nat) (1 : Nat) Int intA (ndAt x.fst x.snd).kids ∧ (ndAt x.fst x.snd).blank = (ndAt x.fst x.snd).blank ∧ i.snd.fst + oI (cV x_2.fst x_2.snd) = i'.snd.fst ∧ false = i'.snd.snd ∧ i.fst + (1 : Int) = i'.fst ∧ True) ∧ True)) (bcase ((ndAt x.fst x.snd).text == #[(45 : UInt8)].toList) (inR IntKind.i64 (i.snd.fst - oI (cV x_2.fst x_2.snd)) ∧ bcase (Option.isSome (cV x_2.fst x_2.snd)) (∃ (x_3 : Int × Int × Int), True ∧ i.snd.fst - oI (cV x_2.fst x_2.snd) = x_3.fst ∧ (-1000000000 : Int) = x_3.snd.fst ∧ (1000000000 : Int) = x_3.snd.snd ∧ ∀ (y : Unit), True → inR IntKind.i64 (i.fst + (1 : Int)) ∧ ∃ (i' : Int × Int × Bool), lc x.fst (ndAt x.fst x.snd) i'.fst i'.snd.fst i'.snd.snd ∧ List.length (ndAt x.fst x.snd).kids - Int.toNat i'.fst < List.length (ndAt x.fst x.snd).kids - Int.toNat i.fst ∧ (AV.sl false (0 : Nat) (4 : Nat) Nd (ndA false) x.fst = AV.sl false (0 : Nat) (4 : Nat) Nd (ndA false) x.fst ∧ (ndAt x.fst x.snd).kind = (ndAt x.fst x.snd).kind ∧ (ndAt x.fst x.snd).text = (ndAt x.fst x.snd).text ∧ AV.sl false (0 : Nat) (1 : Nat) Int intA (ndAt x.fst x.snd).kids = AV.sl false (0 : Nat) (1 : Nat) Int intA (ndAt x.fst x.snd).kids ∧ (ndAt x.fst x.snd).blank = (ndAt x.fst x.snd).blank ∧ i.snd.fst - oI (cV x_2.fst x_2.snd) = i'.snd.fst ∧ inn x_3.fst x_3.snd.fst x_3.snd.snd = i'.snd.snd ∧ i.fst + (1 : Int) = i'.fst ∧ True) ∧ True) (inR IntKind.i64 (i.fst + (1 : Int)) ∧ ∃ (i' : Int × Int × Bool), lc x.fst (ndAt x.fst x.snd) i'.fst i'.snd.fst i'.snd.snd ∧ List.length (ndAt x.fst x.snd).kids - Int.toNat i'.fst < List.length (ndAt x.fst x.snd).kids - Int.toNat i.fst ∧ (AV.sl false (0 : Nat) (4 : Nat) Nd (ndA false) x.fst = AV.sl false (0 : Nat) (4 : Nat) Nd (ndA false) x.fst ∧ (ndAt x.fst x.snd).kind = (ndAt x.fst x.snd).kind ∧ (ndAt x.fst x.snd).text = (ndAt x.fst x.snd).text ∧ AV.sl false (0 : Nat) (1 : Nat) Int intA (ndAt x.fst x.snd).kids = AV.sl false (0 : Nat) (1 : Nat) Int intA (ndAt x.fst x.snd).kids ∧ (ndAt x.fst x.snd).blank = (ndAt x.fst x.snd).blank ∧ i.snd.fst - oI (cV x_2.fst x_2.snd) = i'.snd.fst ∧ false = i'.snd.snd ∧ i.fst + (1 : Int) = i'.fst ∧ True) ∧ True)) (inR IntKind.i64 (i.snd.fst * oI (cV x_2.fst x_2.snd)) ∧ bcase (Option.isSome (cV x_2.fst x_2.snd)) (∃ (x_3 : Int × Int × Int), True ∧ i.snd.fst * oI (cV x_2.fst x_2.snd) = x_3.fst ∧ (-1000000000 : Int) = x_3.snd.fst ∧ (1000000000 : Int) = x_3.snd.snd ∧ ∀ (y : Unit), True → inR IntKind.i64 (i.fst + (1 : Int)) ∧ ∃ (i' : Int × Int × Bool), lc x.fst (ndAt x.fst x.snd) i'.fst i'.snd.fst i'.snd.snd ∧ List.length (ndAt x.fst x.snd).kids - Int.toNat i'.fst < List.length (ndAt x.fst x.snd).kids - Int.toNat i.fst ∧ (AV.sl false (0 : Nat) (4 : Nat) Nd (ndA false) x.fst = AV.sl false (0 : Nat) (4 : Nat) Nd (ndA false) x.fst ∧ (ndAt x.fst x.snd).kind = (ndAt x.fst x.snd).kind ∧ (ndAt x.fst x.snd).text = (ndAt x.fst x.snd).text ∧ AV.sl false (0 : Nat) (1 : Nat) Int intA (ndAt x.fst x.snd).kids = AV.sl false (0 : Nat) (1 : Nat) Int intA (ndAt x.fst x.snd).kids ∧ (ndAt x.fst x.snd).blank = (ndAt x.fst x.snd).blank ∧ i.snd.fst * oI (cV x_2.fst x_2.snd) = i'.snd.fst ∧ inn x_3.fst x_3.snd.fst x_3.snd.snd = i'.snd.snd ∧ i.fst + (1 : Int) = i'.fst ∧ True) ∧ True) (inR IntKind.i64 (i.fst + (1 : Int)) ∧ ∃ (i' : Int × Int × Bool), lc x.fst (ndAt x.fst x.snd) i'.fst i'.snd.fst i'.snd.snd ∧ List.length (ndAt x.fst x.snd).kids - Int.toNat i'.fst < List.length (ndAt x.fst x.snd).kids - Int.toNat i.fst ∧ (AV.sl false (0 : Nat) (4 : Nat) Nd (ndA false) x.fst = AV.sl false (0 : Nat) (4 : Nat) Nd (ndA false) x.fst ∧ (ndAt x.fst x.snd).kind = (ndAt x.fst x.snd).kind ∧ (ndAt x.fst x.snd).text = (ndAt x.fst x.snd).text ∧ AV.sl false (0 : Nat) (1 : Nat) Int intA (ndAt x.fst x.snd).kids = AV.sl false (0 : Nat) (1 : Nat) Int intA (ndAt x.fst x.snd).kids ∧ (ndAt x.fst x.snd).blank = (ndAt x.fst x.snd).blank ∧ i.snd.fst * oI (cV x_2.fst x_2.snd) = i'.snd.fst ∧ false = i'.snd.snd ∧ i.fst + (1 : Int) = i'.fst ∧ True) ∧ True)))) (bcase i.snd.snd (∃ (y : Unit), True ∧ i.snd.fst = oI (cV x.fst x.snd) ∧ true = Option.isSome (cV x.fst x.snd) ∧ True) (∃ (y : Unit), True ∧ (0 : Int) = oI (cV x.fst x.snd) ∧ false = Option.isSome (cV x.fst x.snd) ∧ True))) (bcase i.snd.snd (∃ (y : Unit), True ∧ i.snd.fst = oI (cV x.fst x.snd) ∧ true = Option.isSome (cV x.fst x.snd) ∧ True) (∃ (y : Unit), True ∧ (0 : Int) = oI (cV x.fst x.snd) ∧ false = Option.isSome (cV x.fst x.snd) ∧ True))) (∃ (y : Unit), True ∧ (0 : Int) = oI (cV x.fst x.snd) ∧ false = Option.isSome (cV x.fst x.snd) ∧ True)))) := by kernel_rfl
set_option maxHeartbeats 4000000 in
theorem l25S_ok (n : Nat) (hc : Contract G Go.Proofs.Tryz.prog 161 (s_lR n)) : Contract G Tryz.prog 161 (s_l25S n) :=
  vcFun_ok (Γ := Γof [(161, 0, (s_lR n)), (192, 0, s_l24Figures), (84, 0, s_l01In)]) (E := Eof []) (ov := false) (L := fun x => Lof ([(12,lL x), (200010,lLJ x)])) Tryz.func161 rfl (by decide) (Γof_ok (l := [(161, 0, (s_lR n)), (192, 0, s_l24Figures), (84, 0, s_l01In)]) ⟨hc, l24Figures_ok, l01In_ok, trivial⟩) fun (x : List Nd × Int) (hx : consP (n + 1) x) => (l25S_vc n x).mpr (by
  have h1 := hx.1; have hl := h1.1; have hn := isNd_iff.1 hx.2.1.1
  obtain ⟨z, hz⟩ : ∃ z, x.1[x.2.toNat]? = some z := ⟨x.1[x.2.toNat], by simp⟩
  simp only [hz, Option.some.injEq, forall_eq', ndAt_of hz]
  (repeat' first | with_reducible rfl | exact True.intro | refine inR_i64 ?_ ?_ | with_reducible refine And.intro ?_ ?_ | with_reducible refine bcase_dec (fun _ => ?_) (fun _ => ?_) | with_reducible refine bcase_bne (fun _ => ?_) (fun _ => ?_) | with_reducible refine bcase_beq (fun _ => ?_) (fun _ => ?_) | with_reducible refine bcase_not (fun _ => ?_) (fun _ => ?_) | refine bcase_intro (fun _ => ?_) (fun _ => ?_) | refine sl_eq ?_ | refine ex_flip () ?_ ?_ | (apply ex_flip6 <;> try dsimp only) | (apply ex_flip5 <;> try dsimp only) | (apply ex_flip4 <;> try dsimp only) | (apply ex_flip3 <;> try dsimp only) | (apply ex_flip2 <;> try dsimp only) | apply ex_flip | (refine Prod.forall.2 ?_; intro _; try dsimp only) | (intro _; try dsimp only))
  all_goals try (have h7 := consP_len hx hz (by assumption))
  all_goals try subst_vars
  all_goals first
    | rfl
    | omega
    | exact h1
    | exact (consP_2 hx hz (by assumption)).1.1
    | exact (consP_2 hx hz (by assumption)).1.2.1
    | exact (consP_2 hx hz (by assumption)).1.2.2
    | (have h2 := consP_2 hx hz (by assumption); rw [h2.2]; by_cases h9 : 9 < z.text.length <;> simp [h9, oI] <;> omega)
    | (have hcc := consP_kid hx hz (memE (by assumption)); exact ⟨h1, hcc.1, hcc.2⟩)
    | (rw [consP_0 hx hz (by assumption) (by assumption) (by assumption)]; rfl)
    | (obtain ⟨c, hk, hv⟩ := consP_11 hx hz (by assumption); have h0 := (show (Nd.kids _)[0]? = some _ by assumption); rw [hk] at h0; cases h0; rw [hv]; done)
    | (obtain ⟨c, hk, hv⟩ := consP_11 hx hz (by assumption); rw [hk]; simp; done)
    | (simp [opOk, *]; done)
    | exact lc_init (by assumption) (consP_kid hx hz (memE (by assumption))).1
    | exact lc_no (by assumption) (by assumption) (by assumption)
    | exact lc_yes (by assumption) (by assumption) (by assumption) (by simp [reck, *])
    | (have hcc := lc_some (by assumption) (by assumption); rw [consP_7 hx hz (by assumption)]; simp [chainV, hcc, oI, *]; done)
    | (have hcc := lc_none (by assumption); rw [consP_7 hx hz (by assumption)]; simp [chainV, hcc, oI, *]; done)
    | (rw [consP_7 hx hz (by assumption)]; simp [chainV, opOk, oI, *]; done)
    | contradiction
    | (have hlc := (show lc _ _ _ _ true by assumption); have hb1 := (hlc.2.2.1 rfl).1; have hb2 := oI_bd (consP_kid hx hz (memE (show z.kids[Int.toNat _]? = some _ by assumption))).1; have hmm := mul_bd hb1.1 hb1.2 hb2.1 hb2.2; unfold bdd at hb1 hb2; (try simp only [i64max]); omega)
    | (have hlc := (show lc _ _ _ _ _ by assumption); have hk2 := (okNds_at hz h1).2; have := hlc.1; have := hlc.2.1; (try simp only [i64max]); omega)
    | skip)

theorem l25_all : ∀ n : Nat, Contract G Go.Proofs.Tryz.prog 161 (s_lR n)
  | 0 => l25Z_ok
  | n + 1 => l25S_ok n (l25_all n)
def topN : Nat := 1073741825
end Go.My
end
section
/- Numerals, plainly, and the reference's writer of them. -/
set_option linter.unusedVariables false
set_option linter.unusedSimpArgs false
namespace Go.My
open Go.Eng Go.Proofs
variable {G : GInv}

def s_l01Fig  : Sig := { X := Int, args := fun x => [.int .i64 x], pre := fun x => 0 ≤ x ∧ x < 10, Y := Unit, post := fun x y => True, res := fun x y => .int .u8 (48 + x), outs := fun x y => [.top], keep := false }
theorem l01Fig_vc (x : Int) : vcFun Go.Proofs.Tryz.prog (Γof []) (Eof []) false (Lof ([])) Go.Proofs.Tryz.f162.ntmps Go.Proofs.Tryz.f162.results.toList (Go.Proofs.Tryz.f162.body.getD .skip) s_l01Fig x = ((∀ (y : Unit), True → True ∧ True ∧ True) ∧ bcase (decide (x < (10 : Int))) (inR IntKind.i64 ((48 : Int) + x) ∧ inR IntKind.u8 ((48 : Int) + x) ∧ ∃ (y : Unit), True ∧ (48 : Int) + x = (48 : Int) + x ∧ True) (inR IntKind.i64 ((97 : Int) + x) ∧ inR IntKind.i64 ((97 : Int) + x - (10 : Int)) ∧ inR IntKind.u8 ((97 : Int) + x - (10 : Int)) ∧ ∃ (y : Unit), True ∧ (97 : Int) + x - (10 : Int) = (48 : Int) + x ∧ True)) := by kernel_rfl
theorem l01Fig_ok  : Contract G Tryz.prog 162 s_l01Fig :=
  vcFun_ok (Γ := Γof []) (E := Eof []) (ov := false) (L := fun x => Lof ([])) Tryz.func162 rfl (by decide) (Γof_ok (l := []) trivial) fun (x : Int) (hx : 0 ≤ x ∧ x < 10) => (l01Fig_vc  x).mpr (by
  obtain ⟨h1, h2⟩ := hx
  (repeat' first | with_reducible rfl | exact True.intro | refine inR_i64 ?_ ?_ | with_reducible refine And.intro ?_ ?_ | with_reducible refine bcase_dec (fun _ => ?_) (fun _ => ?_) | with_reducible refine bcase_bne (fun _ => ?_) (fun _ => ?_) | with_reducible refine bcase_beq (fun _ => ?_) (fun _ => ?_) | with_reducible refine bcase_not (fun _ => ?_) (fun _ => ?_) | refine bcase_intro (fun _ => ?_) (fun _ => ?_) | refine sl_eq ?_ | refine ex_flip () ?_ ?_ | (apply ex_flip6 <;> try dsimp only) | (apply ex_flip5 <;> try dsimp only) | (apply ex_flip4 <;> try dsimp only) | (apply ex_flip3 <;> try dsimp only) | (apply ex_flip2 <;> try dsimp only) | apply ex_flip | (refine Prod.forall.2 ?_; intro _; try dsimp only) | (intro _; try dsimp only)) <;> (try dsimp only at *) <;> (try simp only [i64max, List.length_cons, List.length_nil]) <;> (try omega)
  all_goals exact inR_u8 (by omega) (by omega))

def dgt (m : Nat) : List UInt8 := if m = 0 then [] else Lib.decDigits m
theorem dgt_step {m : Nat} (h : 0 < m) : dgt m = dgt (m / 10) ++ [UInt8.ofNat (48 + m % 10)] := by
  rw [dgt, if_neg (by omega), Lib.decDigits]
  split
  · rename_i h10
    have e : m / 10 = 0 := by omega
    have e2 : m % 10 = m := by omega
    rw [e, e2, dgt, if_pos rfl]; rfl
  · rw [dgt, if_neg (by omega)]
theorem dgt_len : ∀ (n m : Nat), m < 10 ^ n → (dgt m).length ≤ n
  | 0, m, h => by have : m = 0 := by simpa using h
                  subst this; simp [dgt]
  | n + 1, m, h => by
    by_cases h0 : 0 < m
    · rw [dgt_step h0, List.length_append]
      have := dgt_len n (m / 10) (by rw [Nat.div_lt_iff_lt_mul (by omega)]; rw [Nat.pow_succ] at h; exact h)
      simp; omega
    · have : m = 0 := by omega
      subst this; simp [dgt]
def itoaL (x : Int) : List UInt8 := Lib.itoa x
theorem itoa_pos {x : Int} (h : 0 < x) : itoaL x = dgt x.toNat := by
  rw [itoaL, Lib.itoa, if_neg (by omega), dgt, if_neg (by omega)]
theorem itoa_0 : itoaL 0 = [48] := by
  rw [itoaL, Lib.itoa, if_neg (by omega), Lib.decDigits]; rfl
theorem itoa_len {x : Int} (h0 : 0 ≤ x) (h : x ≤ 999999999) : (itoaL x).length ≤ 9 := by
  by_cases hx : 0 < x
  · rw [itoa_pos hx]; exact dgt_len 9 x.toNat (by omega)
  · have : x = 0 := by omega
    subst this; rw [itoa_0]; simp
def dcI (x n : Int) (s : List UInt8) : Prop := 0 < x ∧ x ≤ 999999999 ∧ 0 ≤ n ∧ n ≤ x ∧ dgt n.toNat ++ s = dgt x.toNat
theorem dcI_0 {x : Int} (h0 : 0 < x) (h1 : x ≤ 999999999) : dcI x x [] := ⟨h0, h1, by omega, by omega, by simp⟩
theorem dcI_next {x n : Int} {c : UInt8} {s : List UInt8} (h : dcI x n s) (hn : n ≠ 0) (hc : 48 + n.tmod 10 = (c.toNat : Int)) : dcI x (n.tdiv 10) (c :: s) := by
  obtain ⟨h0, h1, h2, h3, h4⟩ := h
  have e1 : n.tmod 10 = n % 10 := Int.tmod_eq_emod_of_nonneg h2
  have e2 : n.tdiv 10 = n / 10 := Int.tdiv_eq_ediv_of_nonneg h2
  rw [e1] at hc
  rw [e2]
  refine ⟨h0, h1, by omega, by omega, ?_⟩
  rw [← h4, dgt_step (m := n.toNat) (by omega)]
  have e3 : (n / 10).toNat = n.toNat / 10 := by omega
  have e4 : UInt8.ofNat (48 + n.toNat % 10) = c := by
    have : c.toNat = 48 + n.toNat % 10 := by omega
    rw [← this]; simp
  rw [e3, e4]; simp
theorem dcI_end {x n : Int} {s : List UInt8} (h : dcI x n s) (hn : n = 0) : s = itoaL x := by
  obtain ⟨h0, h1, h2, h3, h4⟩ := h
  subst hn
  rw [itoa_pos h0, ← h4]; simp [dgt]
theorem dcI_len {x n : Int} {s : List UInt8} (h : dcI x n s) : s.length ≤ 9 ∧ (0 ≤ n.tmod 10 ∧ n.tmod 10 < 10) := by
  obtain ⟨h0, h1, h2, h3, h4⟩ := h
  have := dgt_len 9 x.toNat (by omega)
  rw [← h4, List.length_append] at this
  have e1 : n.tmod 10 = n % 10 := Int.tmod_eq_emod_of_nonneg h2
  rw [e1]
  exact ⟨by omega, by omega, by omega⟩
def s_sDecimal  : Sig := { X := Int, args := fun x => [.int .i64 x], pre := fun x => 0 ≤ x ∧ x ≤ 999999999, Y := Unit, post := fun x y => True, res := fun x y => .str (itoaL x), outs := fun x y => [.top], keep := false }
theorem sDecimal_vc (x : Int) : vcFun Go.Proofs.Tryz.prog (Γof [(162, 0, s_l01Fig)]) (Eof [(135, ⟨UInt8,bytA⟩)]) false (Lof ([(5,{ ι := Int × List UInt8, inv := fun i => dcI x i.1 i.2, regs := fun i => [(0, .int .i64 i.1), (3, .bool false), (4, .str i.2)], als := [], meas := fun i => i.1.toNat })])) Go.Proofs.Tryz.f128.ntmps Go.Proofs.Tryz.f128.results.toList (Go.Proofs.Tryz.f128.body.getD .skip) s_sDecimal x = ((∀ (y : Unit), True → True ∧ True ∧ True) ∧ bcase (x == (0 : Int)) (∃ (y : Unit), True ∧ #[(48 : UInt8)].toList = itoaL x ∧ True) ((∃ (i : Int × List UInt8), dcI x i.fst i.snd ∧ (x = i.fst ∧ decide (x < (0 : Int)) = false ∧ #[].toList = i.snd ∧ True) ∧ True) ∧ ∀ (i : Int × List UInt8), dcI x i.fst i.snd → bcase (i.fst != (0 : Int)) ((10 : Int) ≠ (0 : Int) ∧ bcase (decide (Int.tmod i.fst (10 : Int) < (0 : Int))) (inR IntKind.i64 ((0 : Int) - Int.tmod i.fst (10 : Int)) ∧ ∃ (x_1 : Int), ((0 : Int) ≤ x_1 ∧ x_1 < (10 : Int)) ∧ (0 : Int) - Int.tmod i.fst (10 : Int) = x_1 ∧ ∀ (y : Unit), True → ∃ (x_2 : UInt8), (48 : Int) + x_1 = (↑(UInt8.toNat x_2) : Int) ∧ ∃ (l : List UInt8), AV.sl false (0 : Nat) (1 : Nat) UInt8 bytA [x_2] = AV.sl false (0 : Nat) (1 : Nat) UInt8 bytA l ∧ (↑(List.length l + List.length i.snd) : Int) ≤ IntKind.max IntKind.i64 ∧ (10 : Int) ≠ (0 : Int) ∧ inR IntKind.i64 (Int.tdiv i.fst (10 : Int)) ∧ ∃ (i' : Int × List UInt8), dcI x i'.fst i'.snd ∧ Int.toNat i'.fst < Int.toNat i.fst ∧ (Int.tdiv i.fst (10 : Int) = i'.fst ∧ false = false ∧ l ++ i.snd = i'.snd ∧ True) ∧ True) (∃ (x_1 : Int), ((0 : Int) ≤ x_1 ∧ x_1 < (10 : Int)) ∧ Int.tmod i.fst (10 : Int) = x_1 ∧ ∀ (y : Unit), True → ∃ (x_2 : UInt8), (48 : Int) + x_1 = (↑(UInt8.toNat x_2) : Int) ∧ ∃ (l : List UInt8), AV.sl false (0 : Nat) (1 : Nat) UInt8 bytA [x_2] = AV.sl false (0 : Nat) (1 : Nat) UInt8 bytA l ∧ (↑(List.length l + List.length i.snd) : Int) ≤ IntKind.max IntKind.i64 ∧ (10 : Int) ≠ (0 : Int) ∧ inR IntKind.i64 (Int.tdiv i.fst (10 : Int)) ∧ ∃ (i' : Int × List UInt8), dcI x i'.fst i'.snd ∧ Int.toNat i'.fst < Int.toNat i.fst ∧ (Int.tdiv i.fst (10 : Int) = i'.fst ∧ false = false ∧ l ++ i.snd = i'.snd ∧ True) ∧ True)) (∃ (y : Unit), True ∧ i.snd = itoaL x ∧ True))) := by kernel_rfl
theorem sDecimal_ok  : Contract G Tryz.prog 128 s_sDecimal :=
  vcFun_ok (Γ := Γof [(162, 0, s_l01Fig)]) (E := Eof [(135, ⟨UInt8,bytA⟩)]) (ov := false) (L := fun x => Lof ([(5,{ ι := Int × List UInt8, inv := fun i => dcI x i.1 i.2, regs := fun i => [(0, .int .i64 i.1), (3, .bool false), (4, .str i.2)], als := [], meas := fun i => i.1.toNat })])) Tryz.func128 rfl (by decide) (Γof_ok (l := [(162, 0, s_l01Fig)]) ⟨l01Fig_ok, trivial⟩) fun (x : Int) (hx : 0 ≤ x ∧ x ≤ 999999999) => (sDecimal_vc  x).mpr (by
  obtain ⟨h1, h2⟩ := hx
  (repeat' first | refine ex_u8 ?_ ?_ ?_ | with_reducible rfl | exact True.intro | refine inR_i64 ?_ ?_ | with_reducible refine And.intro ?_ ?_ | with_reducible refine bcase_dec (fun _ => ?_) (fun _ => ?_) | with_reducible refine bcase_bne (fun _ => ?_) (fun _ => ?_) | with_reducible refine bcase_beq (fun _ => ?_) (fun _ => ?_) | with_reducible refine bcase_not (fun _ => ?_) (fun _ => ?_) | refine bcase_intro (fun _ => ?_) (fun _ => ?_) | refine sl_eq ?_ | refine ex_flip () ?_ ?_ | (apply ex_flip6 <;> try dsimp only) | (apply ex_flip5 <;> try dsimp only) | (apply ex_flip4 <;> try dsimp only) | (apply ex_flip3 <;> try dsimp only) | (apply ex_flip2 <;> try dsimp only) | apply ex_flip | (refine Prod.forall.2 ?_; intro _; try dsimp only) | (intro _; try dsimp only))
  all_goals first
    | rfl
    | (rw [show x = 0 by assumption]; exact itoa_0.symm)
    | exact decide_eq_false (by omega)
    | exact dcI_0 (by omega) h2
    | exact dcI_next (by assumption) (by assumption) (by assumption)
    | (exfalso; have hd := dcI_len (by assumption); omega)
    | (have hd := dcI_len (by assumption); (try simp only [i64max, List.length_cons, List.length_nil]); omega)
    | (have hd := dcI_end (by assumption) (by assumption); exact hd)
    | (have hd := (show dcI _ _ _ by assumption).2.2; have he := Int.tdiv_eq_ediv_of_nonneg (b := 10) hd.1; (try simp only [i64max]); omega)
    | skip)

end Go.My
end
section
/- A right tree is gone through once: how many nodes are met below its last one. -/
set_option linter.unusedVariables false
set_option linter.unusedSimpArgs false
namespace Go.My
open Go.Eng

def kidsOf (ns : List Nd) (k : Int) : List Int := (ndAt ns k).kids
def vis (ns : List Nd) : Nat → Int → List Int
  | 0, _ => []
  | n + 1, k => k :: (kidsOf ns k).flatMap (vis ns n)
def WL (ns : List Nd) : Nat → List Int → List Int
  | 0, _ => []
  | n + 1, l => l ++ WL ns n (l.flatMap (kidsOf ns))
theorem visL_len {ns : List Nd} : ∀ {n : Nat} {l : List Int}, (l.flatMap (vis ns n)).length = (WL ns n l).length
  | 0, l => by
    have : l.flatMap (vis ns 0) = [] := by simp [vis]
    rw [this]; rfl
  | n + 1, l => by
    rw [WL, List.length_append, ← visL_len (l := l.flatMap (kidsOf ns)), List.flatMap_assoc]
    have : ∀ l : List Int, (l.flatMap (vis ns (n + 1))).length = l.length + (l.flatMap fun x => (kidsOf ns x).flatMap (vis ns n)).length := by
      intro l
      induction l with
      | nil => rfl
      | cons k l ih =>
        rw [List.flatMap_cons, List.flatMap_cons, List.length_append, List.length_append, ih, vis, List.length_cons, List.length_cons]; omega
    rw [this]
theorem WL_K {ns : List Nd} : ∀ {n : Nat} {l : List Int}, WL ns n (l.flatMap (kidsOf ns)) = (WL ns n l).flatMap (kidsOf ns)
  | 0, l => rfl
  | n + 1, l => by rw [WL, WL, List.flatMap_append, WL_K (l := l.flatMap (kidsOf ns))]
theorem WL_succ {ns : List Nd} {n : Nat} {l : List Int} : WL ns (n + 1) l = l ++ (WL ns n l).flatMap (kidsOf ns) := by rw [WL, WL_K]
/- a list without doubles, below a bound -/
theorem sum_le (f : Int → Nat) : ∀ (n : Nat) (V : List Int), V.Nodup → (∀ p ∈ V, 0 ≤ p ∧ p < n) → (V.map f).sum ≤ ((List.range n).map fun i : Nat => f i).sum
  | 0, V, _, h => by
    have : V = [] := by
      cases V with
      | nil => rfl
      | cons p V => have := h p (by simp); omega
    subst this; simp
  | n + 1, V, hn, h => by
    rw [List.range_succ, List.map_append, List.sum_append]
    by_cases hm : (n : Int) ∈ V
    · have hp := List.perm_cons_erase hm
      have e : (V.map f).sum = f n + ((V.erase n).map f).sum := by
        have := (hp.map f).sum_nat
        rw [this]; simp
      have h2 := sum_le f n (V.erase n) (hn.erase _) (fun p hp => by
        have h3 := (List.Nodup.mem_erase_iff hn).1 hp
        have := h p h3.2
        have h4 := h3.1
        omega)
      rw [e]; simp; omega
    · have h2 := sum_le f n V hn (fun p hp => by
        have := h p hp
        have : p ≠ n := fun e => hm (e ▸ hp)
        omega)
      simp; omega
theorem length_le_of {V : List Int} {n : Nat} (hn : V.Nodup) (h : ∀ p ∈ V, 0 ≤ p ∧ p < n) : V.length ≤ n := by
  have := sum_le (fun _ => 1) n V hn h
  have e1 : ∀ l : List Int, (l.map fun _ => 1).sum = l.length := by
    intro l; induction l with
    | nil => rfl
    | cons a l ih => simp only [List.map_cons, List.sum_cons, ih, List.length_cons]; omega
  have e2 : ∀ l : List Nat, (l.map fun _ => 1).sum = l.length := by
    intro l; induction l with
    | nil => rfl
    | cons a l ih => simp only [List.map_cons, List.sum_cons, ih, List.length_cons]; omega
  rw [e1, e2, List.length_range] at this; exact this
theorem ns_range {ns : List Nd} : ns = (List.range ns.length).map fun i : Nat => ndAt ns i := by
  apply List.ext_getElem?
  intro i
  by_cases h : i < ns.length
  · have : ns[i]? = some ns[i] := by simp
    rw [List.getElem?_map, List.getElem?_range h, this]
    simp only [Option.map_some]
    congr 1
    exact (ndAt_of (c := (i : Int)) (by simp)).symm
  · rw [List.getElem?_eq_none (by omega), List.getElem?_eq_none (by simp; omega)]
theorem count_kids {ns : List Nd} {j : Int} : (allKids ns).count j = ((List.range ns.length).map fun i : Nat => (kidsOf ns i).count j).sum := by
  have h : allKids ns = ((List.range ns.length).map fun i : Nat => ndAt ns i).flatMap (·.kids) := by rw [← ns_range]; rfl
  rw [h, List.count_flatMap, List.map_map]; rfl
theorem sum_zero : ∀ {l : List Nat}, (∀ m ∈ l, m = 0) → l.sum = 0
  | [], _ => rfl
  | m :: l, h => by rw [List.sum_cons, h m (by simp), sum_zero fun n hn => h n (by simp [hn])]
def tree1 (ns : List Nd) : Prop := (∀ i : Nat, i < ns.length → nodeOk ns i = true) ∧ ∀ i : Nat, i < ns.length - 1 → (allKids ns).count (i : Int) = 1
theorem WL_nodup {ns : List Nd} (h : tree1 ns) (h0 : 1 ≤ ns.length) : ∀ n : Nat, (WL ns n [(ns.length : Int) - 1]).Nodup ∧ ∀ p ∈ WL ns n [(ns.length : Int) - 1], 0 ≤ p ∧ p < ns.length
  | 0 => ⟨List.nodup_nil, fun p hp => by cases hp⟩
  | n + 1 => by
    obtain ⟨ih1, ih2⟩ := WL_nodup h h0 n
    rw [WL_succ]
    have hk : ∀ p ∈ WL ns n [(ns.length : Int) - 1], ∀ c ∈ kidsOf ns p, 0 ≤ c ∧ c < p := by
      intro p hp c hc
      have h2 := ih2 p hp
      have h3 := h.1 p.toNat (by omega)
      have e : ((p.toNat : Nat) : Int) = p := by omega
      rw [e] at h3
      exact (nodeOk_parts h3).2.2.2.1 c hc
    refine ⟨?_, ?_⟩
    · rw [List.nodup_iff_count]
      intro j
      rw [List.count_append, List.count_flatMap]
      by_cases hj : j = (ns.length : Int) - 1
      · subst hj
        have : ((WL ns n [(ns.length : Int) - 1]).map (List.count ((ns.length : Int) - 1) ∘ kidsOf ns)).sum = 0 := by
          refine sum_zero fun m hm => ?_
          obtain ⟨p, hp, rfl⟩ := List.mem_map.1 hm
          simp only [Function.comp]
          rw [List.count_eq_zero]
          intro hc
          have := hk p hp _ hc
          have := ih2 p hp
          omega
        rw [this]; simp
      · have h1 : List.count j [(ns.length : Int) - 1] = 0 := by
          rw [List.count_eq_zero]; simpa using hj
        have h2 := sum_le (fun p => (kidsOf ns p).count j) ns.length _ ih1 ih2
        rw [← count_kids] at h2
        have h3 : (allKids ns).count j ≤ 1 := by
          by_cases hr : 0 ≤ j ∧ j < ns.length
          · have := h.2 j.toNat (by omega)
            rw [show ((j.toNat : Nat) : Int) = j by omega] at this; omega
          · have : (allKids ns).count j = 0 := by
              rw [List.count_eq_zero]
              intro hm
              obtain ⟨y, hy, hc⟩ := List.mem_flatMap.1 hm
              obtain ⟨i, hi⟩ := List.mem_iff_getElem?.1 hy
              have hlt := (getE hi).1
              have := (nodeOk_parts (h.1 i hlt)).2.2.2.1 j
              rw [ndAt_of (c := (i : Int)) (by simpa using hi)] at this
              have := this hc
              omega
            omega
        rw [h1]
        have e : (List.count j ∘ kidsOf ns) = fun p => (kidsOf ns p).count j := rfl
        rw [e]; omega
    · intro p hp
      rcases List.mem_append.1 hp with hp | hp
      · simp at hp; omega
      · obtain ⟨q, hq, hc⟩ := List.mem_flatMap.1 hp
        have := hk q hq p hc
        have := ih2 q hq
        omega
theorem tree1_of {ns : List Nd} (h : treeOk ns = true) : tree1 ns ∧ 1 ≤ ns.length ∧ ns.length ≤ 300 ∧ okUp ns ((ns.length : Int) - 1) := by
  simp only [treeOk, Bool.and_eq_true, decide_eq_true_eq, Bool.not_eq_true', decide_eq_false_iff_not, List.all_eq_true, List.mem_range] at h
  have hu := okUp_of h.2.2.1
  refine ⟨⟨fun i hi => hu.2 i (by omega), fun i hi => ?_⟩, h.1.1, h.1.2, hu⟩
  exact h.2.2.2 i hi
theorem vis_len {ns : List Nd} {n : Nat} (h : treeOk ns = true) : (vis ns n ((ns.length : Int) - 1)).length ≤ 300 := by
  obtain ⟨h1, h2, h3, _⟩ := tree1_of h
  have e := @visL_len ns n [(ns.length : Int) - 1]
  simp only [List.flatMap_cons, List.flatMap_nil, List.append_nil] at e
  rw [e]
  have := WL_nodup h1 h2 n
  have := length_le_of this.1 this.2
  omega
/- the visits below kids -/
def visK (ns : List Nd) (n : Nat) (l : List Int) : Nat := (l.flatMap (vis ns n)).length
theorem vis_succ {ns : List Nd} {n : Nat} {k : Int} : (vis ns (n + 1) k).length = 1 + visK ns n (kidsOf ns k) := by rw [vis, List.length_cons, visK]; omega
theorem visK_cons {ns : List Nd} {n : Nat} {c : Int} {l : List Int} : visK ns n (c :: l) = (vis ns n c).length + visK ns n l := by simp [visK]
theorem visK_drop {ns : List Nd} {n : Nat} {i : Nat} {c : Int} {l : List Int} (h : l[i]? = some c) : visK ns n (l.drop i) = (vis ns n c).length + visK ns n (l.drop (i + 1)) := by
  rw [dropE h, visK_cons]
theorem visK_pos {ns : List Nd} {n : Nat} {k : Int} : 1 ≤ (vis ns (n + 1) k).length := by rw [vis_succ]; omega
end Go.My
end
