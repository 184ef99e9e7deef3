/- A part of the proof: the engine and the contracts, joined. -/
import Derived.Test.YtinkjpfkemkhaaaGreatDoorQG
section
/- The laws' helpers over groups and marks; the laws of order and of groups. -/
set_option linter.unusedVariables false
set_option linter.unusedSimpArgs false
namespace Go.My
open Go.Eng Go.Proofs
variable {G : GInv}

theorem ex_gr {p q : Gr → Prop} (a : List Int) (b : Int) (h1 : p ⟨a, b⟩) (h2 : q ⟨a, b⟩) : ∃ x, p x ∧ q x := ⟨_, h1, h2⟩
theorem ex_nd {p q : Nd → Prop} (a : Int) (b : List UInt8) (c : List Int) (d : Bool) (h1 : p ⟨a, b, c, d⟩) (h2 : q ⟨a, b, c, d⟩) : ∃ x, p x ∧ q x := ⟨_, h1, h2⟩
theorem ex_gr2 {p q : Gr → Prop} (a : List Int) (b : Int) (h2 : q ⟨a, b⟩) (h1 : p ⟨a, b⟩) : ∃ x, p x ∧ q x := ⟨_, h1, h2⟩
theorem ex_nd2 {p q : Nd → Prop} (a : Int) (b : List UInt8) (c : List Int) (d : Bool) (h2 : q ⟨a, b, c, d⟩) (h1 : p ⟨a, b, c, d⟩) : ∃ x, p x ∧ q x := ⟨_, h1, h2⟩
def s_eqGr  : Sig := { X := Gr × Gr, args := fun x => [.agg (grA false x.1), .agg (grA false x.2)], pre := fun x => x.1.notes.length < 2 ^ 62 ∧ x.2.notes.length < 2 ^ 62, Y := Unit, post := fun x y => True, res := fun x y => .bool (beqGr x.1 x.2), outs := fun x y => [.top, .top], keep := false }
theorem eqGr_vc (x : Gr × Gr) : vcFun Go.Proofs.Tryz.prog (Γof [(38, 0, s_eqInts)]) (Eof []) false (Lof ([])) Go.Proofs.Tryz.f68.ntmps Go.Proofs.Tryz.f68.results.toList (Go.Proofs.Tryz.f68.body.getD .skip) s_eqGr x = ((∀ (y : Unit), True → True ∧ True ∧ True ∧ True) ∧ ∃ (x_1 : List Int × List Int), (List.length x_1.fst < (9223372036854775808 : Nat) ∧ List.length x_1.snd < (9223372036854775808 : Nat)) ∧ AV.sl false (0 : Nat) (1 : Nat) Int intA x.fst.notes = AV.sl false (0 : Nat) (1 : Nat) Int intA x_1.fst ∧ AV.sl false (0 : Nat) (1 : Nat) Int intA x.snd.notes = AV.sl false (0 : Nat) (1 : Nat) Int intA x_1.snd ∧ ∀ (y : Unit), True → bcase (!x_1.fst == x_1.snd) (∃ (y : Unit), True ∧ false = beqGr x.fst x.snd ∧ True) (bcase (x.fst.member != x.snd.member) (∃ (y : Unit), True ∧ false = beqGr x.fst x.snd ∧ True) (∃ (y : Unit), True ∧ true = beqGr x.fst x.snd ∧ True))) := by kernel_rfl
theorem eqGr_ok  : Contract G Tryz.prog 68 s_eqGr :=
  vcFun_ok (Γ := Γof [(38, 0, s_eqInts)]) (E := Eof []) (ov := false) (L := fun x => Lof ([])) Tryz.func68 rfl (by decide) (Γof_ok (l := [(38, 0, s_eqInts)]) ⟨eqInts_ok, trivial⟩) fun (x : Gr × Gr) (hx : x.1.notes.length < 2 ^ 62 ∧ x.2.notes.length < 2 ^ 62) => (eqGr_vc  x).mpr (by
  obtain ⟨h1, h2⟩ := hx
  (repeat' first | with_reducible rfl | exact True.intro | refine inR_i64 ?_ ?_ | with_reducible refine And.intro ?_ ?_ | with_reducible refine bcase_dec (fun _ => ?_) (fun _ => ?_) | with_reducible refine bcase_bne (fun _ => ?_) (fun _ => ?_) | with_reducible refine bcase_beq (fun _ => ?_) (fun _ => ?_) | with_reducible refine bcase_not (fun _ => ?_) (fun _ => ?_) | refine bcase_intro (fun _ => ?_) (fun _ => ?_) | refine sl_eq ?_ | refine ex_flip () ?_ ?_ | (apply ex_flip6 <;> try dsimp only) | (apply ex_flip5 <;> try dsimp only) | (apply ex_flip4 <;> try dsimp only) | (apply ex_flip3 <;> try dsimp only) | (apply ex_flip2 <;> try dsimp only) | apply ex_flip | (refine Prod.forall.2 ?_; intro _; try dsimp only) | (intro _; try dsimp only)) <;> (try dsimp only at *) <;> (try simp only [i64max, List.length_cons, List.length_nil]) <;> (try omega)
  all_goals simp_all [beqGr]
  all_goals omega)

def lEqGrs (x : List Gr × List Gr) : LS := {
  ι := Int, inv := fun i => 0 ≤ i ∧ i ≤ x.1.length ∧ x.1.take i.toNat = x.2.take i.toNat, regs := fun i => [(0, grs x.1), (1, grs x.2), (5, .int .i64 i)], als := [], meas := fun i => x.1.length - i.toNat }
def s_eqGrs  : Sig := { X := List Gr × List Gr, args := fun x => [grs x.1, grs x.2], pre := fun x => smallGrs x.1 ∧ smallGrs x.2, Y := Unit, post := fun x y => True, res := fun x y => .bool (beqGrs x.1 x.2), outs := fun x y => [.top, .top], keep := false }
theorem eqGrs_vc (x : List Gr × List Gr) : vcFun Go.Proofs.Tryz.prog (Γof [(68, 0, s_eqGr)]) (Eof []) false (Lof ([(4,lEqGrs x)])) Go.Proofs.Tryz.f20.ntmps Go.Proofs.Tryz.f20.results.toList (Go.Proofs.Tryz.f20.body.getD .skip) s_eqGrs x = ((∀ (y : Unit), True → True ∧ True ∧ True ∧ True) ∧ bcase ((↑(List.length x.fst) : Int) != (↑(List.length x.snd) : Int)) (∃ (y : Unit), True ∧ false = beqGrs x.fst x.snd ∧ True) ((∃ (i : Int), ((0 : Int) ≤ i ∧ i ≤ (↑(List.length x.fst) : Int) ∧ List.take (Int.toNat i) x.fst = List.take (Int.toNat i) x.snd) ∧ (AV.sl false (0 : Nat) (2 : Nat) Gr (grA false) x.fst = AV.sl false (0 : Nat) (2 : Nat) Gr (grA false) x.fst ∧ AV.sl false (0 : Nat) (2 : Nat) Gr (grA false) x.snd = AV.sl false (0 : Nat) (2 : Nat) Gr (grA false) x.snd ∧ (0 : Int) = i ∧ True) ∧ True) ∧ ∀ (i : Int), (0 : Int) ≤ i ∧ i ≤ (↑(List.length x.fst) : Int) ∧ List.take (Int.toNat i) x.fst = List.take (Int.toNat i) x.snd → bcase (decide (i < (↑(List.length x.fst) : Int))) (true = true ∧ true = true ∧ ((0 : Int) ≤ i ∧ i < (↑(List.length x.fst) : Int)) ∧ ∀ (e : Gr), x.fst[Int.toNat i]? = some e → ((0 : Int) ≤ i ∧ i < (↑(List.length x.snd) : Int)) ∧ ∀ (e_1 : Gr), x.snd[Int.toNat i]? = some e_1 → ∃ (x_1 : Gr × Gr), (List.length x_1.fst.notes < (4611686018427387904 : Nat) ∧ List.length x_1.snd.notes < (4611686018427387904 : Nat)) ∧ AV.sl false (0 : Nat) (1 : Nat) Int intA e.notes = AV.sl false (0 : Nat) (1 : Nat) Int intA x_1.fst.notes ∧ e.member = x_1.fst.member ∧ AV.sl false (0 : Nat) (1 : Nat) Int intA e_1.notes = AV.sl false (0 : Nat) (1 : Nat) Int intA x_1.snd.notes ∧ e_1.member = x_1.snd.member ∧ ∃ (y0 : Unit), (∀ (y : Unit), True → AV.bool (beqGr x_1.fst x_1.snd) = AV.bool (beqGr x_1.fst x_1.snd)) ∧ true = true ∧ bcase (!beqGr x_1.fst x_1.snd) (∃ (y : Unit), True ∧ false = beqGrs x.fst x.snd ∧ True) (inR IntKind.i64 (i + (1 : Int)) ∧ ∃ (i' : Int), ((0 : Int) ≤ i' ∧ i' ≤ (↑(List.length x.fst) : Int) ∧ List.take (Int.toNat i') x.fst = List.take (Int.toNat i') x.snd) ∧ List.length x.fst - Int.toNat i' < List.length x.fst - Int.toNat i ∧ (AV.sl false (0 : Nat) (2 : Nat) Gr (grA false) x.fst = AV.sl false (0 : Nat) (2 : Nat) Gr (grA false) x.fst ∧ AV.sl false (0 : Nat) (2 : Nat) Gr (grA false) x.snd = AV.sl false (0 : Nat) (2 : Nat) Gr (grA false) x.snd ∧ i + (1 : Int) = i' ∧ True) ∧ True)) (∃ (y : Unit), True ∧ true = beqGrs x.fst x.snd ∧ True))) := by kernel_rfl
theorem eqGrs_ok  : Contract G Tryz.prog 20 s_eqGrs :=
  vcFun_ok (Γ := Γof [(68, 0, s_eqGr)]) (E := Eof []) (ov := false) (L := fun x => Lof ([(4,lEqGrs x)])) Tryz.func20 rfl (by decide) (Γof_ok (l := [(68, 0, s_eqGr)]) ⟨eqGr_ok, trivial⟩) fun (x : List Gr × List Gr) (hx : smallGrs x.1 ∧ smallGrs x.2) => (eqGrs_vc  x).mpr (by
  obtain ⟨h1, h2⟩ := hx; have hl1 := h1.1; have hl2 := h2.1
  (repeat' first | with_reducible rfl | exact True.intro | refine inR_i64 ?_ ?_ | with_reducible refine And.intro ?_ ?_ | with_reducible refine bcase_dec (fun _ => ?_) (fun _ => ?_) | with_reducible refine bcase_bne (fun _ => ?_) (fun _ => ?_) | with_reducible refine bcase_beq (fun _ => ?_) (fun _ => ?_) | with_reducible refine bcase_not (fun _ => ?_) (fun _ => ?_) | refine bcase_intro (fun _ => ?_) (fun _ => ?_) | refine sl_eq ?_ | refine ex_flip () ?_ ?_ | (apply ex_flip6 <;> try dsimp only) | (apply ex_flip5 <;> try dsimp only) | (apply ex_flip4 <;> try dsimp only) | (apply ex_flip3 <;> try dsimp only) | (apply ex_flip2 <;> try dsimp only) | apply ex_flip | (refine Prod.forall.2 ?_; intro _; try dsimp only) | (intro _; try dsimp only)) <;> (try dsimp only at *) <;> (try simp only [i64max, List.length_cons, List.length_nil]) <;> (try omega)
  · rename_i h; exact beqGrs_false (fun e => h (by rw [e]))
  · rfl
  · rename_i h i hi hl e he f hf hn
    exact beqGrs_false (fun e => by rw [e, hf] at he; rw [Option.some.inj he, beqGr_self] at hn; cases hn)
  · rename_i h i hi hl e he f hf hn
    exact takeEq hi.1 hi.2.2 he hf (beqGr_eq.1 hn)
  · rename_i h i hi hl e he f hf
    have := h1.2 _ (memE he); omega
  · rename_i h i hi hl e he f hf
    have := h2.2 _ (memE hf); omega
  · rename_i h i hi hl
    exact beqGrs_true (takeAll (by omega) hi.2.2 (by omega)))

theorem mk_len {k i : Int} {l : List Int} (h : 0 ≤ i ∧ i ≤ l.length) : (mkI k i.toNat ++ l.drop i.toNat).length = l.length := by rw [List.length_append, mkI_len, List.length_drop]; omega
theorem mk_set {k i : Int} {l : List Int} (h : 0 ≤ i ∧ i ≤ l.length) (hl : i < ((mkI k i.toNat ++ l.drop i.toNat).length : Int)) : (mkI k i.toNat ++ l.drop i.toNat).set i.toNat (k + i) = mkI k (i + 1).toNat ++ l.drop (i + 1).toNat := by
  rw [mk_len h] at hl
  have := @mkI_set k l i.toNat (by omega)
  rw [show ((i.toNat : Nat) : Int) = i by omega] at this
  rw [this, toNat1 h.1]
theorem mk_end {k i : Int} {l : List Int} (h : 0 ≤ i ∧ i ≤ l.length) (hl : ¬ i < ((mkI k i.toNat ++ l.drop i.toNat).length : Int)) : mkI k i.toNat ++ l.drop i.toNat = mkI k l.length := by
  rw [mk_len h] at hl
  exact mkI_full (by omega) (by omega)
theorem mk_end2 {k i : Int} {l : List Int} (h : 0 ≤ i ∧ i ≤ l.length) (hl : ¬ i < ((mkI k i.toNat ++ l.drop i.toNat).length : Int)) : k + i = k + l.length := by
  rw [mk_len h] at hl; omega
def s_markInts  : Sig := { X := List Int × Int, args := fun x => [oints x.1, .int .i64 x.2], pre := fun x => x.1.length ≤ 2 ^ 40 ∧ 0 ≤ x.2 ∧ x.2 ≤ 2 ^ 60, Y := Unit, post := fun x y => True, res := fun x y => .int .i64 (x.2 + x.1.length), outs := fun x y => [oints (mkI x.2 x.1.length), .top], keep := false, fixed := [0] }
theorem markInts_vc (x : List Int × Int) : vcFun Go.Proofs.Tryz.prog (Γof []) (Eof []) false (Lof ([(2,{ ι := Int, inv := fun i => 0 ≤ i ∧ i ≤ x.1.length, regs := fun i => [(0, oints (mkI x.2 i.toNat ++ x.1.drop i.toNat)), (1, .int .i64 (x.2 + i)), (5, .int .i64 i)], als := [], meas := fun i => x.1.length - i.toNat })])) Go.Proofs.Tryz.f39.ntmps Go.Proofs.Tryz.f39.results.toList (Go.Proofs.Tryz.f39.body.getD .skip) s_markInts x = ((∀ (y : Unit), True → True ∧ (∀ (x : Int), True ∧ True) ∧ True ∧ True) ∧ (∃ (i : Int), ((0 : Int) ≤ i ∧ i ≤ (↑(List.length x.fst) : Int)) ∧ (AV.sl true (0 : Nat) (1 : Nat) Int intA x.fst = AV.sl true (0 : Nat) (1 : Nat) Int intA (mkI x.snd (Int.toNat i) ++ List.drop (Int.toNat i) x.fst) ∧ x.snd = x.snd + i ∧ (0 : Int) = i ∧ True) ∧ True) ∧ ∀ (i : Int), (0 : Int) ≤ i ∧ i ≤ (↑(List.length x.fst) : Int) → bcase (decide (i < (↑(List.length (mkI x.snd (Int.toNat i) ++ List.drop (Int.toNat i) x.fst)) : Int))) (((0 : Int) ≤ i ∧ i < (↑(List.length (mkI x.snd (Int.toNat i) ++ List.drop (Int.toNat i) x.fst)) : Int)) ∧ Int.toNat i < List.length (mkI x.snd (Int.toNat i) ++ List.drop (Int.toNat i) x.fst) ∧ ∀ (x_1 : Int), (mkI x.snd (Int.toNat i) ++ List.drop (Int.toNat i) x.fst)[Int.toNat i]? = some x_1 → ∃ (x' : Int), ((@List.nil AV) = [] ∧ (@List.nil AV) = []) ∧ x.snd + i = x' ∧ inR IntKind.i64 (x.snd + i + (1 : Int)) ∧ inR IntKind.i64 (i + (1 : Int)) ∧ ∃ (i' : Int), ((0 : Int) ≤ i' ∧ i' ≤ (↑(List.length x.fst) : Int)) ∧ List.length x.fst - Int.toNat i' < List.length x.fst - Int.toNat i ∧ (AV.sl true (0 : Nat) (1 : Nat) Int intA (List.set (mkI x.snd (Int.toNat i) ++ List.drop (Int.toNat i) x.fst) (Int.toNat i) x') = AV.sl true (0 : Nat) (1 : Nat) Int intA (mkI x.snd (Int.toNat i') ++ List.drop (Int.toNat i') x.fst) ∧ x.snd + i + (1 : Int) = x.snd + i' ∧ i + (1 : Int) = i' ∧ True) ∧ True) (∃ (y : Unit), True ∧ x.snd + i = x.snd + (↑(List.length x.fst) : Int) ∧ AV.sl true (0 : Nat) (1 : Nat) Int intA (mkI x.snd (Int.toNat i) ++ List.drop (Int.toNat i) x.fst) = AV.sl true (0 : Nat) (1 : Nat) Int intA (mkI x.snd (List.length x.fst)) ∧ True)) := by kernel_rfl
theorem markInts_ok  : Contract G Tryz.prog 39 s_markInts :=
  vcFun_ok (Γ := Γof []) (E := Eof []) (ov := false) (L := fun x => Lof ([(2,{ ι := Int, inv := fun i => 0 ≤ i ∧ i ≤ x.1.length, regs := fun i => [(0, oints (mkI x.2 i.toNat ++ x.1.drop i.toNat)), (1, .int .i64 (x.2 + i)), (5, .int .i64 i)], als := [], meas := fun i => x.1.length - i.toNat })])) Tryz.func39 rfl (by decide) (Γof_ok (l := []) trivial) fun (x : List Int × Int) (hx : x.1.length ≤ 2 ^ 40 ∧ 0 ≤ x.2 ∧ x.2 ≤ 2 ^ 60) => (markInts_vc  x).mpr (by
  obtain ⟨h1, h2, h3⟩ := hx
  (repeat' first | with_reducible rfl | exact True.intro | refine inR_i64 ?_ ?_ | with_reducible refine And.intro ?_ ?_ | with_reducible refine bcase_dec (fun _ => ?_) (fun _ => ?_) | with_reducible refine bcase_bne (fun _ => ?_) (fun _ => ?_) | with_reducible refine bcase_beq (fun _ => ?_) (fun _ => ?_) | with_reducible refine bcase_not (fun _ => ?_) (fun _ => ?_) | refine bcase_intro (fun _ => ?_) (fun _ => ?_) | refine sl_eq ?_ | refine ex_flip () ?_ ?_ | (apply ex_flip6 <;> try dsimp only) | (apply ex_flip5 <;> try dsimp only) | (apply ex_flip4 <;> try dsimp only) | (apply ex_flip3 <;> try dsimp only) | (apply ex_flip2 <;> try dsimp only) | apply ex_flip | (refine Prod.forall.2 ?_; intro _; try dsimp only) | (intro _; try dsimp only))
  all_goals first
    | rfl
    | (simp [mkI]; done)
    | exact mk_set (by assumption) (by assumption)
    | exact mk_end (by assumption) (by assumption)
    | exact mk_end2 (by assumption) (by assumption)
    | ((try simp only [i64max]); omega)
    | (have hi := (show (0 : Int) ≤ _ ∧ _ ≤ (x.1.length : Int) by assumption); have hl := @mk_len x.2 _ x.1 hi; (try simp only [i64max]); omega)
    | skip)

def s_heldInts  : Sig := { X := List Int × Int, args := fun x => [ints x.1, .int .i64 x.2], pre := fun x => x.1 = mkI x.2 x.1.length ∧ x.1.length ≤ 2 ^ 40 ∧ 0 ≤ x.2 ∧ x.2 ≤ 2 ^ 60, Y := Unit, post := fun x y => True, res := fun x y => .int .i64 (x.2 + x.1.length), outs := fun x y => [.top, .top], keep := false }
theorem heldInts_vc (x : List Int × Int) : vcFun Go.Proofs.Tryz.prog (Γof []) (Eof []) false (Lof ([(2,{ ι := Int, inv := fun i => 0 ≤ i ∧ i ≤ x.1.length, regs := fun i => [(0, ints x.1), (1, .int .i64 (x.2 + i)), (5, .int .i64 i)], als := [], meas := fun i => x.1.length - i.toNat })])) Go.Proofs.Tryz.f60.ntmps Go.Proofs.Tryz.f60.results.toList (Go.Proofs.Tryz.f60.body.getD .skip) s_heldInts x = ((∀ (y : Unit), True → True ∧ True ∧ True ∧ True) ∧ (∃ (i : Int), ((0 : Int) ≤ i ∧ i ≤ (↑(List.length x.fst) : Int)) ∧ (AV.sl false (0 : Nat) (1 : Nat) Int intA x.fst = AV.sl false (0 : Nat) (1 : Nat) Int intA x.fst ∧ x.snd = x.snd + i ∧ (0 : Int) = i ∧ True) ∧ True) ∧ ∀ (i : Int), (0 : Int) ≤ i ∧ i ≤ (↑(List.length x.fst) : Int) → bcase (decide (i < (↑(List.length x.fst) : Int))) (((0 : Int) ≤ i ∧ i < (↑(List.length x.fst) : Int)) ∧ ∀ (e : Int), x.fst[Int.toNat i]? = some e → bcase (e != x.snd + i) (∃ (y : Unit), True ∧ (-1 : Int) = x.snd + (↑(List.length x.fst) : Int) ∧ True) (inR IntKind.i64 (x.snd + i + (1 : Int)) ∧ inR IntKind.i64 (i + (1 : Int)) ∧ ∃ (i' : Int), ((0 : Int) ≤ i' ∧ i' ≤ (↑(List.length x.fst) : Int)) ∧ List.length x.fst - Int.toNat i' < List.length x.fst - Int.toNat i ∧ (AV.sl false (0 : Nat) (1 : Nat) Int intA x.fst = AV.sl false (0 : Nat) (1 : Nat) Int intA x.fst ∧ x.snd + i + (1 : Int) = x.snd + i' ∧ i + (1 : Int) = i' ∧ True) ∧ True)) (∃ (y : Unit), True ∧ x.snd + i = x.snd + (↑(List.length x.fst) : Int) ∧ True)) := by kernel_rfl
theorem heldInts_ok  : Contract G Tryz.prog 60 s_heldInts :=
  vcFun_ok (Γ := Γof []) (E := Eof []) (ov := false) (L := fun x => Lof ([(2,{ ι := Int, inv := fun i => 0 ≤ i ∧ i ≤ x.1.length, regs := fun i => [(0, ints x.1), (1, .int .i64 (x.2 + i)), (5, .int .i64 i)], als := [], meas := fun i => x.1.length - i.toNat })])) Tryz.func60 rfl (by decide) (Γof_ok (l := []) trivial) fun (x : List Int × Int) (hx : x.1 = mkI x.2 x.1.length ∧ x.1.length ≤ 2 ^ 40 ∧ 0 ≤ x.2 ∧ x.2 ≤ 2 ^ 60) => (heldInts_vc  x).mpr (by
  obtain ⟨h0, h1, h2, h3⟩ := hx
  have hat : ∀ {i v : Int}, 0 ≤ i → x.1[i.toNat]? = some v → v = x.2 + i := by
    intro i v hi hv
    have hl := (getE hv).1
    rw [h0, mkI_at hl] at hv
    simp only [Option.some.injEq] at hv; omega
  (repeat' first | with_reducible rfl | exact True.intro | refine inR_i64 ?_ ?_ | with_reducible refine And.intro ?_ ?_ | with_reducible refine bcase_dec (fun _ => ?_) (fun _ => ?_) | with_reducible refine bcase_bne (fun _ => ?_) (fun _ => ?_) | with_reducible refine bcase_beq (fun _ => ?_) (fun _ => ?_) | with_reducible refine bcase_not (fun _ => ?_) (fun _ => ?_) | refine bcase_intro (fun _ => ?_) (fun _ => ?_) | refine sl_eq ?_ | refine ex_flip () ?_ ?_ | (apply ex_flip6 <;> try dsimp only) | (apply ex_flip5 <;> try dsimp only) | (apply ex_flip4 <;> try dsimp only) | (apply ex_flip3 <;> try dsimp only) | (apply ex_flip2 <;> try dsimp only) | apply ex_flip | (refine Prod.forall.2 ?_; intro _; try dsimp only) | (intro _; try dsimp only))
  all_goals try (have hv := hat (show 0 ≤ _ from And.left (by assumption)) (by assumption))
  all_goals first
    | rfl
    | ((try simp only [i64max]); omega)
    | skip)

def mkB (l : List Gr) : Prop := l.length ≤ 12 ∧ ∀ g ∈ l, g.notes.length ≤ 12
theorem mkB_tot {l : List Gr} {i : Nat} (h : mkB l) : 0 ≤ totG (l.take i) ∧ totG (l.take i) ≤ 200 := by
  have := @totG_bd (l.take i) 12 fun g hg => h.2 g (List.mem_of_mem_take hg)
  have h2 : (l.take i).length ≤ 12 := by rw [List.length_take]; have := h.1; omega
  omega
def mgI (l : List Gr) (i : Int) : Prop := mkB l ∧ 0 ≤ i ∧ i ≤ l.length
theorem mgI_len {k i : Int} {l : List Gr} (h : mgI l i) : (mkGs k (l.take i.toNat) ++ l.drop i.toNat).length = l.length := by
  obtain ⟨_, h1, h2⟩ := h
  rw [List.length_append, mkGs_len, List.length_take, List.length_drop]; omega
theorem mgI_at {k i : Int} {l : List Gr} {g : Gr} (h : mgI l i) (hg : (mkGs k (l.take i.toNat) ++ l.drop i.toNat)[i.toNat]? = some g) : l[i.toNat]? = some g := by
  have hlt := (getE hg).1
  rw [mgI_len h] at hlt
  have hl : (mkGs k (l.take i.toNat)).length = i.toNat := by rw [mkGs_len, List.length_take]; omega
  rw [List.getElem?_append_right (by omega), hl, Nat.sub_self] at hg
  simpa using hg
theorem mgI_g {k i : Int} {l : List Gr} {g : Gr} (h : mgI l i) (hg : (mkGs k (l.take i.toNat) ++ l.drop i.toNat)[i.toNat]? = some g) : g.notes.length ≤ 12 := h.1.2 g (memE (mgI_at h hg))
theorem mg_set1 {l : List Gr} {i : Nat} {a b : Gr} (h : i < l.length) : (l.set i a)[i]? = some b ↔ a = b := by
  rw [List.getElem?_set_self h]; simp
theorem mg_set2 {l : List Gr} {i : Nat} {a b : Gr} : (l.set i a).set i b = l.set i b := List.set_set ..
theorem mg_step {k i : Int} {l : List Gr} {g b : Gr} (h : mgI l i) (hg : (mkGs k (l.take i.toNat) ++ l.drop i.toNat)[i.toNat]? = some g) (hb : b = mkG (k + totG (l.take i.toNat)) g) :
    (mkGs k (l.take i.toNat) ++ l.drop i.toNat).set i.toNat b = mkGs k (l.take (i + 1).toNat) ++ l.drop (i + 1).toNat := by
  rw [hb, mkGs_set (mgI_at h hg), toNat1 h.2.1]
theorem mg_tot {k i : Int} {l : List Gr} {g : Gr} (h : mgI l i) (hg : (mkGs k (l.take i.toNat) ++ l.drop i.toNat)[i.toNat]? = some g) : k + totG (l.take i.toNat) + g.notes.length + 1 = k + totG (l.take (i + 1).toNat) := by
  rw [toNat1 h.2.1, takeE (mgI_at h hg), totG_snoc]; omega
theorem mg_end {k i : Int} {l : List Gr} (h : mgI l i) (hl : ¬ i < ((mkGs k (l.take i.toNat) ++ l.drop i.toNat).length : Int)) : mkGs k (l.take i.toNat) ++ l.drop i.toNat = mkGs k l ∧ k + totG (l.take i.toNat) = k + totG l := by
  rw [mgI_len h] at hl
  rw [List.take_of_length_le (by omega), List.drop_eq_nil_of_le (by omega)]; simp
theorem mg_set2' {k i : Int} {l : List Gr} {g b c : Gr} (h : mgI l i) (hg : (mkGs k (l.take i.toNat) ++ l.drop i.toNat)[i.toNat]? = some g) (hb : b = mkG (k + totG (l.take i.toNat)) g) :
    ((mkGs k (l.take i.toNat) ++ l.drop i.toNat).set i.toNat c).set i.toNat b = mkGs k (l.take (i + 1).toNat) ++ l.drop (i + 1).toNat := by
  rw [mg_set2]; exact mg_step h hg hb
theorem mg_set3 {k i : Int} {l : List Gr} {g c b : Gr} (h : mgI l i) (hg : (mkGs k (l.take i.toNat) ++ l.drop i.toNat)[i.toNat]? = some g) (hb : ((mkGs k (l.take i.toNat) ++ l.drop i.toNat).set i.toNat c)[i.toNat]? = some b) : c = b :=
  (mg_set1 (getE hg).1).1 hb
theorem mgI_tot {i : Int} {l : List Gr} (h : mgI l i) : 0 ≤ totG (l.take i.toNat) ∧ totG (l.take i.toNat) ≤ 200 := mkB_tot h.1
def lMkGrs (x : List Gr × Int) : LS := {
  ι := Int, inv := mgI x.1, regs := fun i => [(0, ogrs (mkGs x.2 (x.1.take i.toNat) ++ x.1.drop i.toNat)), (1, .int .i64 (x.2 + totG (x.1.take i.toNat))), (5, .int .i64 i)], als := [], meas := fun i => x.1.length - i.toNat }
def s_markGrs  : Sig := { X := List Gr × Int, args := fun x => [ogrs x.1, .int .i64 x.2], pre := fun x => mkB x.1 ∧ 0 ≤ x.2 ∧ x.2 ≤ 2 ^ 50, Y := Unit, post := fun x y => True, res := fun x y => .int .i64 (x.2 + totG x.1), outs := fun x y => [ogrs (mkGs x.2 x.1), .top], keep := false, fixed := [0] }
theorem markGrs_vc (x : List Gr × Int) : vcFun Go.Proofs.Tryz.prog (Γof [(39, 0, s_markInts)]) (Eof []) false (Lof ([(2,lMkGrs x)])) Go.Proofs.Tryz.f21.ntmps Go.Proofs.Tryz.f21.results.toList (Go.Proofs.Tryz.f21.body.getD .skip) s_markGrs x = ((∀ (y : Unit), True → True ∧ (∀ (x : Gr), (∀ (x : Int), True ∧ True) ∧ True ∧ True) ∧ True ∧ True) ∧ (∃ (i : Int), mgI x.fst i ∧ (AV.sl true (0 : Nat) (2 : Nat) Gr (grA true) x.fst = AV.sl true (0 : Nat) (2 : Nat) Gr (grA true) (mkGs x.snd (List.take (Int.toNat i) x.fst) ++ List.drop (Int.toNat i) x.fst) ∧ x.snd = x.snd + totG (List.take (Int.toNat i) x.fst) ∧ (0 : Int) = i ∧ True) ∧ True) ∧ ∀ (i : Int), mgI x.fst i → bcase (decide (i < (↑(List.length (mkGs x.snd (List.take (Int.toNat i) x.fst) ++ List.drop (Int.toNat i) x.fst)) : Int))) (((0 : Int) ≤ i ∧ i < (↑(List.length (mkGs x.snd (List.take (Int.toNat i) x.fst) ++ List.drop (Int.toNat i) x.fst)) : Int)) ∧ Int.toNat i < List.length (mkGs x.snd (List.take (Int.toNat i) x.fst) ++ List.drop (Int.toNat i) x.fst) ∧ ∀ (z : Gr), (mkGs x.snd (List.take (Int.toNat i) x.fst) ++ List.drop (Int.toNat i) x.fst)[Int.toNat i]? = some z → ∃ (x_1 : List Int × Int), (List.length x_1.fst ≤ (1099511627776 : Nat) ∧ (0 : Int) ≤ x_1.snd ∧ x_1.snd ≤ (2 : Int) ^ (60 : Nat)) ∧ AV.sl true (0 : Nat) (1 : Nat) Int intA z.notes = AV.sl true (0 : Nat) (1 : Nat) Int intA x_1.fst ∧ x.snd + totG (List.take (Int.toNat i) x.fst) = x_1.snd ∧ ∀ (y : Unit), True → ∃ (z' : Gr), [AV.sl true (0 : Nat) (1 : Nat) Int intA z'.notes, AV.int IntKind.i64 z'.member] = [AV.sl true (0 : Nat) (1 : Nat) Int intA (mkI x_1.snd (List.length x_1.fst)), AV.int IntKind.i64 z.member] ∧ ((0 : Int) ≤ i ∧ i < (↑(List.length (List.set (mkGs x.snd (List.take (Int.toNat i) x.fst) ++ List.drop (Int.toNat i) x.fst) (Int.toNat i) z')) : Int)) ∧ Int.toNat i < List.length (List.set (mkGs x.snd (List.take (Int.toNat i) x.fst) ++ List.drop (Int.toNat i) x.fst) (Int.toNat i) z') ∧ ∀ (x_2 : Gr), (List.set (mkGs x.snd (List.take (Int.toNat i) x.fst) ++ List.drop (Int.toNat i) x.fst) (Int.toNat i) z')[Int.toNat i]? = some x_2 → ∃ (x' : Gr), ([AV.sl true (0 : Nat) (1 : Nat) Int intA x'.notes] = [AV.sl true (0 : Nat) (1 : Nat) Int intA x_2.notes] ∧ (@List.nil AV) = []) ∧ x_1.snd + (↑(List.length x_1.fst) : Int) = x'.member ∧ inR IntKind.i64 (x_1.snd + (↑(List.length x_1.fst) : Int) + (1 : Int)) ∧ inR IntKind.i64 (i + (1 : Int)) ∧ ∃ (i' : Int), mgI x.fst i' ∧ List.length x.fst - Int.toNat i' < List.length x.fst - Int.toNat i ∧ (AV.sl true (0 : Nat) (2 : Nat) Gr (grA true) (List.set (List.set (mkGs x.snd (List.take (Int.toNat i) x.fst) ++ List.drop (Int.toNat i) x.fst) (Int.toNat i) z') (Int.toNat i) x') = AV.sl true (0 : Nat) (2 : Nat) Gr (grA true) (mkGs x.snd (List.take (Int.toNat i') x.fst) ++ List.drop (Int.toNat i') x.fst) ∧ x_1.snd + (↑(List.length x_1.fst) : Int) + (1 : Int) = x.snd + totG (List.take (Int.toNat i') x.fst) ∧ i + (1 : Int) = i' ∧ True) ∧ True) (∃ (y : Unit), True ∧ x.snd + totG (List.take (Int.toNat i) x.fst) = x.snd + totG x.fst ∧ AV.sl true (0 : Nat) (2 : Nat) Gr (grA true) (mkGs x.snd (List.take (Int.toNat i) x.fst) ++ List.drop (Int.toNat i) x.fst) = AV.sl true (0 : Nat) (2 : Nat) Gr (grA true) (mkGs x.snd x.fst) ∧ True)) := by kernel_rfl
theorem markGrs_ok  : Contract G Tryz.prog 21 s_markGrs :=
  vcFun_ok (Γ := Γof [(39, 0, s_markInts)]) (E := Eof []) (ov := false) (L := fun x => Lof ([(2,lMkGrs x)])) Tryz.func21 rfl (by decide) (Γof_ok (l := [(39, 0, s_markInts)]) ⟨markInts_ok, trivial⟩) fun (x : List Gr × Int) (hx : mkB x.1 ∧ 0 ≤ x.2 ∧ x.2 ≤ 2 ^ 50) => (markGrs_vc  x).mpr (by
  obtain ⟨h1, h2, h3⟩ := hx
  (repeat' first | refine ex_gr (mkI _ _) _ rfl ?_ | refine ex_gr2 _ _ ⟨rfl, ?_⟩ ⟨rfl, rfl⟩ | with_reducible rfl | exact True.intro | refine inR_i64 ?_ ?_ | with_reducible refine And.intro ?_ ?_ | with_reducible refine bcase_dec (fun _ => ?_) (fun _ => ?_) | with_reducible refine bcase_bne (fun _ => ?_) (fun _ => ?_) | with_reducible refine bcase_beq (fun _ => ?_) (fun _ => ?_) | with_reducible refine bcase_not (fun _ => ?_) (fun _ => ?_) | refine bcase_intro (fun _ => ?_) (fun _ => ?_) | refine sl_eq ?_ | refine ex_flip () ?_ ?_ | (apply ex_flip6 <;> try dsimp only) | (apply ex_flip5 <;> try dsimp only) | (apply ex_flip4 <;> try dsimp only) | (apply ex_flip3 <;> try dsimp only) | (apply ex_flip2 <;> try dsimp only) | apply ex_flip | (refine Prod.forall.2 ?_; intro _; try dsimp only) | (intro _; try dsimp only))
  all_goals try (have e := mg_set3 (show mgI _ _ by assumption) (show (mkGs _ _ ++ _)[Int.toNat _]? = some _ by assumption) (show (List.set _ _ _)[_]? = some _ by assumption); subst e)
  all_goals first
    | rfl
    | exact ⟨h1, by omega, by omega⟩
    | (simp [totG, mkGs]; done)
    | exact (show mgI _ _ by assumption).2.1
    | exact mg_tot (by assumption) (by assumption)
    | exact (mg_end (by assumption) (by assumption)).1
    | exact (mg_end (by assumption) (by assumption)).2
    | exact mg_set2' (by assumption) (by assumption) rfl
    | (have hi := (show mgI _ _ by assumption); have hl := @mgI_len x.2 _ x.1 hi; exact ⟨h1, by have := hi.2.1; omega, by have := hi.2.2; omega⟩)
    | (have hi := (show mgI _ _ by assumption); have hl := @mgI_len x.2 _ x.1 hi; have hg := mgI_g hi (show (mkGs _ _ ++ _)[Int.toNat _]? = some _ by assumption); (try dsimp only); omega)
    | (have hi := (show mgI _ _ by assumption); have hl := @mgI_len x.2 _ x.1 hi; have ht := mgI_tot hi; have := hi.2.1; have := hi.2.2; have hg := mgI_g hi (show (mkGs _ _ ++ _)[Int.toNat _]? = some _ by assumption); (try rw [List.length_set]); (try simp only [i64max]); omega)
    | (have hi := (show mgI _ _ by assumption); have hl := @mgI_len x.2 _ x.1 hi; have := hi.2.1; have := hi.2.2; have := h1.1; (try rw [List.length_set]); (try simp only [i64max]); omega)
    | skip)

def hgI (k : Int) (l : List Gr) (i : Int) : Prop := (mkB l ∧ l = mkGs k l) ∧ 0 ≤ i ∧ i ≤ l.length
theorem hgI_at {k i : Int} {l : List Gr} {g : Gr} (h : hgI k l i) (hg : l[i.toNat]? = some g) : g = mkG (k + totG (l.take i.toNat)) g := by
  have h1 : (mkGs k l)[i.toNat]? = some g := by rw [← h.1.2]; exact hg
  have h2 := mkGs_at (k := k) hg
  rw [h1] at h2; exact Option.some.inj h2
theorem hgI_1 {k i : Int} {l : List Gr} {g : Gr} (h : hgI k l i) (hg : l[i.toNat]? = some g) : g.notes = mkI (k + totG (l.take i.toNat)) g.notes.length ∧ g.member = k + totG (l.take i.toNat) + g.notes.length := by
  have h2 := hgI_at h hg
  have h3 := congrArg Gr.notes h2; have h4 := congrArg Gr.member h2
  exact ⟨h3, h4⟩
theorem hgI_tot {k i : Int} {l : List Gr} {g : Gr} (h : hgI k l i) (hg : l[i.toNat]? = some g) : k + totG (l.take i.toNat) + g.notes.length + 1 = k + totG (l.take (i + 1).toNat) := by
  rw [toNat1 h.2.1, takeE hg, totG_snoc]; omega
theorem hgI_bd {k i : Int} {l : List Gr} (h : hgI k l i) : (0 ≤ totG (l.take i.toNat) ∧ totG (l.take i.toNat) ≤ 200) ∧ l.length ≤ 12 := ⟨mkB_tot h.1.1, h.1.1.1⟩
theorem hgI_nt {k i : Int} {l : List Gr} {g : Gr} (h : hgI k l i) (hg : l[i.toNat]? = some g) : g.notes.length ≤ 12 := h.1.1.2 g (memE hg)
theorem hgI_end {k i : Int} {l : List Gr} (h : hgI k l i) (hl : ¬ i < l.length) : k + totG (l.take i.toNat) = k + totG l := by
  rw [List.take_of_length_le (by have := h.2.2; omega)]
def lHdGrs (x : List Gr × Int) : LS := {
  ι := Int, inv := hgI x.2 x.1, regs := fun i => [(0, grs x.1), (1, .int .i64 (x.2 + totG (x.1.take i.toNat))), (5, .int .i64 i)], als := [], meas := fun i => x.1.length - i.toNat }
def s_heldGrs  : Sig := { X := List Gr × Int, args := fun x => [grs x.1, .int .i64 x.2], pre := fun x => (mkB x.1 ∧ x.1 = mkGs x.2 x.1) ∧ 0 ≤ x.2 ∧ x.2 ≤ 2 ^ 50, Y := Unit, post := fun x y => True, res := fun x y => .int .i64 (x.2 + totG x.1), outs := fun x y => [.top, .top], keep := false }
theorem heldGrs_vc (x : List Gr × Int) : vcFun Go.Proofs.Tryz.prog (Γof [(60, 0, s_heldInts)]) (Eof []) false (Lof ([(2,lHdGrs x)])) Go.Proofs.Tryz.f22.ntmps Go.Proofs.Tryz.f22.results.toList (Go.Proofs.Tryz.f22.body.getD .skip) s_heldGrs x = ((∀ (y : Unit), True → True ∧ True ∧ True ∧ True) ∧ (∃ (i : Int), hgI x.snd x.fst i ∧ (AV.sl false (0 : Nat) (2 : Nat) Gr (grA false) x.fst = AV.sl false (0 : Nat) (2 : Nat) Gr (grA false) x.fst ∧ x.snd = x.snd + totG (List.take (Int.toNat i) x.fst) ∧ (0 : Int) = i ∧ True) ∧ True) ∧ ∀ (i : Int), hgI x.snd x.fst i → bcase (decide (i < (↑(List.length x.fst) : Int))) (((0 : Int) ≤ i ∧ i < (↑(List.length x.fst) : Int)) ∧ ∀ (e : Gr), x.fst[Int.toNat i]? = some e → ∃ (x_1 : List Int × Int), (x_1.fst = mkI x_1.snd (List.length x_1.fst) ∧ List.length x_1.fst ≤ (1099511627776 : Nat) ∧ (0 : Int) ≤ x_1.snd ∧ x_1.snd ≤ (2 : Int) ^ (60 : Nat)) ∧ AV.sl false (0 : Nat) (1 : Nat) Int intA e.notes = AV.sl false (0 : Nat) (1 : Nat) Int intA x_1.fst ∧ x.snd + totG (List.take (Int.toNat i) x.fst) = x_1.snd ∧ ∀ (y : Unit), True → bcase (decide (x_1.snd + (↑(List.length x_1.fst) : Int) < (0 : Int))) (∃ (y : Unit), True ∧ (-1 : Int) = x.snd + totG x.fst ∧ True) (((0 : Int) ≤ i ∧ i < (↑(List.length x.fst) : Int)) ∧ ∀ (e : Gr), x.fst[Int.toNat i]? = some e → bcase (e.member != x_1.snd + (↑(List.length x_1.fst) : Int)) (∃ (y : Unit), True ∧ (-1 : Int) = x.snd + totG x.fst ∧ True) (inR IntKind.i64 (x_1.snd + (↑(List.length x_1.fst) : Int) + (1 : Int)) ∧ inR IntKind.i64 (i + (1 : Int)) ∧ ∃ (i' : Int), hgI x.snd x.fst i' ∧ List.length x.fst - Int.toNat i' < List.length x.fst - Int.toNat i ∧ (AV.sl false (0 : Nat) (2 : Nat) Gr (grA false) x.fst = AV.sl false (0 : Nat) (2 : Nat) Gr (grA false) x.fst ∧ x_1.snd + (↑(List.length x_1.fst) : Int) + (1 : Int) = x.snd + totG (List.take (Int.toNat i') x.fst) ∧ i + (1 : Int) = i' ∧ True) ∧ True))) (∃ (y : Unit), True ∧ x.snd + totG (List.take (Int.toNat i) x.fst) = x.snd + totG x.fst ∧ True)) := by kernel_rfl
theorem heldGrs_ok  : Contract G Tryz.prog 22 s_heldGrs :=
  vcFun_ok (Γ := Γof [(60, 0, s_heldInts)]) (E := Eof []) (ov := false) (L := fun x => Lof ([(2,lHdGrs x)])) Tryz.func22 rfl (by decide) (Γof_ok (l := [(60, 0, s_heldInts)]) ⟨heldInts_ok, trivial⟩) fun (x : List Gr × Int) (hx : (mkB x.1 ∧ x.1 = mkGs x.2 x.1) ∧ 0 ≤ x.2 ∧ x.2 ≤ 2 ^ 50) => (heldGrs_vc  x).mpr (by
  obtain ⟨h1, h2, h3⟩ := hx
  (repeat' first | with_reducible rfl | exact True.intro | refine inR_i64 ?_ ?_ | with_reducible refine And.intro ?_ ?_ | with_reducible refine bcase_dec (fun _ => ?_) (fun _ => ?_) | with_reducible refine bcase_bne (fun _ => ?_) (fun _ => ?_) | with_reducible refine bcase_beq (fun _ => ?_) (fun _ => ?_) | with_reducible refine bcase_not (fun _ => ?_) (fun _ => ?_) | refine bcase_intro (fun _ => ?_) (fun _ => ?_) | refine sl_eq ?_ | refine ex_flip () ?_ ?_ | (apply ex_flip6 <;> try dsimp only) | (apply ex_flip5 <;> try dsimp only) | (apply ex_flip4 <;> try dsimp only) | (apply ex_flip3 <;> try dsimp only) | (apply ex_flip2 <;> try dsimp only) | apply ex_flip | (refine Prod.forall.2 ?_; intro _; try dsimp only) | (intro _; try dsimp only))
  all_goals (repeat (rename x.1[Int.toNat _]? = some _ => hq; revert hq; rename x.1[Int.toNat _]? = some _ => hr; intro hq; rw [hr] at hq; cases hq))
  all_goals first
    | rfl
    | exact ⟨h1, by omega, by omega⟩
    | (simp [totG]; done)
    | exact (show hgI _ _ _ by assumption).2.1
    | exact hgI_tot (by assumption) (by assumption)
    | exact hgI_end (by assumption) (by assumption)
    | exact (hgI_1 (by assumption) (by assumption)).1
    | (have hi := (show hgI _ _ _ by assumption); exact ⟨h1, by have := hi.2.1; omega, by have := hi.2.2; omega⟩)
    | (have hi := (show hgI _ _ _ by assumption); have hb := hgI_bd hi; have := hi.2.1; have := hi.2.2; (try simp only [i64max]); omega)
    | (have hi := (show hgI _ _ _ by assumption); have hb := hgI_bd hi; have hn := hgI_nt hi (by assumption); have hm := (hgI_1 hi (by assumption)).2; have := hi.2.1; have := hi.2.2; (try simp only [i64max]); omega)
    | skip)

theorem gText {l : List Nd} (h : ¬ szNds l 1048576 < 0) {e : Nd} (he : e ∈ l) : e.text.length ≤ 1099511627776 := by have := gB2 h he; omega
end Go.My
end
section
/- Groups in order: sorting by the library, and the two functions. -/
set_option linter.unusedVariables false
set_option linter.unusedSimpArgs false
namespace Go.My
open Go.Eng Go.Proofs
variable {G : GInv}

def txtB (l : List Nd) : Prop := l.length < 2 ^ 62 ∧ ∀ e ∈ l, e.text.length ≤ 2 ^ 40
def s_cmpG  : Sig := { X := List Nd × Int × Int, args := fun x => [.agg [.any, .int .i64 x.2.1], .agg [.any, .int .i64 x.2.2], .pf [nds x.1]], pre := fun x => txtB x.1, Y := Unit, post := fun x y => True, res := fun x y => .int .i64 (cmpV (gkey x.1 x.2.1) (gkey x.1 x.2.2)), outs := fun x y => [.top, .top, .top], keep := false }
theorem cmpG_vc (x : List Nd × Int × Int) : vcFun Go.Proofs.Tryz.prog (Γof [(67, 0, s_iGroupKey), (66, 0, s_cmpStr)]) (Eof []) false (Lof ([])) Go.Proofs.Tryz.f65.ntmps Go.Proofs.Tryz.f65.results.toList (Go.Proofs.Tryz.f65.body.getD .skip) s_cmpG x = ((∀ (y : Unit), True → True ∧ True ∧ True ∧ True ∧ True) ∧ true = true ∧ true = true ∧ ∃ (x_1 : List Nd × Int), (List.length x_1.fst < (4611686018427387904 : Nat) ∧ ∀ (e : Nd), e ∈ x_1.fst → List.length e.text ≤ (1099511627776 : Nat)) ∧ AV.sl false (0 : Nat) (4 : Nat) Nd (ndA false) x.fst = AV.sl false (0 : Nat) (4 : Nat) Nd (ndA false) x_1.fst ∧ x.snd.fst = x_1.snd ∧ ∃ (y0 : Unit), (∀ (y : Unit), True → AV.str (gkey x_1.fst x_1.snd) = AV.str (gkey x_1.fst x_1.snd)) ∧ true = true ∧ ∃ (x_2 : List Nd × Int), (List.length x_2.fst < (4611686018427387904 : Nat) ∧ ∀ (e : Nd), e ∈ x_2.fst → List.length e.text ≤ (1099511627776 : Nat)) ∧ AV.sl false (0 : Nat) (4 : Nat) Nd (ndA false) x.fst = AV.sl false (0 : Nat) (4 : Nat) Nd (ndA false) x_2.fst ∧ x.snd.snd = x_2.snd ∧ ∃ (y0 : Unit), (∀ (y : Unit), True → AV.str (gkey x_2.fst x_2.snd) = AV.str (gkey x_2.fst x_2.snd)) ∧ true = true ∧ ∃ (x_3 : List UInt8 × List UInt8), True ∧ gkey x_1.fst x_1.snd = x_3.fst ∧ gkey x_2.fst x_2.snd = x_3.snd ∧ ∃ (y0 : Unit), (∀ (y : Unit), True → AV.int IntKind.i64 (cmpV x_3.fst x_3.snd) = AV.int IntKind.i64 (cmpV x_3.fst x_3.snd)) ∧ true = true ∧ ∃ (y : Unit), True ∧ cmpV x_3.fst x_3.snd = cmpV (gkey x.fst x.snd.fst) (gkey x.fst x.snd.snd) ∧ True) := by kernel_rfl
theorem cmpG_ok  : Contract G Tryz.prog 65 s_cmpG :=
  vcFun_ok (Γ := Γof [(67, 0, s_iGroupKey), (66, 0, s_cmpStr)]) (E := Eof []) (ov := false) (L := fun x => Lof ([])) Tryz.func65 rfl (by decide) (Γof_ok (l := [(67, 0, s_iGroupKey), (66, 0, s_cmpStr)]) ⟨iGroupKey_ok, cmpStr_ok, trivial⟩) fun (x : List Nd × Int × Int) (hx : txtB x.1) => (cmpG_vc  x).mpr (by
  have h1 := hx.1; have h2 := hx.2
  (repeat' first | with_reducible rfl | exact True.intro | refine inR_i64 ?_ ?_ | with_reducible refine And.intro ?_ ?_ | with_reducible refine bcase_dec (fun _ => ?_) (fun _ => ?_) | with_reducible refine bcase_bne (fun _ => ?_) (fun _ => ?_) | with_reducible refine bcase_beq (fun _ => ?_) (fun _ => ?_) | with_reducible refine bcase_not (fun _ => ?_) (fun _ => ?_) | refine bcase_intro (fun _ => ?_) (fun _ => ?_) | refine sl_eq ?_ | refine ex_flip () ?_ ?_ | (apply ex_flip6 <;> try dsimp only) | (apply ex_flip5 <;> try dsimp only) | (apply ex_flip4 <;> try dsimp only) | (apply ex_flip3 <;> try dsimp only) | (apply ex_flip2 <;> try dsimp only) | apply ex_flip | (refine Prod.forall.2 ?_; intro _; try dsimp only) | (intro _; try dsimp only))
  all_goals first | exact h1 | exact h2 | exact h2 _ (by assumption) | skip)

def ltR (ns : List Nd) (a b : Raw) : Bool := bLt (gkey ns a.2) (gkey ns b.2)
theorem ltR_nt {ns : List Nd} : ∀ a b c : Raw, ltR ns a c = true → ltR ns b c = false → ltR ns a b = true := fun a b c h1 h2 => @bLt_nt (gkey ns a.2) (gkey ns b.2) (gkey ns c.2) h1 h2
theorem ltR_as {ns : List Nd} : ∀ a b : Raw, ltR ns a b = true → ltR ns b a = false := fun a b h => @bLt_asym (gkey ns a.2) (gkey ns b.2) h
/- the state within the sort: e on its way to the left -/
def stJ (lt : Raw → Raw → Bool) (l : List Raw) (i j : Int) : List Raw := match l[i.toNat]? with
  | some e => (isort lt (l.take i.toNat)).take j.toNat ++ e :: ((isort lt (l.take i.toNat)).drop j.toNat ++ l.drop (i.toNat + 1))
  | none => l
def stI (lt : Raw → Raw → Bool) (l : List Raw) (i : Int) : List Raw := isort lt (l.take i.toNat) ++ l.drop i.toNat
def soI (l : List Raw) (i : Int) : Prop := 1 ≤ i ∧ (i ≤ l.length ∨ i = 1)
def soJ (lt : Raw → Raw → Bool) (l : List Raw) (i j : Int) : Prop := (0 ≤ j ∧ j ≤ i) ∧ (1 ≤ i ∧ i < l.length) ∧ ∀ x e, (isort lt (l.take i.toNat))[j.toNat]? = some x → l[i.toNat]? = some e → lt e x = true
theorem stI_len {lt : Raw → Raw → Bool} {l : List Raw} {i : Int} : (stI lt l i).length = l.length := by
  rw [stI, List.length_append, isort_len, List.length_take, List.length_drop]; omega
theorem stJ_len {lt : Raw → Raw → Bool} {l : List Raw} {i j : Int} (h : soJ lt l i j) : (stJ lt l i j).length = l.length := by
  unfold stJ
  split
  · rename_i e he
    have := (getE he).1
    simp only [List.length_append, List.length_cons, List.length_take, List.length_drop, isort_len]
    omega
  · rfl
theorem st_first {lt : Raw → Raw → Bool} {l : List Raw} : l = stI lt l 1 := by
  unfold stI
  cases l with
  | nil => rfl
  | cons a l => simp [isort, insS]
theorem stJ_first {lt : Raw → Raw → Bool} {l : List Raw} {i : Int} (h : soI l i) (hl : i < l.length) : stI lt l i = stJ lt l i i := by
  unfold stI stJ
  obtain ⟨q, e⟩ : ∃ q, l[i.toNat]? = some q := ⟨l[i.toNat]'(by have := h.1; omega), by simp⟩
  rw [e]
  simp only
  rw [dropE e, List.take_of_length_le (l := isort lt _) (by rw [isort_len, List.length_take]; omega), List.drop_of_length_le (l := isort lt _) (by rw [isort_len, List.length_take]; omega)]
  simp
theorem soJ_first {lt : Raw → Raw → Bool} {l : List Raw} {i : Int} (h : soI l i) (hl : i < l.length) : soJ lt l i i := by
  refine ⟨⟨by have := h.1; omega, Int.le_refl i⟩, ⟨h.1, hl⟩, fun x e hx _ => ?_⟩
  rw [List.getElem?_eq_none (by rw [isort_len, List.length_take]; omega)] at hx; cases hx
theorem stJ_at {lt : Raw → Raw → Bool} {l : List Raw} {i j : Int} {y : Raw} (h : soJ lt l i j) (hy : (stJ lt l i j)[j.toNat]? = some y) : l[i.toNat]? = some y := by
  obtain ⟨q, e⟩ : ∃ q, l[i.toNat]? = some q := ⟨l[i.toNat]'(by have := h.2.1; omega), by simp⟩
  unfold stJ at hy
  rw [e] at hy ⊢
  simp only at hy
  have hlen : ((isort lt (l.take i.toNat)).take j.toNat).length = j.toNat := by rw [List.length_take, isort_len, List.length_take]; have := h.1; have := h.2.1; omega
  rw [List.getElem?_append_right (by omega), hlen, Nat.sub_self] at hy
  simpa using hy
theorem stJ_prev {lt : Raw → Raw → Bool} {l : List Raw} {i j : Int} {y : Raw} (h : soJ lt l i j) (hj : j > 0) (hy : (stJ lt l i j)[(j - 1).toNat]? = some y) : (isort lt (l.take i.toNat))[(j - 1).toNat]? = some y := by
  obtain ⟨q, e⟩ : ∃ q, l[i.toNat]? = some q := ⟨l[i.toNat]'(by have := h.2.1; omega), by simp⟩
  unfold stJ at hy
  rw [e] at hy
  simp only at hy
  have hlen : ((isort lt (l.take i.toNat)).take j.toNat).length = j.toNat := by rw [List.length_take, isort_len, List.length_take]; have := h.1; have := h.2.1; omega
  rw [List.getElem?_append_left (by omega), List.getElem?_take_of_lt (by omega)] at hy
  exact hy
theorem swap_at {P Q : List Raw} {e x : Raw} {j : Nat} (hj : 0 < j) (hx : P[j - 1]? = some x) : ((P.take j ++ e :: (P.drop j ++ Q)).set j x).set (j - 1) e = P.take (j - 1) ++ e :: (P.drop (j - 1) ++ Q) := by
  have hlt := (getE hx).1
  have e1 : P.take j = P.take (j - 1) ++ [x] := by
    have := takeE hx; rwa [show j - 1 + 1 = j by omega] at this
  have e2 : P.drop (j - 1) = x :: P.drop j := by
    have := dropE hx; rwa [show j - 1 + 1 = j by omega] at this
  rw [e2, e1]
  have h1 : (P.take (j - 1)).length = j - 1 := by rw [List.length_take]; omega
  rw [List.append_assoc, List.set_append_right _ _ (by omega), h1, List.set_append_right _ _ (by omega), h1]
  have : j - (j - 1) = 1 := by omega
  rw [this]; simp
theorem stJ_swap {lt : Raw → Raw → Bool} {l : List Raw} {i j : Int} {x y : Raw} (h : soJ lt l i j) (hj : j > 0) (hx : (stJ lt l i j)[(j - 1).toNat]? = some x) (hy : (stJ lt l i j)[j.toNat]? = some y) :
    ((stJ lt l i j).set j.toNat x).set (j - 1).toNat y = stJ lt l i (j - 1) := by
  have h1 := stJ_at h hy
  have h2 := stJ_prev h hj hx
  unfold stJ
  rw [h1]
  simp only
  have e : (j - 1).toNat = j.toNat - 1 := by omega
  rw [e] at h2 ⊢
  exact swap_at (by omega) h2
theorem soJ_next {lt : Raw → Raw → Bool} {l : List Raw} {i j : Int} {x y : Raw} (h : soJ lt l i j) (hj : j > 0) (hx : (stJ lt l i j)[(j - 1).toNat]? = some x) (hy : (stJ lt l i j)[j.toNat]? = some y) (hlt : lt y x = true) : soJ lt l i (j - 1) := by
  refine ⟨by have := h.1; omega, h.2.1, fun a e ha he => ?_⟩
  rw [stJ_at h hy] at he; rw [stJ_prev h hj hx] at ha
  cases he; cases ha; exact hlt
theorem stJ_done {ns : List Nd} {l : List Raw} {i j : Int} (h : soJ (ltR ns) l i j) (hd : ¬ j > 0 ∨ ∃ x y, (stJ (ltR ns) l i j)[(j - 1).toNat]? = some x ∧ (stJ (ltR ns) l i j)[j.toNat]? = some y ∧ ltR ns y x = false) :
    stJ (ltR ns) l i j = stI (ltR ns) l (i + 1) := by
  obtain ⟨q, e⟩ : ∃ q, l[i.toNat]? = some q := ⟨l[i.toNat]'(by have := h.2.1; omega), by simp⟩
  have hs : sortedL (ltR ns) (isort (ltR ns) (l.take i.toNat)) := isort_sorted ltR_nt ltR_as
  have hlen : (isort (ltR ns) (l.take i.toNat)).length = i.toNat := by rw [isort_len, List.length_take]; have := h.2.1; omega
  have key : insS (ltR ns) q (isort (ltR ns) (l.take i.toNat)) = (isort (ltR ns) (l.take i.toNat)).take j.toNat ++ q :: (isort (ltR ns) (l.take i.toNat)).drop j.toNat := by
    refine ins_right ltR_nt hs (by have := h.1; omega) (fun x hx => h.2.2 x _ hx e) ?_
    by_cases hj : j > 0
    · right
      rcases hd with hd | ⟨x, y, hx, hy, hn⟩
      · exact (hd hj).elim
      · have h1 := stJ_at h hy; have h2 := stJ_prev h hj hx
        rw [e] at h1; cases h1
        exact ⟨x, by rw [show j.toNat - 1 = (j - 1).toNat by omega]; exact h2, hn⟩
    · left; omega
  unfold stI stJ
  rw [e]
  simp only
  have := h.2.1
  rw [toNat1 (by omega), takeE e, isort_snoc, key]; simp
theorem soI_next {lt : Raw → Raw → Bool} {l : List Raw} {i j : Int} (h : soJ lt l i j) : soI l (i + 1) := ⟨by have := h.2.1; omega, .inl (by have := h.2.1; omega)⟩
theorem stI_done {lt : Raw → Raw → Bool} {l : List Raw} {i : Int} (h : soI l i) (hl : ¬ i < l.length) : stI lt l i = isort lt l := by
  rcases h.2 with h2 | h2
  · unfold stI
    rw [List.take_of_length_le (by omega), List.drop_eq_nil_of_le (by omega)]; simp
  · subst h2
    rw [← st_first]
    cases l with
    | nil => rfl
    | cons a l =>
      cases l with
      | nil => rfl
      | cons b l => simp at hl; omega
theorem soJ_next' {ns : List Nd} {l : List Raw} {i j : Int} {x y : Raw} (h : soJ (ltR ns) l i j) (hj : j > 0) (hy : (stJ (ltR ns) l i j)[j.toNat]? = some y) (hx : (stJ (ltR ns) l i j)[(j - 1).toNat]? = some x) (hc : cmpV (gkey ns y.2) (gkey ns x.2) < 0) : soJ (ltR ns) l i (j - 1) :=
  soJ_next h hj hx hy (cmpV_neg.1 hc)
theorem stJ_done1 {ns : List Nd} {l : List Raw} {i j : Int} (h : soJ (ltR ns) l i j) (hd : ¬ j > 0) : stJ (ltR ns) l i j = stI (ltR ns) l (i + 1) := stJ_done h (.inl hd)
theorem stJ_done2 {ns : List Nd} {l : List Raw} {i j : Int} {x y : Raw} (h : soJ (ltR ns) l i j) (hj : j > 0) (hy : (stJ (ltR ns) l i j)[j.toNat]? = some y) (hx : (stJ (ltR ns) l i j)[(j - 1).toNat]? = some x) (hc : ¬ cmpV (gkey ns y.2) (gkey ns x.2) < 0) : stJ (ltR ns) l i j = stI (ltR ns) l (i + 1) := by
  refine stJ_done h (.inr ⟨x, y, hx, hy, ?_⟩)
  rw [cmpV_neg] at hc
  simpa [ltR] using hc
def clG (ns : List Nd) : AV := .clo (.func 65) [.pf [nds ns]]
def lSoC (x : List Raw × List Nd) (i j : Int) : LS := {
  ι := Unit, inv := fun _ => True,
  regs := fun _ => [(0, raws (stJ (ltR x.2) x.1 i (j - 1))), (1, .int .i64 0), (2, .int .i64 x.1.length), (3, clG x.2), (8, .int .i64 i), (9, .int .i64 j)], als := [], meas := fun _ => 0 }
def lSoJ (x : List Raw × List Nd) (i : Int) : LS := {
  ι := Int, inv := soJ (ltR x.2) x.1 i,
  regs := fun j => [(0, raws (stJ (ltR x.2) x.1 i j)), (1, .int .i64 0), (2, .int .i64 x.1.length), (3, clG x.2), (8, .int .i64 i), (9, .int .i64 j)], als := [], meas := fun j => j.toNat, sub := fun j => [(100006, lSoC x i j)] }
def lSoI (x : List Raw × List Nd) : LS := {
  ι := Int, inv := soI x.1,
  regs := fun i => [(0, raws (stI (ltR x.2) x.1 i)), (1, .int .i64 0), (2, .int .i64 x.1.length), (3, clG x.2), (8, .int .i64 i)], als := [], meas := fun i => x.1.length + 1 - i.toNat, sub := fun i => [(4, lSoJ x i)] }
def s_insSort  : Sig := { X := List Raw × List Nd, args := fun x => [raws x.1, .int .i64 0, .int .i64 x.1.length, clG x.2], pre := fun x => x.1.length ≤ 12 ∧ txtB x.2, Y := Unit, post := fun x y => True, res := fun x y => .tup [], outs := fun x y => [raws (isort (ltR x.2) x.1), .top, .top, .top], keep := false, fixed := [0] }
theorem insSort_vc (x : List Raw × List Nd) : vcFun Go.Proofs.Tryz.prog (Γof [(65, 0, s_cmpG)]) (Eof []) false (Lof ([(1,lSoI x)])) Go.Proofs.Tryz.f157.ntmps Go.Proofs.Tryz.f157.results.toList (Go.Proofs.Tryz.f157.body.getD .skip) s_insSort x = ((∀ (y : Unit), True → True ∧ (∀ (x : Raw), True ∧ True ∧ True) ∧ True ∧ True ∧ True ∧ True) ∧ inR IntKind.i64 ((0 : Int) + (1 : Int)) ∧ (∃ (i : Int), soI x.fst i ∧ (AV.sl true (0 : Nat) (2 : Nat) Raw rawA x.fst = AV.sl true (0 : Nat) (2 : Nat) Raw rawA (stI (ltR x.snd) x.fst i) ∧ (0 : Int) = (0 : Int) ∧ (↑(List.length x.fst) : Int) = (↑(List.length x.fst) : Int) ∧ AV.pf [AV.sl false (0 : Nat) (4 : Nat) Nd (ndA false) x.snd] = AV.pf [AV.sl false (0 : Nat) (4 : Nat) Nd (ndA false) x.snd] ∧ (0 : Int) + (1 : Int) = i ∧ True) ∧ True) ∧ ∀ (i : Int), soI x.fst i → bcase (decide (i < (↑(List.length x.fst) : Int))) ((∃ (i_1 : Int), soJ (ltR x.snd) x.fst i i_1 ∧ (AV.sl true (0 : Nat) (2 : Nat) Raw rawA (stI (ltR x.snd) x.fst i) = AV.sl true (0 : Nat) (2 : Nat) Raw rawA (stJ (ltR x.snd) x.fst i i_1) ∧ (0 : Int) = (0 : Int) ∧ (↑(List.length x.fst) : Int) = (↑(List.length x.fst) : Int) ∧ AV.pf [AV.sl false (0 : Nat) (4 : Nat) Nd (ndA false) x.snd] = AV.pf [AV.sl false (0 : Nat) (4 : Nat) Nd (ndA false) x.snd] ∧ i = i ∧ i = i_1 ∧ True) ∧ True) ∧ ∀ (i_1 : Int), soJ (ltR x.snd) x.fst i i_1 → true = true ∧ true = true ∧ bcase (decide (i_1 > (0 : Int))) (((0 : Int) ≤ i_1 ∧ i_1 < (↑(List.length (stJ (ltR x.snd) x.fst i i_1)) : Int)) ∧ Int.toNat i_1 < List.length (stJ (ltR x.snd) x.fst i i_1) ∧ ∀ (x_1 : Raw), (stJ (ltR x.snd) x.fst i i_1)[Int.toNat i_1]? = some x_1 → inR IntKind.i64 (i_1 - (1 : Int)) ∧ ((0 : Int) ≤ i_1 - (1 : Int) ∧ i_1 - (1 : Int) < (↑(List.length (stJ (ltR x.snd) x.fst i i_1)) : Int)) ∧ Int.toNat (i_1 - (1 : Int)) < List.length (stJ (ltR x.snd) x.fst i i_1) ∧ ∀ (x_2 : Raw), (stJ (ltR x.snd) x.fst i i_1)[Int.toNat (i_1 - (1 : Int))]? = some x_2 → ∃ (x_3 : List Nd × Int × Int), txtB x_3.fst ∧ x_1.snd = x_3.snd.fst ∧ x_2.snd = x_3.snd.snd ∧ AV.pf [AV.sl false (0 : Nat) (4 : Nat) Nd (ndA false) x.snd] = AV.pf [AV.sl false (0 : Nat) (4 : Nat) Nd (ndA false) x_3.fst] ∧ ∃ (y0 : Unit), (∀ (y : Unit), True → AV.int IntKind.i64 (cmpV (gkey x_3.fst x_3.snd.fst) (gkey x_3.fst x_3.snd.snd)) = AV.int IntKind.i64 (cmpV (gkey x_3.fst x_3.snd.fst) (gkey x_3.fst x_3.snd.snd))) ∧ true = true ∧ bcase (decide (cmpV (gkey x_3.fst x_3.snd.fst) (gkey x_3.fst x_3.snd.snd) < (0 : Int))) (true = true ∧ (((0 : Int) ≤ i_1 ∧ i_1 < (↑(List.length (stJ (ltR x.snd) x.fst i i_1)) : Int)) ∧ (inR IntKind.i64 (i_1 - (1 : Int)) ∧ (inR IntKind.i64 (i_1 - (1 : Int)) ∧ ((0 : Int) ≤ i_1 - (1 : Int) ∧ i_1 - (1 : Int) < (↑(List.length (stJ (ltR x.snd) x.fst i i_1)) : Int)) ∧ (Int.toNat (i_1 - (1 : Int)) < List.length (stJ (ltR x.snd) x.fst i i_1) ∧ ∀ (x_4 : Raw), (stJ (ltR x.snd) x.fst i i_1)[Int.toNat (i_1 - (1 : Int))]? = some x_4 → Int.toNat i_1 < List.length (stJ (ltR x.snd) x.fst i i_1) ∧ ∀ (x_5 : Raw), (stJ (ltR x.snd) x.fst i i_1)[Int.toNat i_1]? = some x_5 → ((0 : Int) ≤ i_1 ∧ i_1 < (↑(List.length (stJ (ltR x.snd) x.fst i i_1)) : Int)) ∧ Int.toNat i_1 < List.length (stJ (ltR x.snd) x.fst i i_1) ∧ ∀ (x_6 : Raw), (stJ (ltR x.snd) x.fst i i_1)[Int.toNat i_1]? = some x_6 → ∃ (x' : Raw), ((@List.nil AV) = [] ∧ (@List.nil AV) = []) ∧ x_4.fst = x'.fst ∧ x_4.snd = x'.snd ∧ ((0 : Int) ≤ i_1 - (1 : Int) ∧ i_1 - (1 : Int) < (↑(List.length (List.set (stJ (ltR x.snd) x.fst i i_1) (Int.toNat i_1) x')) : Int)) ∧ Int.toNat (i_1 - (1 : Int)) < List.length (List.set (stJ (ltR x.snd) x.fst i i_1) (Int.toNat i_1) x') ∧ ∀ (x_7 : Raw), (List.set (stJ (ltR x.snd) x.fst i i_1) (Int.toNat i_1) x')[Int.toNat (i_1 - (1 : Int))]? = some x_7 → ∃ (x'_1 : Raw), ((@List.nil AV) = [] ∧ (@List.nil AV) = []) ∧ x_5.fst = x'_1.fst ∧ x_5.snd = x'_1.snd ∧ true = true ∧ ∃ (i_2 : Unit), True ∧ (AV.sl true (0 : Nat) (2 : Nat) Raw rawA (List.set (List.set (stJ (ltR x.snd) x.fst i i_1) (Int.toNat i_1) x') (Int.toNat (i_1 - (1 : Int))) x'_1) = AV.sl true (0 : Nat) (2 : Nat) Raw rawA (stJ (ltR x.snd) x.fst i (i_1 - (1 : Int))) ∧ (0 : Int) = (0 : Int) ∧ (↑(List.length x.fst) : Int) = (↑(List.length x.fst) : Int) ∧ AV.pf [AV.sl false (0 : Nat) (4 : Nat) Nd (ndA false) x.snd] = AV.pf [AV.sl false (0 : Nat) (4 : Nat) Nd (ndA false) x.snd] ∧ i = i ∧ i_1 = i_1 ∧ True) ∧ True) ∧ Int.toNat i_1 < List.length (stJ (ltR x.snd) x.fst i i_1) ∧ ∀ (x_4 : Raw), (stJ (ltR x.snd) x.fst i i_1)[Int.toNat i_1]? = some x_4 → Int.toNat (i_1 - (1 : Int)) < List.length (stJ (ltR x.snd) x.fst i i_1) ∧ ∀ (x_5 : Raw), (stJ (ltR x.snd) x.fst i i_1)[Int.toNat (i_1 - (1 : Int))]? = some x_5 → ((0 : Int) ≤ i_1 ∧ i_1 < (↑(List.length (stJ (ltR x.snd) x.fst i i_1)) : Int)) ∧ Int.toNat i_1 < List.length (stJ (ltR x.snd) x.fst i i_1) ∧ ∀ (x_6 : Raw), (stJ (ltR x.snd) x.fst i i_1)[Int.toNat i_1]? = some x_6 → ∃ (x' : Raw), ((@List.nil AV) = [] ∧ (@List.nil AV) = []) ∧ x_5.fst = x'.fst ∧ x_5.snd = x'.snd ∧ ((0 : Int) ≤ i_1 - (1 : Int) ∧ i_1 - (1 : Int) < (↑(List.length (List.set (stJ (ltR x.snd) x.fst i i_1) (Int.toNat i_1) x')) : Int)) ∧ Int.toNat (i_1 - (1 : Int)) < List.length (List.set (stJ (ltR x.snd) x.fst i i_1) (Int.toNat i_1) x') ∧ ∀ (x_7 : Raw), (List.set (stJ (ltR x.snd) x.fst i i_1) (Int.toNat i_1) x')[Int.toNat (i_1 - (1 : Int))]? = some x_7 → ∃ (x'_1 : Raw), ((@List.nil AV) = [] ∧ (@List.nil AV) = []) ∧ x_4.fst = x'_1.fst ∧ x_4.snd = x'_1.snd ∧ true = true ∧ ∃ (i_2 : Unit), True ∧ (AV.sl true (0 : Nat) (2 : Nat) Raw rawA (List.set (List.set (stJ (ltR x.snd) x.fst i i_1) (Int.toNat i_1) x') (Int.toNat (i_1 - (1 : Int))) x'_1) = AV.sl true (0 : Nat) (2 : Nat) Raw rawA (stJ (ltR x.snd) x.fst i (i_1 - (1 : Int))) ∧ (0 : Int) = (0 : Int) ∧ (↑(List.length x.fst) : Int) = (↑(List.length x.fst) : Int) ∧ AV.pf [AV.sl false (0 : Nat) (4 : Nat) Nd (ndA false) x.snd] = AV.pf [AV.sl false (0 : Nat) (4 : Nat) Nd (ndA false) x.snd] ∧ i = i ∧ i_1 = i_1 ∧ True) ∧ True) ∧ Int.toNat i_1 < List.length (stJ (ltR x.snd) x.fst i i_1) ∧ ∀ (x_4 : Raw), (stJ (ltR x.snd) x.fst i i_1)[Int.toNat i_1]? = some x_4 → inR IntKind.i64 (i_1 - (1 : Int)) ∧ ((0 : Int) ≤ i_1 - (1 : Int) ∧ i_1 - (1 : Int) < (↑(List.length (stJ (ltR x.snd) x.fst i i_1)) : Int)) ∧ Int.toNat (i_1 - (1 : Int)) < List.length (stJ (ltR x.snd) x.fst i i_1) ∧ ∀ (x_5 : Raw), (stJ (ltR x.snd) x.fst i i_1)[Int.toNat (i_1 - (1 : Int))]? = some x_5 → ((0 : Int) ≤ i_1 ∧ i_1 < (↑(List.length (stJ (ltR x.snd) x.fst i i_1)) : Int)) ∧ Int.toNat i_1 < List.length (stJ (ltR x.snd) x.fst i i_1) ∧ ∀ (x_6 : Raw), (stJ (ltR x.snd) x.fst i i_1)[Int.toNat i_1]? = some x_6 → ∃ (x' : Raw), ((@List.nil AV) = [] ∧ (@List.nil AV) = []) ∧ x_5.fst = x'.fst ∧ x_5.snd = x'.snd ∧ ((0 : Int) ≤ i_1 - (1 : Int) ∧ i_1 - (1 : Int) < (↑(List.length (List.set (stJ (ltR x.snd) x.fst i i_1) (Int.toNat i_1) x')) : Int)) ∧ Int.toNat (i_1 - (1 : Int)) < List.length (List.set (stJ (ltR x.snd) x.fst i i_1) (Int.toNat i_1) x') ∧ ∀ (x_7 : Raw), (List.set (stJ (ltR x.snd) x.fst i i_1) (Int.toNat i_1) x')[Int.toNat (i_1 - (1 : Int))]? = some x_7 → ∃ (x'_1 : Raw), ((@List.nil AV) = [] ∧ (@List.nil AV) = []) ∧ x_4.fst = x'_1.fst ∧ x_4.snd = x'_1.snd ∧ true = true ∧ ∃ (i_2 : Unit), True ∧ (AV.sl true (0 : Nat) (2 : Nat) Raw rawA (List.set (List.set (stJ (ltR x.snd) x.fst i i_1) (Int.toNat i_1) x') (Int.toNat (i_1 - (1 : Int))) x'_1) = AV.sl true (0 : Nat) (2 : Nat) Raw rawA (stJ (ltR x.snd) x.fst i (i_1 - (1 : Int))) ∧ (0 : Int) = (0 : Int) ∧ (↑(List.length x.fst) : Int) = (↑(List.length x.fst) : Int) ∧ AV.pf [AV.sl false (0 : Nat) (4 : Nat) Nd (ndA false) x.snd] = AV.pf [AV.sl false (0 : Nat) (4 : Nat) Nd (ndA false) x.snd] ∧ i = i ∧ i_1 = i_1 ∧ True) ∧ True) ∧ (inR IntKind.i64 (i_1 - (1 : Int)) ∧ ((0 : Int) ≤ i_1 - (1 : Int) ∧ i_1 - (1 : Int) < (↑(List.length (stJ (ltR x.snd) x.fst i i_1)) : Int)) ∧ (inR IntKind.i64 (i_1 - (1 : Int)) ∧ (Int.toNat (i_1 - (1 : Int)) < List.length (stJ (ltR x.snd) x.fst i i_1) ∧ ∀ (x_4 : Raw), (stJ (ltR x.snd) x.fst i i_1)[Int.toNat (i_1 - (1 : Int))]? = some x_4 → Int.toNat i_1 < List.length (stJ (ltR x.snd) x.fst i i_1) ∧ ∀ (x_5 : Raw), (stJ (ltR x.snd) x.fst i i_1)[Int.toNat i_1]? = some x_5 → ((0 : Int) ≤ i_1 ∧ i_1 < (↑(List.length (stJ (ltR x.snd) x.fst i i_1)) : Int)) ∧ Int.toNat i_1 < List.length (stJ (ltR x.snd) x.fst i i_1) ∧ ∀ (x_6 : Raw), (stJ (ltR x.snd) x.fst i i_1)[Int.toNat i_1]? = some x_6 → ∃ (x' : Raw), ((@List.nil AV) = [] ∧ (@List.nil AV) = []) ∧ x_4.fst = x'.fst ∧ x_4.snd = x'.snd ∧ ((0 : Int) ≤ i_1 - (1 : Int) ∧ i_1 - (1 : Int) < (↑(List.length (List.set (stJ (ltR x.snd) x.fst i i_1) (Int.toNat i_1) x')) : Int)) ∧ Int.toNat (i_1 - (1 : Int)) < List.length (List.set (stJ (ltR x.snd) x.fst i i_1) (Int.toNat i_1) x') ∧ ∀ (x_7 : Raw), (List.set (stJ (ltR x.snd) x.fst i i_1) (Int.toNat i_1) x')[Int.toNat (i_1 - (1 : Int))]? = some x_7 → ∃ (x'_1 : Raw), ((@List.nil AV) = [] ∧ (@List.nil AV) = []) ∧ x_5.fst = x'_1.fst ∧ x_5.snd = x'_1.snd ∧ true = true ∧ ∃ (i_2 : Unit), True ∧ (AV.sl true (0 : Nat) (2 : Nat) Raw rawA (List.set (List.set (stJ (ltR x.snd) x.fst i i_1) (Int.toNat i_1) x') (Int.toNat (i_1 - (1 : Int))) x'_1) = AV.sl true (0 : Nat) (2 : Nat) Raw rawA (stJ (ltR x.snd) x.fst i (i_1 - (1 : Int))) ∧ (0 : Int) = (0 : Int) ∧ (↑(List.length x.fst) : Int) = (↑(List.length x.fst) : Int) ∧ AV.pf [AV.sl false (0 : Nat) (4 : Nat) Nd (ndA false) x.snd] = AV.pf [AV.sl false (0 : Nat) (4 : Nat) Nd (ndA false) x.snd] ∧ i = i ∧ i_1 = i_1 ∧ True) ∧ True) ∧ Int.toNat i_1 < List.length (stJ (ltR x.snd) x.fst i i_1) ∧ ∀ (x_4 : Raw), (stJ (ltR x.snd) x.fst i i_1)[Int.toNat i_1]? = some x_4 → Int.toNat (i_1 - (1 : Int)) < List.length (stJ (ltR x.snd) x.fst i i_1) ∧ ∀ (x_5 : Raw), (stJ (ltR x.snd) x.fst i i_1)[Int.toNat (i_1 - (1 : Int))]? = some x_5 → ((0 : Int) ≤ i_1 ∧ i_1 < (↑(List.length (stJ (ltR x.snd) x.fst i i_1)) : Int)) ∧ Int.toNat i_1 < List.length (stJ (ltR x.snd) x.fst i i_1) ∧ ∀ (x_6 : Raw), (stJ (ltR x.snd) x.fst i i_1)[Int.toNat i_1]? = some x_6 → ∃ (x' : Raw), ((@List.nil AV) = [] ∧ (@List.nil AV) = []) ∧ x_5.fst = x'.fst ∧ x_5.snd = x'.snd ∧ ((0 : Int) ≤ i_1 - (1 : Int) ∧ i_1 - (1 : Int) < (↑(List.length (List.set (stJ (ltR x.snd) x.fst i i_1) (Int.toNat i_1) x')) : Int)) ∧ Int.toNat (i_1 - (1 : Int)) < List.length (List.set (stJ (ltR x.snd) x.fst i i_1) (Int.toNat i_1) x') ∧ ∀ (x_7 : Raw), (List.set (stJ (ltR x.snd) x.fst i i_1) (Int.toNat i_1) x')[Int.toNat (i_1 - (1 : Int))]? = some x_7 → ∃ (x'_1 : Raw), ((@List.nil AV) = [] ∧ (@List.nil AV) = []) ∧ x_4.fst = x'_1.fst ∧ x_4.snd = x'_1.snd ∧ true = true ∧ ∃ (i_2 : Unit), True ∧ (AV.sl true (0 : Nat) (2 : Nat) Raw rawA (List.set (List.set (stJ (ltR x.snd) x.fst i i_1) (Int.toNat i_1) x') (Int.toNat (i_1 - (1 : Int))) x'_1) = AV.sl true (0 : Nat) (2 : Nat) Raw rawA (stJ (ltR x.snd) x.fst i (i_1 - (1 : Int))) ∧ (0 : Int) = (0 : Int) ∧ (↑(List.length x.fst) : Int) = (↑(List.length x.fst) : Int) ∧ AV.pf [AV.sl false (0 : Nat) (4 : Nat) Nd (ndA false) x.snd] = AV.pf [AV.sl false (0 : Nat) (4 : Nat) Nd (ndA false) x.snd] ∧ i = i ∧ i_1 = i_1 ∧ True) ∧ True) ∧ (Int.toNat (i_1 - (1 : Int)) < List.length (stJ (ltR x.snd) x.fst i i_1) ∧ ∀ (x_4 : Raw), (stJ (ltR x.snd) x.fst i i_1)[Int.toNat (i_1 - (1 : Int))]? = some x_4 → (inR IntKind.i64 (i_1 - (1 : Int)) ∧ Int.toNat i_1 < List.length (stJ (ltR x.snd) x.fst i i_1) ∧ ∀ (x_5 : Raw), (stJ (ltR x.snd) x.fst i i_1)[Int.toNat i_1]? = some x_5 → ((0 : Int) ≤ i_1 ∧ i_1 < (↑(List.length (stJ (ltR x.snd) x.fst i i_1)) : Int)) ∧ Int.toNat i_1 < List.length (stJ (ltR x.snd) x.fst i i_1) ∧ ∀ (x_6 : Raw), (stJ (ltR x.snd) x.fst i i_1)[Int.toNat i_1]? = some x_6 → ∃ (x' : Raw), ((@List.nil AV) = [] ∧ (@List.nil AV) = []) ∧ x_4.fst = x'.fst ∧ x_4.snd = x'.snd ∧ ((0 : Int) ≤ i_1 - (1 : Int) ∧ i_1 - (1 : Int) < (↑(List.length (List.set (stJ (ltR x.snd) x.fst i i_1) (Int.toNat i_1) x')) : Int)) ∧ Int.toNat (i_1 - (1 : Int)) < List.length (List.set (stJ (ltR x.snd) x.fst i i_1) (Int.toNat i_1) x') ∧ ∀ (x_7 : Raw), (List.set (stJ (ltR x.snd) x.fst i i_1) (Int.toNat i_1) x')[Int.toNat (i_1 - (1 : Int))]? = some x_7 → ∃ (x'_1 : Raw), ((@List.nil AV) = [] ∧ (@List.nil AV) = []) ∧ x_5.fst = x'_1.fst ∧ x_5.snd = x'_1.snd ∧ true = true ∧ ∃ (i_2 : Unit), True ∧ (AV.sl true (0 : Nat) (2 : Nat) Raw rawA (List.set (List.set (stJ (ltR x.snd) x.fst i i_1) (Int.toNat i_1) x') (Int.toNat (i_1 - (1 : Int))) x'_1) = AV.sl true (0 : Nat) (2 : Nat) Raw rawA (stJ (ltR x.snd) x.fst i (i_1 - (1 : Int))) ∧ (0 : Int) = (0 : Int) ∧ (↑(List.length x.fst) : Int) = (↑(List.length x.fst) : Int) ∧ AV.pf [AV.sl false (0 : Nat) (4 : Nat) Nd (ndA false) x.snd] = AV.pf [AV.sl false (0 : Nat) (4 : Nat) Nd (ndA false) x.snd] ∧ i = i ∧ i_1 = i_1 ∧ True) ∧ True) ∧ Int.toNat i_1 < List.length (stJ (ltR x.snd) x.fst i i_1) ∧ ∀ (x_5 : Raw), (stJ (ltR x.snd) x.fst i i_1)[Int.toNat i_1]? = some x_5 → ((0 : Int) ≤ i_1 ∧ i_1 < (↑(List.length (stJ (ltR x.snd) x.fst i i_1)) : Int)) ∧ (inR IntKind.i64 (i_1 - (1 : Int)) ∧ Int.toNat i_1 < List.length (stJ (ltR x.snd) x.fst i i_1) ∧ ∀ (x_6 : Raw), (stJ (ltR x.snd) x.fst i i_1)[Int.toNat i_1]? = some x_6 → ∃ (x' : Raw), ((@List.nil AV) = [] ∧ (@List.nil AV) = []) ∧ x_4.fst = x'.fst ∧ x_4.snd = x'.snd ∧ ((0 : Int) ≤ i_1 - (1 : Int) ∧ i_1 - (1 : Int) < (↑(List.length (List.set (stJ (ltR x.snd) x.fst i i_1) (Int.toNat i_1) x')) : Int)) ∧ Int.toNat (i_1 - (1 : Int)) < List.length (List.set (stJ (ltR x.snd) x.fst i i_1) (Int.toNat i_1) x') ∧ ∀ (x_7 : Raw), (List.set (stJ (ltR x.snd) x.fst i i_1) (Int.toNat i_1) x')[Int.toNat (i_1 - (1 : Int))]? = some x_7 → ∃ (x'_1 : Raw), ((@List.nil AV) = [] ∧ (@List.nil AV) = []) ∧ x_5.fst = x'_1.fst ∧ x_5.snd = x'_1.snd ∧ true = true ∧ ∃ (i_2 : Unit), True ∧ (AV.sl true (0 : Nat) (2 : Nat) Raw rawA (List.set (List.set (stJ (ltR x.snd) x.fst i i_1) (Int.toNat i_1) x') (Int.toNat (i_1 - (1 : Int))) x'_1) = AV.sl true (0 : Nat) (2 : Nat) Raw rawA (stJ (ltR x.snd) x.fst i (i_1 - (1 : Int))) ∧ (0 : Int) = (0 : Int) ∧ (↑(List.length x.fst) : Int) = (↑(List.length x.fst) : Int) ∧ AV.pf [AV.sl false (0 : Nat) (4 : Nat) Nd (ndA false) x.snd] = AV.pf [AV.sl false (0 : Nat) (4 : Nat) Nd (ndA false) x.snd] ∧ i = i ∧ i_1 = i_1 ∧ True) ∧ True) ∧ Int.toNat i_1 < List.length (stJ (ltR x.snd) x.fst i i_1) ∧ ∀ (x_6 : Raw), (stJ (ltR x.snd) x.fst i i_1)[Int.toNat i_1]? = some x_6 → ∃ (x' : Raw), ((@List.nil AV) = [] ∧ (@List.nil AV) = []) ∧ x_4.fst = x'.fst ∧ x_4.snd = x'.snd ∧ inR IntKind.i64 (i_1 - (1 : Int)) ∧ ((0 : Int) ≤ i_1 - (1 : Int) ∧ i_1 - (1 : Int) < (↑(List.length (List.set (stJ (ltR x.snd) x.fst i i_1) (Int.toNat i_1) x')) : Int)) ∧ Int.toNat (i_1 - (1 : Int)) < List.length (List.set (stJ (ltR x.snd) x.fst i i_1) (Int.toNat i_1) x') ∧ ∀ (x_7 : Raw), (List.set (stJ (ltR x.snd) x.fst i i_1) (Int.toNat i_1) x')[Int.toNat (i_1 - (1 : Int))]? = some x_7 → ∃ (x'_1 : Raw), ((@List.nil AV) = [] ∧ (@List.nil AV) = []) ∧ x_5.fst = x'_1.fst ∧ x_5.snd = x'_1.snd ∧ true = true ∧ ∃ (i_2 : Unit), True ∧ (AV.sl true (0 : Nat) (2 : Nat) Raw rawA (List.set (List.set (stJ (ltR x.snd) x.fst i i_1) (Int.toNat i_1) x') (Int.toNat (i_1 - (1 : Int))) x'_1) = AV.sl true (0 : Nat) (2 : Nat) Raw rawA (stJ (ltR x.snd) x.fst i (i_1 - (1 : Int))) ∧ (0 : Int) = (0 : Int) ∧ (↑(List.length x.fst) : Int) = (↑(List.length x.fst) : Int) ∧ AV.pf [AV.sl false (0 : Nat) (4 : Nat) Nd (ndA false) x.snd] = AV.pf [AV.sl false (0 : Nat) (4 : Nat) Nd (ndA false) x.snd] ∧ i = i ∧ i_1 = i_1 ∧ True) ∧ True) ∧ Int.toNat i_1 < List.length (stJ (ltR x.snd) x.fst i i_1) ∧ ∀ (x_4 : Raw), (stJ (ltR x.snd) x.fst i i_1)[Int.toNat i_1]? = some x_4 → (inR IntKind.i64 (i_1 - (1 : Int)) ∧ Int.toNat (i_1 - (1 : Int)) < List.length (stJ (ltR x.snd) x.fst i i_1) ∧ ∀ (x_5 : Raw), (stJ (ltR x.snd) x.fst i i_1)[Int.toNat (i_1 - (1 : Int))]? = some x_5 → ((0 : Int) ≤ i_1 ∧ i_1 < (↑(List.length (stJ (ltR x.snd) x.fst i i_1)) : Int)) ∧ Int.toNat i_1 < List.length (stJ (ltR x.snd) x.fst i i_1) ∧ ∀ (x_6 : Raw), (stJ (ltR x.snd) x.fst i i_1)[Int.toNat i_1]? = some x_6 → ∃ (x' : Raw), ((@List.nil AV) = [] ∧ (@List.nil AV) = []) ∧ x_5.fst = x'.fst ∧ x_5.snd = x'.snd ∧ ((0 : Int) ≤ i_1 - (1 : Int) ∧ i_1 - (1 : Int) < (↑(List.length (List.set (stJ (ltR x.snd) x.fst i i_1) (Int.toNat i_1) x')) : Int)) ∧ Int.toNat (i_1 - (1 : Int)) < List.length (List.set (stJ (ltR x.snd) x.fst i i_1) (Int.toNat i_1) x') ∧ ∀ (x_7 : Raw), (List.set (stJ (ltR x.snd) x.fst i i_1) (Int.toNat i_1) x')[Int.toNat (i_1 - (1 : Int))]? = some x_7 → ∃ (x'_1 : Raw), ((@List.nil AV) = [] ∧ (@List.nil AV) = []) ∧ x_4.fst = x'_1.fst ∧ x_4.snd = x'_1.snd ∧ true = true ∧ ∃ (i_2 : Unit), True ∧ (AV.sl true (0 : Nat) (2 : Nat) Raw rawA (List.set (List.set (stJ (ltR x.snd) x.fst i i_1) (Int.toNat i_1) x') (Int.toNat (i_1 - (1 : Int))) x'_1) = AV.sl true (0 : Nat) (2 : Nat) Raw rawA (stJ (ltR x.snd) x.fst i (i_1 - (1 : Int))) ∧ (0 : Int) = (0 : Int) ∧ (↑(List.length x.fst) : Int) = (↑(List.length x.fst) : Int) ∧ AV.pf [AV.sl false (0 : Nat) (4 : Nat) Nd (ndA false) x.snd] = AV.pf [AV.sl false (0 : Nat) (4 : Nat) Nd (ndA false) x.snd] ∧ i = i ∧ i_1 = i_1 ∧ True) ∧ True) ∧ Int.toNat (i_1 - (1 : Int)) < List.length (stJ (ltR x.snd) x.fst i i_1) ∧ ∀ (x_5 : Raw), (stJ (ltR x.snd) x.fst i i_1)[Int.toNat (i_1 - (1 : Int))]? = some x_5 → ((0 : Int) ≤ i_1 ∧ i_1 < (↑(List.length (stJ (ltR x.snd) x.fst i i_1)) : Int)) ∧ (inR IntKind.i64 (i_1 - (1 : Int)) ∧ Int.toNat i_1 < List.length (stJ (ltR x.snd) x.fst i i_1) ∧ ∀ (x_6 : Raw), (stJ (ltR x.snd) x.fst i i_1)[Int.toNat i_1]? = some x_6 → ∃ (x' : Raw), ((@List.nil AV) = [] ∧ (@List.nil AV) = []) ∧ x_5.fst = x'.fst ∧ x_5.snd = x'.snd ∧ ((0 : Int) ≤ i_1 - (1 : Int) ∧ i_1 - (1 : Int) < (↑(List.length (List.set (stJ (ltR x.snd) x.fst i i_1) (Int.toNat i_1) x')) : Int)) ∧ Int.toNat (i_1 - (1 : Int)) < List.length (List.set (stJ (ltR x.snd) x.fst i i_1) (Int.toNat i_1) x') ∧ ∀ (x_7 : Raw), (List.set (stJ (ltR x.snd) x.fst i i_1) (Int.toNat i_1) x')[Int.toNat (i_1 - (1 : Int))]? = some x_7 → ∃ (x'_1 : Raw), ((@List.nil AV) = [] ∧ (@List.nil AV) = []) ∧ x_4.fst = x'_1.fst ∧ x_4.snd = x'_1.snd ∧ true = true ∧ ∃ (i_2 : Unit), True ∧ (AV.sl true (0 : Nat) (2 : Nat) Raw rawA (List.set (List.set (stJ (ltR x.snd) x.fst i i_1) (Int.toNat i_1) x') (Int.toNat (i_1 - (1 : Int))) x'_1) = AV.sl true (0 : Nat) (2 : Nat) Raw rawA (stJ (ltR x.snd) x.fst i (i_1 - (1 : Int))) ∧ (0 : Int) = (0 : Int) ∧ (↑(List.length x.fst) : Int) = (↑(List.length x.fst) : Int) ∧ AV.pf [AV.sl false (0 : Nat) (4 : Nat) Nd (ndA false) x.snd] = AV.pf [AV.sl false (0 : Nat) (4 : Nat) Nd (ndA false) x.snd] ∧ i = i ∧ i_1 = i_1 ∧ True) ∧ True) ∧ Int.toNat i_1 < List.length (stJ (ltR x.snd) x.fst i i_1) ∧ ∀ (x_6 : Raw), (stJ (ltR x.snd) x.fst i i_1)[Int.toNat i_1]? = some x_6 → ∃ (x' : Raw), ((@List.nil AV) = [] ∧ (@List.nil AV) = []) ∧ x_5.fst = x'.fst ∧ x_5.snd = x'.snd ∧ inR IntKind.i64 (i_1 - (1 : Int)) ∧ ((0 : Int) ≤ i_1 - (1 : Int) ∧ i_1 - (1 : Int) < (↑(List.length (List.set (stJ (ltR x.snd) x.fst i i_1) (Int.toNat i_1) x')) : Int)) ∧ Int.toNat (i_1 - (1 : Int)) < List.length (List.set (stJ (ltR x.snd) x.fst i i_1) (Int.toNat i_1) x') ∧ ∀ (x_7 : Raw), (List.set (stJ (ltR x.snd) x.fst i i_1) (Int.toNat i_1) x')[Int.toNat (i_1 - (1 : Int))]? = some x_7 → ∃ (x'_1 : Raw), ((@List.nil AV) = [] ∧ (@List.nil AV) = []) ∧ x_4.fst = x'_1.fst ∧ x_4.snd = x'_1.snd ∧ true = true ∧ ∃ (i_2 : Unit), True ∧ (AV.sl true (0 : Nat) (2 : Nat) Raw rawA (List.set (List.set (stJ (ltR x.snd) x.fst i i_1) (Int.toNat i_1) x') (Int.toNat (i_1 - (1 : Int))) x'_1) = AV.sl true (0 : Nat) (2 : Nat) Raw rawA (stJ (ltR x.snd) x.fst i (i_1 - (1 : Int))) ∧ (0 : Int) = (0 : Int) ∧ (↑(List.length x.fst) : Int) = (↑(List.length x.fst) : Int) ∧ AV.pf [AV.sl false (0 : Nat) (4 : Nat) Nd (ndA false) x.snd] = AV.pf [AV.sl false (0 : Nat) (4 : Nat) Nd (ndA false) x.snd] ∧ i = i ∧ i_1 = i_1 ∧ True) ∧ True) ∧ Int.toNat i_1 < List.length (stJ (ltR x.snd) x.fst i i_1) ∧ ∀ (x_4 : Raw), (stJ (ltR x.snd) x.fst i i_1)[Int.toNat i_1]? = some x_4 → (inR IntKind.i64 (i_1 - (1 : Int)) ∧ inR IntKind.i64 (i_1 - (1 : Int)) ∧ ((0 : Int) ≤ i_1 - (1 : Int) ∧ i_1 - (1 : Int) < (↑(List.length (stJ (ltR x.snd) x.fst i i_1)) : Int)) ∧ Int.toNat (i_1 - (1 : Int)) < List.length (stJ (ltR x.snd) x.fst i i_1) ∧ ∀ (x_5 : Raw), (stJ (ltR x.snd) x.fst i i_1)[Int.toNat (i_1 - (1 : Int))]? = some x_5 → ((0 : Int) ≤ i_1 ∧ i_1 < (↑(List.length (stJ (ltR x.snd) x.fst i i_1)) : Int)) ∧ Int.toNat i_1 < List.length (stJ (ltR x.snd) x.fst i i_1) ∧ ∀ (x_6 : Raw), (stJ (ltR x.snd) x.fst i i_1)[Int.toNat i_1]? = some x_6 → ∃ (x' : Raw), ((@List.nil AV) = [] ∧ (@List.nil AV) = []) ∧ x_5.fst = x'.fst ∧ x_5.snd = x'.snd ∧ ((0 : Int) ≤ i_1 - (1 : Int) ∧ i_1 - (1 : Int) < (↑(List.length (List.set (stJ (ltR x.snd) x.fst i i_1) (Int.toNat i_1) x')) : Int)) ∧ Int.toNat (i_1 - (1 : Int)) < List.length (List.set (stJ (ltR x.snd) x.fst i i_1) (Int.toNat i_1) x') ∧ ∀ (x_7 : Raw), (List.set (stJ (ltR x.snd) x.fst i i_1) (Int.toNat i_1) x')[Int.toNat (i_1 - (1 : Int))]? = some x_7 → ∃ (x'_1 : Raw), ((@List.nil AV) = [] ∧ (@List.nil AV) = []) ∧ x_4.fst = x'_1.fst ∧ x_4.snd = x'_1.snd ∧ true = true ∧ ∃ (i_2 : Unit), True ∧ (AV.sl true (0 : Nat) (2 : Nat) Raw rawA (List.set (List.set (stJ (ltR x.snd) x.fst i i_1) (Int.toNat i_1) x') (Int.toNat (i_1 - (1 : Int))) x'_1) = AV.sl true (0 : Nat) (2 : Nat) Raw rawA (stJ (ltR x.snd) x.fst i (i_1 - (1 : Int))) ∧ (0 : Int) = (0 : Int) ∧ (↑(List.length x.fst) : Int) = (↑(List.length x.fst) : Int) ∧ AV.pf [AV.sl false (0 : Nat) (4 : Nat) Nd (ndA false) x.snd] = AV.pf [AV.sl false (0 : Nat) (4 : Nat) Nd (ndA false) x.snd] ∧ i = i ∧ i_1 = i_1 ∧ True) ∧ True) ∧ inR IntKind.i64 (i_1 - (1 : Int)) ∧ ((0 : Int) ≤ i_1 - (1 : Int) ∧ i_1 - (1 : Int) < (↑(List.length (stJ (ltR x.snd) x.fst i i_1)) : Int)) ∧ (inR IntKind.i64 (i_1 - (1 : Int)) ∧ Int.toNat (i_1 - (1 : Int)) < List.length (stJ (ltR x.snd) x.fst i i_1) ∧ ∀ (x_5 : Raw), (stJ (ltR x.snd) x.fst i i_1)[Int.toNat (i_1 - (1 : Int))]? = some x_5 → ((0 : Int) ≤ i_1 ∧ i_1 < (↑(List.length (stJ (ltR x.snd) x.fst i i_1)) : Int)) ∧ Int.toNat i_1 < List.length (stJ (ltR x.snd) x.fst i i_1) ∧ ∀ (x_6 : Raw), (stJ (ltR x.snd) x.fst i i_1)[Int.toNat i_1]? = some x_6 → ∃ (x' : Raw), ((@List.nil AV) = [] ∧ (@List.nil AV) = []) ∧ x_5.fst = x'.fst ∧ x_5.snd = x'.snd ∧ ((0 : Int) ≤ i_1 - (1 : Int) ∧ i_1 - (1 : Int) < (↑(List.length (List.set (stJ (ltR x.snd) x.fst i i_1) (Int.toNat i_1) x')) : Int)) ∧ Int.toNat (i_1 - (1 : Int)) < List.length (List.set (stJ (ltR x.snd) x.fst i i_1) (Int.toNat i_1) x') ∧ ∀ (x_7 : Raw), (List.set (stJ (ltR x.snd) x.fst i i_1) (Int.toNat i_1) x')[Int.toNat (i_1 - (1 : Int))]? = some x_7 → ∃ (x'_1 : Raw), ((@List.nil AV) = [] ∧ (@List.nil AV) = []) ∧ x_4.fst = x'_1.fst ∧ x_4.snd = x'_1.snd ∧ true = true ∧ ∃ (i_2 : Unit), True ∧ (AV.sl true (0 : Nat) (2 : Nat) Raw rawA (List.set (List.set (stJ (ltR x.snd) x.fst i i_1) (Int.toNat i_1) x') (Int.toNat (i_1 - (1 : Int))) x'_1) = AV.sl true (0 : Nat) (2 : Nat) Raw rawA (stJ (ltR x.snd) x.fst i (i_1 - (1 : Int))) ∧ (0 : Int) = (0 : Int) ∧ (↑(List.length x.fst) : Int) = (↑(List.length x.fst) : Int) ∧ AV.pf [AV.sl false (0 : Nat) (4 : Nat) Nd (ndA false) x.snd] = AV.pf [AV.sl false (0 : Nat) (4 : Nat) Nd (ndA false) x.snd] ∧ i = i ∧ i_1 = i_1 ∧ True) ∧ True) ∧ Int.toNat (i_1 - (1 : Int)) < List.length (stJ (ltR x.snd) x.fst i i_1) ∧ ∀ (x_5 : Raw), (stJ (ltR x.snd) x.fst i i_1)[Int.toNat (i_1 - (1 : Int))]? = some x_5 → ((0 : Int) ≤ i_1 ∧ i_1 < (↑(List.length (stJ (ltR x.snd) x.fst i i_1)) : Int)) ∧ (inR IntKind.i64 (i_1 - (1 : Int)) ∧ Int.toNat i_1 < List.length (stJ (ltR x.snd) x.fst i i_1) ∧ ∀ (x_6 : Raw), (stJ (ltR x.snd) x.fst i i_1)[Int.toNat i_1]? = some x_6 → ∃ (x' : Raw), ((@List.nil AV) = [] ∧ (@List.nil AV) = []) ∧ x_5.fst = x'.fst ∧ x_5.snd = x'.snd ∧ ((0 : Int) ≤ i_1 - (1 : Int) ∧ i_1 - (1 : Int) < (↑(List.length (List.set (stJ (ltR x.snd) x.fst i i_1) (Int.toNat i_1) x')) : Int)) ∧ Int.toNat (i_1 - (1 : Int)) < List.length (List.set (stJ (ltR x.snd) x.fst i i_1) (Int.toNat i_1) x') ∧ ∀ (x_7 : Raw), (List.set (stJ (ltR x.snd) x.fst i i_1) (Int.toNat i_1) x')[Int.toNat (i_1 - (1 : Int))]? = some x_7 → ∃ (x'_1 : Raw), ((@List.nil AV) = [] ∧ (@List.nil AV) = []) ∧ x_4.fst = x'_1.fst ∧ x_4.snd = x'_1.snd ∧ true = true ∧ ∃ (i_2 : Unit), True ∧ (AV.sl true (0 : Nat) (2 : Nat) Raw rawA (List.set (List.set (stJ (ltR x.snd) x.fst i i_1) (Int.toNat i_1) x') (Int.toNat (i_1 - (1 : Int))) x'_1) = AV.sl true (0 : Nat) (2 : Nat) Raw rawA (stJ (ltR x.snd) x.fst i (i_1 - (1 : Int))) ∧ (0 : Int) = (0 : Int) ∧ (↑(List.length x.fst) : Int) = (↑(List.length x.fst) : Int) ∧ AV.pf [AV.sl false (0 : Nat) (4 : Nat) Nd (ndA false) x.snd] = AV.pf [AV.sl false (0 : Nat) (4 : Nat) Nd (ndA false) x.snd] ∧ i = i ∧ i_1 = i_1 ∧ True) ∧ True) ∧ Int.toNat i_1 < List.length (stJ (ltR x.snd) x.fst i i_1) ∧ ∀ (x_6 : Raw), (stJ (ltR x.snd) x.fst i i_1)[Int.toNat i_1]? = some x_6 → ∃ (x' : Raw), ((@List.nil AV) = [] ∧ (@List.nil AV) = []) ∧ x_5.fst = x'.fst ∧ x_5.snd = x'.snd ∧ inR IntKind.i64 (i_1 - (1 : Int)) ∧ ((0 : Int) ≤ i_1 - (1 : Int) ∧ i_1 - (1 : Int) < (↑(List.length (List.set (stJ (ltR x.snd) x.fst i i_1) (Int.toNat i_1) x')) : Int)) ∧ Int.toNat (i_1 - (1 : Int)) < List.length (List.set (stJ (ltR x.snd) x.fst i i_1) (Int.toNat i_1) x') ∧ ∀ (x_7 : Raw), (List.set (stJ (ltR x.snd) x.fst i i_1) (Int.toNat i_1) x')[Int.toNat (i_1 - (1 : Int))]? = some x_7 → ∃ (x'_1 : Raw), ((@List.nil AV) = [] ∧ (@List.nil AV) = []) ∧ x_4.fst = x'_1.fst ∧ x_4.snd = x'_1.snd ∧ true = true ∧ ∃ (i_2 : Unit), True ∧ (AV.sl true (0 : Nat) (2 : Nat) Raw rawA (List.set (List.set (stJ (ltR x.snd) x.fst i i_1) (Int.toNat i_1) x') (Int.toNat (i_1 - (1 : Int))) x'_1) = AV.sl true (0 : Nat) (2 : Nat) Raw rawA (stJ (ltR x.snd) x.fst i (i_1 - (1 : Int))) ∧ (0 : Int) = (0 : Int) ∧ (↑(List.length x.fst) : Int) = (↑(List.length x.fst) : Int) ∧ AV.pf [AV.sl false (0 : Nat) (4 : Nat) Nd (ndA false) x.snd] = AV.pf [AV.sl false (0 : Nat) (4 : Nat) Nd (ndA false) x.snd] ∧ i = i ∧ i_1 = i_1 ∧ True) ∧ True) ∧ ∀ (i_2 : Unit), True → inR IntKind.i64 (i_1 - (1 : Int)) ∧ ∃ (i' : Int), soJ (ltR x.snd) x.fst i i' ∧ Int.toNat i' < Int.toNat i_1 ∧ (AV.sl true (0 : Nat) (2 : Nat) Raw rawA (stJ (ltR x.snd) x.fst i (i_1 - (1 : Int))) = AV.sl true (0 : Nat) (2 : Nat) Raw rawA (stJ (ltR x.snd) x.fst i i') ∧ (0 : Int) = (0 : Int) ∧ (↑(List.length x.fst) : Int) = (↑(List.length x.fst) : Int) ∧ AV.pf [AV.sl false (0 : Nat) (4 : Nat) Nd (ndA false) x.snd] = AV.pf [AV.sl false (0 : Nat) (4 : Nat) Nd (ndA false) x.snd] ∧ i = i ∧ i_1 - (1 : Int) = i' ∧ True) ∧ True) (inR IntKind.i64 (i + (1 : Int)) ∧ ∃ (i' : Int), soI x.fst i' ∧ List.length x.fst + (1 : Nat) - Int.toNat i' < List.length x.fst + (1 : Nat) - Int.toNat i ∧ (AV.sl true (0 : Nat) (2 : Nat) Raw rawA (stJ (ltR x.snd) x.fst i i_1) = AV.sl true (0 : Nat) (2 : Nat) Raw rawA (stI (ltR x.snd) x.fst i') ∧ (0 : Int) = (0 : Int) ∧ (↑(List.length x.fst) : Int) = (↑(List.length x.fst) : Int) ∧ AV.pf [AV.sl false (0 : Nat) (4 : Nat) Nd (ndA false) x.snd] = AV.pf [AV.sl false (0 : Nat) (4 : Nat) Nd (ndA false) x.snd] ∧ i + (1 : Int) = i' ∧ True) ∧ True)) (inR IntKind.i64 (i + (1 : Int)) ∧ ∃ (i' : Int), soI x.fst i' ∧ List.length x.fst + (1 : Nat) - Int.toNat i' < List.length x.fst + (1 : Nat) - Int.toNat i ∧ (AV.sl true (0 : Nat) (2 : Nat) Raw rawA (stJ (ltR x.snd) x.fst i i_1) = AV.sl true (0 : Nat) (2 : Nat) Raw rawA (stI (ltR x.snd) x.fst i') ∧ (0 : Int) = (0 : Int) ∧ (↑(List.length x.fst) : Int) = (↑(List.length x.fst) : Int) ∧ AV.pf [AV.sl false (0 : Nat) (4 : Nat) Nd (ndA false) x.snd] = AV.pf [AV.sl false (0 : Nat) (4 : Nat) Nd (ndA false) x.snd] ∧ i + (1 : Int) = i' ∧ True) ∧ True)) (∃ (y : Unit), True ∧ AV.sl true (0 : Nat) (2 : Nat) Raw rawA (stI (ltR x.snd) x.fst i) = AV.sl true (0 : Nat) (2 : Nat) Raw rawA (isort (ltR x.snd) x.fst) ∧ True)) := by kernel_rfl
set_option maxHeartbeats 8000000 in
theorem insSort_ok  : Contract G Tryz.prog 157 s_insSort :=
  vcFun_ok (Γ := Γof [(65, 0, s_cmpG)]) (E := Eof []) (ov := false) (L := fun x => Lof ([(1,lSoI x)])) Tryz.func157 rfl (by decide) (Γof_ok (l := [(65, 0, s_cmpG)]) ⟨cmpG_ok, trivial⟩) fun (x : List Raw × List Nd) (hx : x.1.length ≤ 12 ∧ txtB x.2) => (insSort_vc  x).mpr (by
  obtain ⟨h1, h2⟩ := hx
  (repeat' first | with_reducible rfl | exact True.intro | refine inR_i64 ?_ ?_ | with_reducible refine And.intro ?_ ?_ | with_reducible refine bcase_dec (fun _ => ?_) (fun _ => ?_) | with_reducible refine bcase_bne (fun _ => ?_) (fun _ => ?_) | with_reducible refine bcase_beq (fun _ => ?_) (fun _ => ?_) | with_reducible refine bcase_not (fun _ => ?_) (fun _ => ?_) | refine bcase_intro (fun _ => ?_) (fun _ => ?_) | refine sl_eq ?_ | refine ex_flip () ?_ ?_ | (apply ex_flip6 <;> try dsimp only) | (apply ex_flip5 <;> try dsimp only) | (apply ex_flip4 <;> try dsimp only) | (apply ex_flip3 <;> try dsimp only) | (apply ex_flip2 <;> try dsimp only) | apply ex_flip | (refine Prod.forall.2 ?_; intro _; try dsimp only) | (intro _; try dsimp only))
  all_goals first
    | rfl
    | exact h2
    | exact st_first
    | exact stJ_first (by assumption) (by assumption)
    | exact soJ_first (by assumption) (by assumption)
    | exact soI_next (by assumption)
    | exact stI_done (by assumption) (by assumption)
    | exact stJ_done1 (by assumption) (by assumption)
    | exact stJ_done2 (by assumption) (by assumption) (by assumption) (by assumption) (by assumption)
    | exact stJ_swap (by assumption) (by assumption) (by assumption) (by assumption)
    | exact soJ_next' (by assumption) (by assumption) (by assumption) (by assumption) (by assumption)
    | exact ⟨by omega, by omega⟩
    | (have hJ := (show soJ _ _ _ _ by assumption); have hl := stJ_len hJ; have := hJ.1; have := hJ.2.1; (try rw [List.length_set]); (try simp only [i64max]); omega)
    | (have hI := (show soI _ _ by assumption); have := hI.1; have := hI.2; (try rw [stI_len]); (try simp only [i64max]); omega)
    | ((try simp only [i64max]); omega)
    | skip)

end Go.My
end
section
/- Groups in order: the library's entry, the program's and the reference's functions. -/
set_option linter.unusedVariables false
set_option linter.unusedSimpArgs false
namespace Go.My
open Go.Eng Go.Proofs
variable {G : GInv}

def s_stable  : Sig := { X := List Raw × List Nd, args := fun x => [raws x.1, .int .i64 x.1.length, clG x.2], pre := fun x => x.1.length ≤ 12 ∧ txtB x.2, Y := Unit, post := fun x y => True, res := fun x y => .tup [], outs := fun x y => [raws (isort (ltR x.2) x.1), .top, .top], keep := false, fixed := [0] }
theorem stable_vc (x : List Raw × List Nd) : vcFun Go.Proofs.Tryz.prog (Γof [(157, 65 + 1, s_insSort)]) (Eof []) false (Lof ([(2,{ ι := Unit, inv := fun _ => True, regs := fun _ => [(0, raws x.1), (1, .int .i64 x.1.length), (2, clG x.2), (6, .int .i64 20), (7, .int .i64 0), (8, .int .i64 20)], als := [], meas := fun _ => 0 }), (7,{ ι := Unit, inv := fun _ => True, regs := fun _ => [(0, raws (isort (ltR x.2) x.1)), (1, .int .i64 x.1.length), (2, clG x.2), (6, .int .i64 20)], als := [], meas := fun _ => 0 })])) Go.Proofs.Tryz.f116.ntmps Go.Proofs.Tryz.f116.results.toList (Go.Proofs.Tryz.f116.body.getD .skip) s_stable x = ((∀ (y : Unit), True → True ∧ (∀ (x : Raw), True ∧ True ∧ True) ∧ True ∧ True ∧ True) ∧ (∃ (i : Unit), True ∧ (AV.sl true (0 : Nat) (2 : Nat) Raw rawA x.fst = AV.sl true (0 : Nat) (2 : Nat) Raw rawA x.fst ∧ (↑(List.length x.fst) : Int) = (↑(List.length x.fst) : Int) ∧ AV.pf [AV.sl false (0 : Nat) (4 : Nat) Nd (ndA false) x.snd] = AV.pf [AV.sl false (0 : Nat) (4 : Nat) Nd (ndA false) x.snd] ∧ (20 : Int) = (20 : Int) ∧ (0 : Int) = (0 : Int) ∧ (20 : Int) = (20 : Int) ∧ True) ∧ True) ∧ ∀ (i : Unit), True → bcase (decide ((20 : Int) ≤ (↑(List.length x.fst) : Int))) (∃ (x_1 : List Raw × List Nd), (List.length x_1.fst ≤ (12 : Nat) ∧ txtB x_1.snd) ∧ AV.sl true (0 : Nat) (2 : Nat) Raw rawA x.fst = AV.sl true (0 : Nat) (2 : Nat) Raw rawA x_1.fst ∧ (0 : Int) = (0 : Int) ∧ (20 : Int) = (↑(List.length x_1.fst) : Int) ∧ AV.pf [AV.sl false (0 : Nat) (4 : Nat) Nd (ndA false) x.snd] = AV.pf [AV.sl false (0 : Nat) (4 : Nat) Nd (ndA false) x_1.snd] ∧ ∀ (y : Unit), True → inR IntKind.i64 ((20 : Int) + (20 : Int)) ∧ ∃ (i' : Unit), True ∧ (0 : Nat) < (0 : Nat) ∧ (AV.sl true (0 : Nat) (2 : Nat) Raw rawA (isort (ltR x_1.snd) x_1.fst) = AV.sl true (0 : Nat) (2 : Nat) Raw rawA x.fst ∧ (↑(List.length x.fst) : Int) = (↑(List.length x.fst) : Int) ∧ AV.pf [AV.sl false (0 : Nat) (4 : Nat) Nd (ndA false) x.snd] = AV.pf [AV.sl false (0 : Nat) (4 : Nat) Nd (ndA false) x.snd] ∧ (20 : Int) = (20 : Int) ∧ (20 : Int) = (0 : Int) ∧ (20 : Int) + (20 : Int) = (20 : Int) ∧ True) ∧ True) (∃ (x_1 : List Raw × List Nd), (List.length x_1.fst ≤ (12 : Nat) ∧ txtB x_1.snd) ∧ AV.sl true (0 : Nat) (2 : Nat) Raw rawA x.fst = AV.sl true (0 : Nat) (2 : Nat) Raw rawA x_1.fst ∧ (0 : Int) = (0 : Int) ∧ (↑(List.length x.fst) : Int) = (↑(List.length x_1.fst) : Int) ∧ AV.pf [AV.sl false (0 : Nat) (4 : Nat) Nd (ndA false) x.snd] = AV.pf [AV.sl false (0 : Nat) (4 : Nat) Nd (ndA false) x_1.snd] ∧ ∀ (y : Unit), True → (∃ (i : Unit), True ∧ (AV.sl true (0 : Nat) (2 : Nat) Raw rawA (isort (ltR x_1.snd) x_1.fst) = AV.sl true (0 : Nat) (2 : Nat) Raw rawA (isort (ltR x.snd) x.fst) ∧ (↑(List.length x.fst) : Int) = (↑(List.length x.fst) : Int) ∧ AV.pf [AV.sl false (0 : Nat) (4 : Nat) Nd (ndA false) x.snd] = AV.pf [AV.sl false (0 : Nat) (4 : Nat) Nd (ndA false) x.snd] ∧ (20 : Int) = (20 : Int) ∧ True) ∧ True) ∧ ∀ (i : Unit), True → bcase (decide ((20 : Int) < (↑(List.length x.fst) : Int))) (inR IntKind.i64 ((2 : Int) * (20 : Int)) ∧ False) (∃ (y : Unit), True ∧ AV.sl true (0 : Nat) (2 : Nat) Raw rawA (isort (ltR x.snd) x.fst) = AV.sl true (0 : Nat) (2 : Nat) Raw rawA (isort (ltR x.snd) x.fst) ∧ True))) := by kernel_rfl
theorem stable_ok  : Contract G Tryz.prog 116 s_stable :=
  vcFun_ok (Γ := Γof [(157, 65 + 1, s_insSort)]) (E := Eof []) (ov := false) (L := fun x => Lof ([(2,{ ι := Unit, inv := fun _ => True, regs := fun _ => [(0, raws x.1), (1, .int .i64 x.1.length), (2, clG x.2), (6, .int .i64 20), (7, .int .i64 0), (8, .int .i64 20)], als := [], meas := fun _ => 0 }), (7,{ ι := Unit, inv := fun _ => True, regs := fun _ => [(0, raws (isort (ltR x.2) x.1)), (1, .int .i64 x.1.length), (2, clG x.2), (6, .int .i64 20)], als := [], meas := fun _ => 0 })])) Tryz.func116 rfl (by decide) (Γof_ok (l := [(157, 65 + 1, s_insSort)]) ⟨insSort_ok, trivial⟩) fun (x : List Raw × List Nd) (hx : x.1.length ≤ 12 ∧ txtB x.2) => (stable_vc  x).mpr (by
  obtain ⟨h1, h2⟩ := hx
  (repeat' first | with_reducible rfl | exact True.intro | refine inR_i64 ?_ ?_ | with_reducible refine And.intro ?_ ?_ | with_reducible refine bcase_dec (fun _ => ?_) (fun _ => ?_) | with_reducible refine bcase_bne (fun _ => ?_) (fun _ => ?_) | with_reducible refine bcase_beq (fun _ => ?_) (fun _ => ?_) | with_reducible refine bcase_not (fun _ => ?_) (fun _ => ?_) | refine bcase_intro (fun _ => ?_) (fun _ => ?_) | refine sl_eq ?_ | refine ex_flip () ?_ ?_ | (apply ex_flip6 <;> try dsimp only) | (apply ex_flip5 <;> try dsimp only) | (apply ex_flip4 <;> try dsimp only) | (apply ex_flip3 <;> try dsimp only) | (apply ex_flip2 <;> try dsimp only) | apply ex_flip | (refine Prod.forall.2 ?_; intro _; try dsimp only) | (intro _; try dsimp only))
  all_goals first
    | rfl
    | exact h2
    | omega
    | (exfalso; omega)
    | skip)

def s_sortSt  : Sig := { X := List Raw × List Nd, args := fun x => [raws x.1, clG x.2], pre := fun x => x.1.length ≤ 12 ∧ txtB x.2, Y := Unit, post := fun x y => True, res := fun x y => .tup [], outs := fun x y => [raws (isort (ltR x.2) x.1), .top], keep := false, fixed := [0] }
theorem sortSt_vc (x : List Raw × List Nd) : vcFun Go.Proofs.Tryz.prog (Γof [(116, 65 + 1, s_stable)]) (Eof []) false (Lof ([])) Go.Proofs.Tryz.f64.ntmps Go.Proofs.Tryz.f64.results.toList (Go.Proofs.Tryz.f64.body.getD .skip) s_sortSt x = ((∀ (y : Unit), True → True ∧ (∀ (x : Raw), True ∧ True ∧ True) ∧ True ∧ True) ∧ ∃ (x_1 : List Raw × List Nd), (List.length x_1.fst ≤ (12 : Nat) ∧ txtB x_1.snd) ∧ AV.sl true (0 : Nat) (2 : Nat) Raw rawA x.fst = AV.sl true (0 : Nat) (2 : Nat) Raw rawA x_1.fst ∧ (↑(List.length x.fst) : Int) = (↑(List.length x_1.fst) : Int) ∧ AV.pf [AV.sl false (0 : Nat) (4 : Nat) Nd (ndA false) x.snd] = AV.pf [AV.sl false (0 : Nat) (4 : Nat) Nd (ndA false) x_1.snd] ∧ ∀ (y : Unit), True → ∃ (y : Unit), True ∧ AV.sl true (0 : Nat) (2 : Nat) Raw rawA (isort (ltR x_1.snd) x_1.fst) = AV.sl true (0 : Nat) (2 : Nat) Raw rawA (isort (ltR x.snd) x.fst) ∧ True) := by kernel_rfl
theorem sortSt_ok  : Contract G Tryz.prog 64 s_sortSt :=
  vcFun_ok (Γ := Γof [(116, 65 + 1, s_stable)]) (E := Eof []) (ov := false) (L := fun x => Lof ([])) Tryz.func64 rfl (by decide) (Γof_ok (l := [(116, 65 + 1, s_stable)]) ⟨stable_ok, trivial⟩) fun (x : List Raw × List Nd) (hx : x.1.length ≤ 12 ∧ txtB x.2) => (sortSt_vc  x).mpr (by
  obtain ⟨h1, h2⟩ := hx
  (repeat' first | with_reducible rfl | exact True.intro | refine inR_i64 ?_ ?_ | with_reducible refine And.intro ?_ ?_ | with_reducible refine bcase_dec (fun _ => ?_) (fun _ => ?_) | with_reducible refine bcase_bne (fun _ => ?_) (fun _ => ?_) | with_reducible refine bcase_beq (fun _ => ?_) (fun _ => ?_) | with_reducible refine bcase_not (fun _ => ?_) (fun _ => ?_) | refine bcase_intro (fun _ => ?_) (fun _ => ?_) | refine sl_eq ?_ | refine ex_flip () ?_ ?_ | (apply ex_flip6 <;> try dsimp only) | (apply ex_flip5 <;> try dsimp only) | (apply ex_flip4 <;> try dsimp only) | (apply ex_flip3 <;> try dsimp only) | (apply ex_flip2 <;> try dsimp only) | apply ex_flip | (refine Prod.forall.2 ?_; intro _; try dsimp only) | (intro _; try dsimp only))
  all_goals first
    | rfl
    | exact h1
    | exact h2
    | skip)

/- the same, seen on groups -/
def s_srtN : Sig := { X := List Gr × List Nd, args := fun x => [ogrs x.1, clG x.2], pre := fun x => x.1.length ≤ 12 ∧ txtB x.2, Y := Unit, post := fun x y => True, res := fun x y => .tup [], outs := fun x y => [ogrs (isort (ltG x.2) x.1), .top], keep := false, fixed := [0] }
--proofs
theorem srtN_ok : Contract G Go.Proofs.Tryz.prog 64 s_srtN := by
  refine ⟨⟨sortSt_ok (G := G) |>.1.1, fun x y _ _ => ?_⟩, ?_⟩
  · show cleanL _
    simp only [s_srtN, ogrs, cleanL, cleanAV, grA]
    exact ⟨trivial, ⟨fun g => ⟨fun x => ⟨trivial, trivial⟩, trivial, trivial⟩, trivial, trivial⟩⟩
  · rintro ⟨l, ns⟩ ⟨h1, h2⟩ Z w vals A hG hargs hA
    simp only [s_srtN] at hargs
    simp only [rel0L] at hargs
    obtain ⟨v, cs, A1, A2, rfl, hj, hv, v2, cs2, A3, A4, rfl, hj2, hcl, rfl, hA4⟩ := hargs
    obtain ⟨zs, hzs, hmem, B1, B2, hjB, hraw, hnest⟩ := ogrs_raw hv
    have hA1A : ∀ b, A1 b → A b := fun b hb => (hj.1 b).2 (.inl hb)
    have hA2A : ∀ b, A2 b → A b := fun b hb => (hj.1 b).2 (.inr hb)
    have hB1A : ∀ b, B1 b → A b := fun b hb => hA1A b ((hjB.1 b).2 (.inl hb))
    have hB2A : ∀ b, B2 b → A b := fun b hb => hA1A b ((hjB.1 b).2 (.inr hb))
    have hd12 : ∀ b, B1 b → ¬ A2 b := fun b hb h => hj.2 b ((hjB.1 b).2 (.inl hb)) h
    have hd22 : ∀ b, B2 b → ¬ A2 b := fun b hb h => hj.2 b ((hjB.1 b).2 (.inr hb)) h
    have hargs2 : rel0L Z w ((s_sortSt).args (zs.map (·.1), ns)) [v, v2] (fun b => B1 b ∨ A2 b) := by
      simp only [s_sortSt, rel0L]
      exact ⟨v, [v2], B1, A2, rfl, ⟨fun _ => Iff.rfl, fun b x y => hd12 b x y⟩, hraw, v2, [], A3, A4, rfl, hj2, hcl, rfl, hA4⟩
    have hlen : (zs.map (·.1)).length ≤ 12 := by
      have h1 : l.length ≤ 12 := h1
      have := congrArg List.length hzs; simp only [List.length_map] at this ⊢; omega
    refine ((sortSt_ok (G := G)).2 (zs.map (·.1), ns) ⟨hlen, h2⟩ Z w [v, v2] _ hG hargs2 (fun b hb => hA b (hb.elim (hB1A b) (hA2A b)))).mono ?_
    rintro e w' ⟨y, v', Z', A', hpost, rfl, hres, haft⟩
    simp only [s_sortSt] at hres
    simp only [rel0L] at hres
    obtain ⟨r0, us, C1, C2, e1, hk, hr, v3, us2, D1, D2, e2, hk2, hr2, v4, us3, D3, D4, e3, hk3, hr3, e4, hD4⟩ := hres
    simp only [List.cons.injEq] at e1
    obtain ⟨rfl, rfl⟩ := e1
    simp only [List.cons.injEq] at e2
    obtain ⟨rfl, rfl⟩ := e2
    simp only [List.cons.injEq] at e3
    obtain ⟨rfl, rfl⟩ := e3
    -- the pairs in their new order
    let lt2 : Raw × Gr → Raw × Gr → Bool := fun a b => ltR ns a.1 b.1
    have hm1 : (isort lt2 zs).map (·.1) = isort (ltR ns) (zs.map (·.1)) := isort_map (lt := lt2) (f := fun p : Raw × Gr => p.1) (lt' := ltR ns) (fun a b => rfl)
    have hm2 : (isort lt2 zs).map (·.2) = isort (ltG ns) l := by
      rw [← hzs]
      have hp : ∀ (l1 l2 : List (Raw × Gr)), (∀ p ∈ l1, p.1.2 = p.2.member) → (∀ p ∈ l2, p.1.2 = p.2.member) → (l1.foldl (fun out e => insS lt2 e out) l2).map (·.2) = (l1.map (·.2)).foldl (fun out e => insS (ltG ns) e out) (l2.map (·.2)) := by
        have hins : ∀ (e : Raw × Gr) (l : List (Raw × Gr)), e.1.2 = e.2.member → (∀ p ∈ l, p.1.2 = p.2.member) → (insS lt2 e l).map (·.2) = insS (ltG ns) e.2 (l.map (·.2)) ∧ ∀ p ∈ insS lt2 e l, p.1.2 = p.2.member := by
          intro e l he
          induction l with
          | nil => intro _; exact ⟨rfl, fun p hp => by simp [insS] at hp; subst hp; exact he⟩
          | cons q l ih =>
            intro hl
            have hq := hl q (by simp)
            have ih := ih fun p hp => hl p (by simp [hp])
            have hlt : lt2 e q = ltG ns e.2 q.2 := by simp only [lt2, ltR, ltG, he, hq]
            simp only [insS, List.map_cons, ← hlt]
            split
            · refine ⟨rfl, fun p hp => ?_⟩
              rcases List.mem_cons.1 hp with h | h
              · subst h; exact he
              · exact hl p h
            · refine ⟨by rw [List.map_cons, ih.1], fun p hp => ?_⟩
              rcases List.mem_cons.1 hp with h | h
              · subst h; exact hq
              · exact ih.2 p h
        intro l1
        induction l1 with
        | nil => intro l2 _ _; rfl
        | cons e l1 ih =>
          intro l2 h1 h2
          have hh := hins e l2 (h1 e (by simp)) h2
          simp only [List.foldl_cons, List.map_cons]
          rw [ih _ (fun p hp => h1 p (by simp [hp])) hh.2, hh.1]
      exact hp zs [] hmem (fun _ h => by cases h)
    have hmem' : ∀ p ∈ isort lt2 zs, p.1.2 = p.2.member := fun p hp => hmem p ((isort_perm (lt := lt2) (l := zs)).mem_iff.1 hp)
    have hnest' : Nest Z' w' (isort lt2 zs) B2 := by
      refine Nest_mono (Z := Z) (w := w) (fun b hz hb => ?_) (fun b hb => ?_) (Nest_perm isort_perm.symm hnest)
      · have hn : ¬ (B1 b ∨ A2 b) := fun h => hz (hA b (h.elim (hB1A b) (hA2A b))).1
        obtain ⟨g1, g2⟩ := haft.old b hb hn
        exact ⟨fun x => hz (g2.1 x), g1⟩
      · have hn : ¬ (B1 b ∨ A2 b) := fun h => h.elim (fun h => hjB.2 b h hb) (hd22 b hb)
        exact (haft.old b (hA b (hB2A b hb)).2 hn).1
    rw [← hm1] at hr2
    have hD1 : ∀ b, D1 b → ¬ B2 b := by
      intro b hb hb2
      obtain ⟨_, _, g3⟩ := haft.own b ((hk.1 b).2 (.inr ((hk2.1 b).2 (.inl hb))))
      have := g3 (hA b (hB2A b hb2)).2
      exact this.elim (fun h => hjB.2 b h hb2) (hd22 b hb2)
    have hfin := raw_ogrs (S := fun b => D1 b ∨ B2 b) hr2 hnest' hmem' ⟨fun _ => Iff.rfl, fun b x y => hD1 b x y⟩
    rw [hm2] at hfin
    have hC1 : emp C1 := by
      simp only [rel0, rel0L] at hr
      obtain ⟨cs, _, _, h⟩ := hr; exact h
    have hD3 : emp D3 := by simpa only [rel0] using hr3
    refine ⟨(), v', Z', fun b => D1 b ∨ B2 b, trivial, rfl, ?_, ⟨haft.os, haft.tape, haft.output, haft.size, fun b hb hn => haft.old b hb (fun h => hn (h.elim (hB1A b) (hA2A b))), fun b hb => ?_⟩⟩
    · simp only [s_srtN, rel0L]
      refine ⟨v', _, fun _ => False, _, rfl, join_emp_left _, ?_, v, _, _, fun _ => False, rfl, join_emp_right _, hfin, v2, [], _, _, rfl, join_emp_left _, ?_, rfl, emp_false⟩
      · rw [emp_eq hC1] at hr; exact hr
      · simp only [rel0]; exact emp_false
    · rcases hb with hb | hb
      · obtain ⟨g1, g2, g3⟩ := haft.own b ((hk.1 b).2 (.inr ((hk2.1 b).2 (.inl hb))))
        exact ⟨g1, g2, fun h => (g3 h).elim (hB1A b) (hA2A b)⟩
      · have hn : ¬ (B1 b ∨ A2 b) := fun h => h.elim (fun h => hjB.2 b h hb) (hd22 b hb)
        have hh := hA b (hB2A b hb)
        exact ⟨(haft.old b hh.2 hn).2.2 hh.1, Nat.lt_of_lt_of_le hh.2 haft.size, fun _ => hB2A b hb⟩
--end
def orderedG (ns : List Nd) : List Gr := isort (ltG ns) (groupsOf ns)
def s_iOrderedGroups  : Sig := { X := List Nd, args := fun x => [nds x], pre := fun x => (okNds x ∧ x.length ≤ 2 ^ 30) ∧ txtB x, Y := Unit, post := fun x y => True, res := fun x y => ogrs (orderedG x), outs := fun x y => [.top], keep := false }
theorem iOrderedGroups_vc (x : List Nd) : vcFun Go.Proofs.Tryz.prog (Γof [(63, 0, s_iGroupsOf), (64, 65 + 1, s_srtN)]) (Eof []) false (Lof ([])) Go.Proofs.Tryz.f19.ntmps Go.Proofs.Tryz.f19.results.toList (Go.Proofs.Tryz.f19.body.getD .skip) s_iOrderedGroups x = ((∀ (y : Unit), True → (∀ (x : Gr), (∀ (x : Int), True ∧ True) ∧ True ∧ True) ∧ True ∧ True) ∧ ∃ (x_1 : List Nd), (okNds x_1 ∧ List.length x_1 ≤ (1073741824 : Nat)) ∧ AV.sl false (0 : Nat) (4 : Nat) Nd (ndA false) x = AV.sl false (0 : Nat) (4 : Nat) Nd (ndA false) x_1 ∧ ∀ (y : Unit), True → ∃ (x_2 : List Gr × List Nd), (List.length x_2.fst ≤ (12 : Nat) ∧ txtB x_2.snd) ∧ AV.sl true (0 : Nat) (2 : Nat) Gr (grA true) (groupsOf x_1) = AV.sl true (0 : Nat) (2 : Nat) Gr (grA true) x_2.fst ∧ AV.pf [AV.sl false (0 : Nat) (4 : Nat) Nd (fun (x : Nd) => fzL._f [AV.int IntKind.i64 x.kind, AV.str x.text, AV.sl false (0 : Nat) (1 : Nat) Int intA x.kids, AV.bool x.blank] ⟨AV.rec (fun (k : IntKind) (n : Int) => ⟨fz._f (AV.int k n) PUnit.unit, PUnit.unit⟩) (fun (b : Bool) => ⟨fz._f (AV.bool b) PUnit.unit, PUnit.unit⟩) (fun (l : List UInt8) => ⟨fz._f (AV.str l) PUnit.unit, PUnit.unit⟩) (fun (v : Value) => ⟨fz._f (AV.val v) PUnit.unit, PUnit.unit⟩) ⟨fz._f AV.any PUnit.unit, PUnit.unit⟩ ⟨fz._f AV.top PUnit.unit, PUnit.unit⟩ ⟨fz._f AV.nil PUnit.unit, PUnit.unit⟩ (fun (id : Nat) => ⟨fz._f (AV.hole id) PUnit.unit, PUnit.unit⟩) (fun (id : Nat) => ⟨fz._f (AV.al id) PUnit.unit, PUnit.unit⟩) (fun (id k sz off : Nat) => ⟨fz._f (AV.po id k sz off) PUnit.unit, PUnit.unit⟩) (fun (fs : List AV) (fs_ih : List AV ×' AV.below_1 fs) => ⟨fz._f (AV.agg fs) fs_ih, fs_ih⟩) (fun (vs : List AV) (vs_ih : List AV ×' AV.below_1 vs) => ⟨fz._f (AV.tup vs) vs_ih, vs_ih⟩) (fun (id : Nat) (c : List AV) (c_ih : List AV ×' AV.below_1 c) => ⟨fz._f (AV.box id c) c_ih, c_ih⟩) (fun (c : List AV) (c_ih : List AV ×' AV.below_1 c) => ⟨fz._f (AV.pf c) c_ih, c_ih⟩) (fun (fn : Fn) (caps : List AV) (caps_ih : List AV ×' AV.below_1 caps) => ⟨fz._f (AV.clo fn caps) caps_ih, caps_ih⟩) (fun (own : Bool) (id sz : Nat) (α : Type) (f : α → List AV) (xs : List α) (f_ih : (a : α) → List AV ×' AV.below_1 (f a)) => ⟨fz._f (AV.sl own id sz α f xs) f_ih, f_ih⟩) ⟨fzL._f [] PUnit.unit, PUnit.unit⟩ (fun (head : AV) (tail : List AV) (head_ih : AV ×' AV.below head) (tail_ih : List AV ×' AV.below_1 tail) => ⟨fzL._f (head :: tail) ⟨head_ih, tail_ih⟩, head_ih, tail_ih⟩) (AV.int IntKind.i64 x.kind), AV.rec_1 (fun (k : IntKind) (n : Int) => ⟨fz._f (AV.int k n) PUnit.unit, PUnit.unit⟩) (fun (b : Bool) => ⟨fz._f (AV.bool b) PUnit.unit, PUnit.unit⟩) (fun (l : List UInt8) => ⟨fz._f (AV.str l) PUnit.unit, PUnit.unit⟩) (fun (v : Value) => ⟨fz._f (AV.val v) PUnit.unit, PUnit.unit⟩) ⟨fz._f AV.any PUnit.unit, PUnit.unit⟩ ⟨fz._f AV.top PUnit.unit, PUnit.unit⟩ ⟨fz._f AV.nil PUnit.unit, PUnit.unit⟩ (fun (id : Nat) => ⟨fz._f (AV.hole id) PUnit.unit, PUnit.unit⟩) (fun (id : Nat) => ⟨fz._f (AV.al id) PUnit.unit, PUnit.unit⟩) (fun (id k sz off : Nat) => ⟨fz._f (AV.po id k sz off) PUnit.unit, PUnit.unit⟩) (fun (fs : List AV) (fs_ih : List AV ×' AV.below_1 fs) => ⟨fz._f (AV.agg fs) fs_ih, fs_ih⟩) (fun (vs : List AV) (vs_ih : List AV ×' AV.below_1 vs) => ⟨fz._f (AV.tup vs) vs_ih, vs_ih⟩) (fun (id : Nat) (c : List AV) (c_ih : List AV ×' AV.below_1 c) => ⟨fz._f (AV.box id c) c_ih, c_ih⟩) (fun (c : List AV) (c_ih : List AV ×' AV.below_1 c) => ⟨fz._f (AV.pf c) c_ih, c_ih⟩) (fun (fn : Fn) (caps : List AV) (caps_ih : List AV ×' AV.below_1 caps) => ⟨fz._f (AV.clo fn caps) caps_ih, caps_ih⟩) (fun (own : Bool) (id sz : Nat) (α : Type) (f : α → List AV) (xs : List α) (f_ih : (a : α) → List AV ×' AV.below_1 (f a)) => ⟨fz._f (AV.sl own id sz α f xs) f_ih, f_ih⟩) ⟨fzL._f [] PUnit.unit, PUnit.unit⟩ (fun (head : AV) (tail : List AV) (head_ih : AV ×' AV.below head) (tail_ih : List AV ×' AV.below_1 tail) => ⟨fzL._f (head :: tail) ⟨head_ih, tail_ih⟩, head_ih, tail_ih⟩) [AV.str x.text, AV.sl false (0 : Nat) (1 : Nat) Int intA x.kids, AV.bool x.blank]⟩) x] = AV.pf [AV.sl false (0 : Nat) (4 : Nat) Nd (ndA false) x_2.snd] ∧ ∀ (y : Unit), True → ∃ (y : Unit), True ∧ AV.sl true (0 : Nat) (2 : Nat) Gr (grA true) (isort (ltG x_2.snd) x_2.fst) = AV.sl true (0 : Nat) (2 : Nat) Gr (grA true) (orderedG x) ∧ True) := by kernel_rfl
theorem iOrderedGroups_ok  : Contract G Tryz.prog 19 s_iOrderedGroups :=
  vcFun_ok (Γ := Γof [(63, 0, s_iGroupsOf), (64, 65 + 1, s_srtN)]) (E := Eof []) (ov := false) (L := fun x => Lof ([])) Tryz.func19 rfl (by decide) (Γof_ok (l := [(63, 0, s_iGroupsOf), (64, 65 + 1, s_srtN)]) ⟨iGroupsOf_ok, srtN_ok, trivial⟩) fun (x : List Nd) (hx : (okNds x ∧ x.length ≤ 2 ^ 30) ∧ txtB x) => (iOrderedGroups_vc  x).mpr (by
  obtain ⟨⟨h1, h2⟩, h3⟩ := hx
  (repeat' first | with_reducible rfl | exact True.intro | refine inR_i64 ?_ ?_ | with_reducible refine And.intro ?_ ?_ | with_reducible refine bcase_dec (fun _ => ?_) (fun _ => ?_) | with_reducible refine bcase_bne (fun _ => ?_) (fun _ => ?_) | with_reducible refine bcase_beq (fun _ => ?_) (fun _ => ?_) | with_reducible refine bcase_not (fun _ => ?_) (fun _ => ?_) | refine bcase_intro (fun _ => ?_) (fun _ => ?_) | refine sl_eq ?_ | refine ex_flip () ?_ ?_ | (apply ex_flip6 <;> try dsimp only) | (apply ex_flip5 <;> try dsimp only) | (apply ex_flip4 <;> try dsimp only) | (apply ex_flip3 <;> try dsimp only) | (apply ex_flip2 <;> try dsimp only) | apply ex_flip | (refine Prod.forall.2 ?_; intro _; try dsimp only) | (intro _; try dsimp only))
  all_goals first
    | rfl
    | exact h1
    | exact h2
    | exact h3
    | exact groupsOf_len.1
    | skip)

/- the reference's -/
def hgrs (l : List Gr) : AV := .sl true 0 2 Gr (grA false) l
def lHGrC (x : List Nd) (i : Int) : LS := {
  ι := List Gr × List Int, inv := fun o => gI x (i + 1) o.1 o.2,
  regs := fun o => [(0, nds x), (3, hgrs o.1), (4, .box 0 [oints o.2, .int .i64 (-1)]), (5, ints (fileKids x)), (6, .int .i64 i)], als := [], meas := fun _ => 0 }
def lHGr (x : List Nd) : LS := {
  ι := Int × List Gr × List Int, inv := fun i => gI x i.1 i.2.1 i.2.2,
  regs := fun i => [(0, nds x), (3, hgrs i.2.1), (4, .box 0 [oints i.2.2, .int .i64 (-1)]), (5, ints (fileKids x)), (6, .int .i64 i.1)], als := [], meas := fun i => (fileKids x).length - i.1.toNat, sub := fun i => [(100010, lHGrC x i.1)] }
def s_hGroupsOf  : Sig := { X := List Nd, args := fun x => [nds x], pre := fun x => okNds x ∧ x.length ≤ 2 ^ 30, Y := Unit, post := fun x y => True, res := fun x y => hgrs (groupsOf x), outs := fun x y => [.top], keep := true }
theorem hGroupsOf_vc (x : List Nd) : vcFun Go.Proofs.Tryz.prog (Γof [(48, 0, s_sTreeOk)]) (Eof [(39, ⟨Int,intA⟩), (30, ⟨Gr,grA false⟩)]) false (Lof ([(7,lHGr x)])) Go.Proofs.Tryz.f61.ntmps Go.Proofs.Tryz.f61.results.toList (Go.Proofs.Tryz.f61.body.getD .skip) s_hGroupsOf x = (True ∧ ∃ (x_1 : List Nd), (okNds x_1 ∧ List.length x_1 ≤ (1073741824 : Nat)) ∧ AV.sl false (0 : Nat) (4 : Nat) Nd (ndA false) x = AV.sl false (0 : Nat) (4 : Nat) Nd (ndA false) x_1 ∧ ∀ (y : Unit), True → bcase (!treeOk x_1) (∃ (y : Unit), True ∧ AV.sl true (0 : Nat) (2 : Nat) Gr (grA false) [] = AV.sl true (0 : Nat) (2 : Nat) Gr (grA false) (groupsOf x) ∧ True) (inR IntKind.i64 ((↑(List.length x) : Int) - (1 : Int)) ∧ ((0 : Int) ≤ (↑(List.length x) : Int) - (1 : Int) ∧ (↑(List.length x) : Int) - (1 : Int) < (↑(List.length x) : Int)) ∧ ∀ (e : Nd), x[Int.toNat ((↑(List.length x) : Int) - (1 : Int))]? = some e → (∃ (i : Int × List Gr × List Int), gI x i.fst i.snd.fst i.snd.snd ∧ (AV.sl false (0 : Nat) (4 : Nat) Nd (ndA false) x = AV.sl false (0 : Nat) (4 : Nat) Nd (ndA false) x ∧ AV.sl true (0 : Nat) (2 : Nat) Gr (grA false) [] = AV.sl true (0 : Nat) (2 : Nat) Gr (grA false) i.snd.fst ∧ AV.sl true (0 : Nat) (1 : Nat) Int intA [] = AV.sl true (0 : Nat) (1 : Nat) Int intA i.snd.snd ∧ (-1 : Int) = (-1 : Int) ∧ AV.sl false (0 : Nat) (1 : Nat) Int intA e.kids = AV.sl false (0 : Nat) (1 : Nat) Int intA (fileKids x) ∧ (0 : Int) = i.fst ∧ True) ∧ True) ∧ ∀ (i : Int × List Gr × List Int), gI x i.fst i.snd.fst i.snd.snd → bcase (decide (i.fst < (↑(List.length (fileKids x)) : Int))) (((0 : Int) ≤ i.fst ∧ i.fst < (↑(List.length (fileKids x)) : Int)) ∧ ∀ (e : Int), (fileKids x)[Int.toNat i.fst]? = some e → ((0 : Int) ≤ e ∧ e < (↑(List.length x) : Int)) ∧ ∀ (e_1 : Nd), x[Int.toNat e]? = some e_1 → bcase (e_1.kind == (19 : Int)) (true = true ∧ (((0 : Int) ≤ i.fst ∧ i.fst < (↑(List.length (fileKids x)) : Int)) ∧ ∀ (e : Int), (fileKids x)[Int.toNat i.fst]? = some e → (∃ (x_2 : Int), e = x_2 ∧ ∃ (zs : List Int), AV.sl true (0 : Nat) (1 : Nat) Int intA [x_2] = AV.sl true (0 : Nat) (1 : Nat) Int intA zs ∧ leafy intA ∧ room (List.length i.snd.snd + List.length zs) (8 : Nat) ∧ true = true ∧ ∃ (i_1 : List Gr × List Int), gI x (i.fst + (1 : Int)) i_1.fst i_1.snd ∧ (AV.sl false (0 : Nat) (4 : Nat) Nd (ndA false) x = AV.sl false (0 : Nat) (4 : Nat) Nd (ndA false) x ∧ AV.sl true (0 : Nat) (2 : Nat) Gr (grA false) i.snd.fst = AV.sl true (0 : Nat) (2 : Nat) Gr (grA false) i_1.fst ∧ AV.sl true (0 : Nat) (1 : Nat) Int intA (i.snd.snd ++ zs) = AV.sl true (0 : Nat) (1 : Nat) Int intA i_1.snd ∧ (-1 : Int) = (-1 : Int) ∧ AV.sl false (0 : Nat) (1 : Nat) Int intA (fileKids x) = AV.sl false (0 : Nat) (1 : Nat) Int intA (fileKids x) ∧ i.fst = i.fst ∧ True) ∧ True) ∧ ∃ (x_2 : Int), e = x_2 ∧ ∃ (zs : List Int), AV.sl true (0 : Nat) (1 : Nat) Int intA [x_2] = AV.sl true (0 : Nat) (1 : Nat) Int intA zs ∧ leafy intA ∧ room (List.length i.snd.snd + List.length zs) (8 : Nat) ∧ true = true ∧ ∃ (i_1 : List Gr × List Int), gI x (i.fst + (1 : Int)) i_1.fst i_1.snd ∧ (AV.sl false (0 : Nat) (4 : Nat) Nd (ndA false) x = AV.sl false (0 : Nat) (4 : Nat) Nd (ndA false) x ∧ AV.sl true (0 : Nat) (2 : Nat) Gr (grA false) i.snd.fst = AV.sl true (0 : Nat) (2 : Nat) Gr (grA false) i_1.fst ∧ AV.sl true (0 : Nat) (1 : Nat) Int intA (i.snd.snd ++ zs) = AV.sl true (0 : Nat) (1 : Nat) Int intA i_1.snd ∧ (-1 : Int) = (-1 : Int) ∧ AV.sl false (0 : Nat) (1 : Nat) Int intA (fileKids x) = AV.sl false (0 : Nat) (1 : Nat) Int intA (fileKids x) ∧ i.fst = i.fst ∧ True) ∧ True) ∧ ∀ (i_1 : List Gr × List Int), gI x (i.fst + (1 : Int)) i_1.fst i_1.snd → inR IntKind.i64 (i.fst + (1 : Int)) ∧ ∃ (i' : Int × List Gr × List Int), gI x i'.fst i'.snd.fst i'.snd.snd ∧ List.length (fileKids x) - Int.toNat i'.fst < List.length (fileKids x) - Int.toNat i.fst ∧ (AV.sl false (0 : Nat) (4 : Nat) Nd (ndA false) x = AV.sl false (0 : Nat) (4 : Nat) Nd (ndA false) x ∧ AV.sl true (0 : Nat) (2 : Nat) Gr (grA false) i_1.fst = AV.sl true (0 : Nat) (2 : Nat) Gr (grA false) i'.snd.fst ∧ AV.sl true (0 : Nat) (1 : Nat) Int intA i_1.snd = AV.sl true (0 : Nat) (1 : Nat) Int intA i'.snd.snd ∧ (-1 : Int) = (-1 : Int) ∧ AV.sl false (0 : Nat) (1 : Nat) Int intA (fileKids x) = AV.sl false (0 : Nat) (1 : Nat) Int intA (fileKids x) ∧ i.fst + (1 : Int) = i'.fst ∧ True) ∧ True) (((0 : Int) ≤ i.fst ∧ i.fst < (↑(List.length (fileKids x)) : Int)) ∧ ∀ (e : Int), (fileKids x)[Int.toNat i.fst]? = some e → ∃ (x_2 : Gr), AV.sl false (0 : Nat) (1 : Nat) Int (fun (x : Int) => fzL (intA x)) i.snd.snd = AV.sl false (0 : Nat) (1 : Nat) Int intA x_2.notes ∧ e = x_2.member ∧ ∃ (zs : List Gr), AV.sl true (0 : Nat) (2 : Nat) Gr (grA false) [x_2] = AV.sl true (0 : Nat) (2 : Nat) Gr (grA false) zs ∧ leafy (grA false) ∧ room (List.length i.snd.fst + List.length zs) (32 : Nat) ∧ inR IntKind.i64 (i.fst + (1 : Int)) ∧ ∃ (i' : Int × List Gr × List Int), gI x i'.fst i'.snd.fst i'.snd.snd ∧ List.length (fileKids x) - Int.toNat i'.fst < List.length (fileKids x) - Int.toNat i.fst ∧ (AV.sl false (0 : Nat) (4 : Nat) Nd (ndA false) x = AV.sl false (0 : Nat) (4 : Nat) Nd (ndA false) x ∧ AV.sl true (0 : Nat) (2 : Nat) Gr (grA false) (i.snd.fst ++ zs) = AV.sl true (0 : Nat) (2 : Nat) Gr (grA false) i'.snd.fst ∧ AV.sl true (0 : Nat) (1 : Nat) Int intA [] = AV.sl true (0 : Nat) (1 : Nat) Int intA i'.snd.snd ∧ (-1 : Int) = (-1 : Int) ∧ AV.sl false (0 : Nat) (1 : Nat) Int intA (fileKids x) = AV.sl false (0 : Nat) (1 : Nat) Int intA (fileKids x) ∧ i.fst + (1 : Int) = i'.fst ∧ True) ∧ True)) (bcase (decide ((↑(List.length i.snd.snd) : Int) > (0 : Int))) (∃ (x_2 : Gr), AV.sl false (0 : Nat) (1 : Nat) Int (fun (x : Int) => fzL (intA x)) i.snd.snd = AV.sl false (0 : Nat) (1 : Nat) Int intA x_2.notes ∧ (-1 : Int) = x_2.member ∧ ∃ (zs : List Gr), AV.sl true (0 : Nat) (2 : Nat) Gr (grA false) [x_2] = AV.sl true (0 : Nat) (2 : Nat) Gr (grA false) zs ∧ leafy (grA false) ∧ room (List.length i.snd.fst + List.length zs) (32 : Nat) ∧ ∃ (y : Unit), True ∧ AV.sl true (0 : Nat) (2 : Nat) Gr (grA false) (i.snd.fst ++ zs) = AV.sl true (0 : Nat) (2 : Nat) Gr (grA false) (groupsOf x) ∧ True) (∃ (y : Unit), True ∧ AV.sl true (0 : Nat) (2 : Nat) Gr (grA false) i.snd.fst = AV.sl true (0 : Nat) (2 : Nat) Gr (grA false) (groupsOf x) ∧ True)))) := by kernel_rfl
theorem hGroupsOf_ok  : Contract G Tryz.prog 61 s_hGroupsOf :=
  vcFun_ok (Γ := Γof [(48, 0, s_sTreeOk)]) (E := Eof [(39, ⟨Int,intA⟩), (30, ⟨Gr,grA false⟩)]) (ov := false) (L := fun x => Lof ([(7,lHGr x)])) Tryz.func61 rfl (by decide) (Γof_ok (l := [(48, 0, s_sTreeOk)]) ⟨sTreeOk_ok, trivial⟩) fun (x : List Nd) (hx : okNds x ∧ x.length ≤ 2 ^ 30) => (hGroupsOf_vc  x).mpr (by
  obtain ⟨h1, h2⟩ := hx; have hl := h1.1
  (repeat' first | with_reducible rfl | exact True.intro | refine inR_i64 ?_ ?_ | with_reducible refine And.intro ?_ ?_ | with_reducible refine bcase_dec (fun _ => ?_) (fun _ => ?_) | with_reducible refine bcase_bne (fun _ => ?_) (fun _ => ?_) | with_reducible refine bcase_beq (fun _ => ?_) (fun _ => ?_) | with_reducible refine bcase_not (fun _ => ?_) (fun _ => ?_) | refine bcase_intro (fun _ => ?_) (fun _ => ?_) | refine sl_eq ?_ | refine ex_flip () ?_ ?_ | (apply ex_flip6 <;> try dsimp only) | (apply ex_flip5 <;> try dsimp only) | (apply ex_flip4 <;> try dsimp only) | (apply ex_flip3 <;> try dsimp only) | (apply ex_flip2 <;> try dsimp only) | apply ex_flip | (refine Prod.forall.2 ?_; intro _; try dsimp only) | (intro _; try dsimp only))
  all_goals first
    | rfl
    | exact h1
    | exact h2
    | exact gI_init (by assumption)
    | exact gI_none (by assumption)
    | (symm; exact gI_none (by assumption))
    | (rw [fileKids, ndAt_of (by assumption)]; done)
    | ((try simp only [i64max]); omega)
    | exact gI_note (by assumption) (by assumption) (by assumption) (by assumption) (by assumption)
    | exact gI_mem (by assumption) (by assumption) (by assumption) (by assumption) (by assumption)
    | exact gI_end1 (by assumption) (by assumption) (by assumption)
    | exact gI_end2 (by assumption) (by assumption) (by assumption)
    | exact (gI_kid (by assumption) (by assumption)).1
    | exact (gI_kid (by assumption) (by assumption)).2
    | (have ht0 := treeOk_last (show treeOk x = true by assumption); (try simp only [i64max]); omega)
    | (have hg := gI_len (by assumption); (try simp only [i64max, room, List.length_cons, List.length_nil]); omega)
    | (rename gI x (_ + 1) _ _ => q1; clear q1; have hg := gI_len (by assumption); omega)
    | skip
  all_goals try rfl)

/- one group put into its place, from the left -/
def ogI (ns : List Nd) (i : Int) : Prop := 0 ≤ i ∧ i ≤ (groupsOf ns).length
def ogO (ns : List Nd) (i : Int) : List Gr := isort (ltG ns) ((groupsOf ns).take i.toNat)
def ogN (ns : List Nd) (i k : Int) (next : List Gr) (put : Bool) : Prop := (0 ≤ k ∧ k ≤ (ogO ns i).length) ∧ next.length ≤ 2 * k ∧ ∀ e, (groupsOf ns)[i.toNat]? = some e → next ++ (if put then (ogO ns i).drop k.toNat else insS (ltG ns) e ((ogO ns i).drop k.toNat)) = insS (ltG ns) e (ogO ns i)
theorem ogO_len {ns : List Nd} {i : Int} : (ogO ns i).length ≤ 12 := by
  have := (@groupsOf_len ns).1
  rw [ogO, isort_len, List.length_take]; omega
theorem ogO_0 {ns : List Nd} : ogO ns 0 = [] := by simp [ogO, isort]
theorem ogN_0 {ns : List Nd} {i : Int} : ogN ns i 0 [] false := ⟨⟨by omega, by omega⟩, by simp, fun e he => by simp⟩
theorem ogO_next {ns : List Nd} {i : Int} {e : Gr} (h : ogI ns i) (he : (groupsOf ns)[i.toNat]? = some e) : insS (ltG ns) e (ogO ns i) = ogO ns (i + 1) := by
  rw [ogO, ogO, toNat1 h.1, takeE he, isort_snoc]
theorem ogN_d1 {ns : List Nd} {i k : Int} {next : List Gr} {e : Gr} (hi : ogI ns i) (h : ogN ns i k next false) (hl : ¬ k < (ogO ns i).length) (he : (groupsOf ns)[i.toNat]? = some e) : next ++ [e] = ogO ns (i + 1) := by
  have := h.2.2 e he
  rw [List.drop_eq_nil_of_le (by have := h.1; omega)] at this
  rw [← ogO_next hi he, ← this]; simp [insS]
theorem ogN_d2 {ns : List Nd} {i k : Int} {next : List Gr} (hi : ogI ns i) (hil : i < (groupsOf ns).length) (h : ogN ns i k next true) (hl : ¬ k < (ogO ns i).length) : next = ogO ns (i + 1) := by
  obtain ⟨e, he⟩ : ∃ e, (groupsOf ns)[i.toNat]? = some e := ⟨(groupsOf ns)[i.toNat]'(by have := hi.1; omega), by simp⟩
  have := h.2.2 e he
  rw [List.drop_eq_nil_of_le (by have := h.1; omega)] at this
  rw [← ogO_next hi he, ← this]; simp
theorem ogI_end {ns : List Nd} {i : Int} (h : ogI ns i) (hl : ¬ i < (groupsOf ns).length) : ogO ns i = orderedG ns := by
  rw [ogO, List.take_of_length_le (by have := h.2; omega)]; rfl
def ogM (ns : List Nd) (i k : Int) (next : List Gr) (put : Bool) : Prop := (0 ≤ k ∧ k < (ogO ns i).length) ∧ next.length ≤ 2 * k + 1 ∧ ∀ e, (groupsOf ns)[i.toNat]? = some e →
  (put = true → next ++ (ogO ns i).drop k.toNat = insS (ltG ns) e (ogO ns i)) ∧ (put = false → next ++ insS (ltG ns) e ((ogO ns i).drop k.toNat) = insS (ltG ns) e (ogO ns i) ∧ ∀ x, (ogO ns i)[k.toNat]? = some x → ltG ns e x = false)
theorem ogM_len {ns : List Nd} {i k : Int} {next : List Gr} {put : Bool} (h : ogM ns i k next put) : (ogO ns i).length ≤ 12 := ogO_len
theorem ogN_len {ns : List Nd} {i k : Int} {next : List Gr} {put : Bool} (h : ogN ns i k next put) : (ogO ns i).length ≤ 12 := ogO_len
theorem ogM_put {ns : List Nd} {i k : Int} {next : List Gr} {e x : Gr} {put : Bool} (hp : put = false) (h : ogN ns i k next put) (hk : k < (ogO ns i).length) (he : (groupsOf ns)[i.toNat]? = some e) (hx : (ogO ns i)[k.toNat]? = some x) (hlt : bLt (gkey ns e.member) (gkey ns x.member) = true) : ogM ns i k (next ++ [e]) true := by
  subst hp
  refine ⟨⟨h.1.1, hk⟩, by have := h.2.1; simp; omega, fun e' he' => ⟨fun _ => ?_, fun hh => by cases hh⟩⟩
  rw [he] at he'; cases he'
  rw [← h.2.2 e he]
  simp only [Bool.false_eq_true, if_false]
  rw [dropE hx, insS, if_pos (show ltG ns e x = true from hlt)]; simp
theorem ogM_no {ns : List Nd} {i k : Int} {next : List Gr} {e x : Gr} {put : Bool} (hp : put = false) (h : ogN ns i k next put) (hk : k < (ogO ns i).length) (he : (groupsOf ns)[i.toNat]? = some e) (hx : (ogO ns i)[k.toNat]? = some x) (hlt : bLt (gkey ns e.member) (gkey ns x.member) = false) : ogM ns i k next put := by
  subst hp
  refine ⟨⟨h.1.1, hk⟩, by have := h.2.1; omega, fun e' he' => ⟨fun hh => (by cases hh), fun _ => ⟨?_, fun x' hx' => ?_⟩⟩⟩
  · have := h.2.2 e' he'; simpa using this
  · rw [he] at he'; rw [hx] at hx'; cases he'; cases hx'; exact hlt
theorem ogM_yes {ns : List Nd} {i k : Int} {next : List Gr} {put : Bool} (h : ogN ns i k next put) (hp : put = true) (hk : k < (ogO ns i).length) : ogM ns i k next put := by
  subst hp
  refine ⟨⟨h.1.1, hk⟩, by have := h.2.1; omega, fun e he => ⟨fun _ => ?_, fun hh => by cases hh⟩⟩
  have := h.2.2 e he; simpa using this
theorem ogM_out {ns : List Nd} {i k : Int} {next : List Gr} {put : Bool} {x : Gr} (h : ogM ns i k next put) (hx : (ogO ns i)[k.toNat]? = some x) : ogN ns i (k + 1) (next ++ [x]) put := by
  obtain ⟨⟨h0, h1⟩, h2, h3⟩ := h
  refine ⟨⟨by omega, by omega⟩, by simp; omega, fun e he => ?_⟩
  obtain ⟨g1, g2⟩ := h3 e he
  cases put
  · obtain ⟨g3, g4⟩ := g2 rfl
    rw [← g3]
    simp only [Bool.false_eq_true, if_false]
    rw [dropE hx, insS, if_neg (by simp [g4 x hx]), toNat1 h0]; simp
  · rw [← g1 rfl]
    simp only [if_true]
    rw [dropE hx, toNat1 h0]; simp
def lSogM (x : List Nd) (i k : Int) : LS := {
  ι := List Gr × Bool, inv := fun q => ogM x i k q.1 q.2,
  regs := fun q => [(0, nds x), (3, hgrs (ogO x i)), (4, hgrs (groupsOf x)), (5, .int .i64 i), (6, hgrs q.1), (7, .bool q.2), (8, .int .i64 k)], als := [], meas := fun _ => 0 }
def lSogZ (x : List Nd) (i : Int) : LS := {
  ι := Unit, inv := fun _ => True,
  regs := fun _ => [(0, nds x), (4, hgrs (groupsOf x)), (5, .int .i64 i), (6, hgrs (ogO x (i + 1)))], als := [], meas := fun _ => 0 }
def lSogK (x : List Nd) (i : Int) : LS := {
  ι := Int × List Gr × Bool, inv := fun k => ogN x i k.1 k.2.1 k.2.2,
  regs := fun k => [(0, nds x), (3, hgrs (ogO x i)), (4, hgrs (groupsOf x)), (5, .int .i64 i), (6, hgrs k.2.1), (7, .bool k.2.2), (8, .int .i64 k.1)], als := [], meas := fun k => (ogO x i).length - k.1.toNat, sub := fun k => [(200014, lSogM x i k.1)] }
def lSog (x : List Nd) : LS := {
  ι := Int, inv := ogI x,
  regs := fun i => [(0, nds x), (3, hgrs (ogO x i)), (4, hgrs (groupsOf x)), (5, .int .i64 i)], als := [], meas := fun i => (groupsOf x).length - i.toNat, sub := fun i => [(9, lSogK x i), (200017, lSogZ x i)] }
def s_sOrderedGroups  : Sig := { X := List Nd, args := fun x => [nds x], pre := fun x => (okNds x ∧ x.length ≤ 2 ^ 30) ∧ txtB x, Y := Unit, post := fun x y => True, res := fun x y => hgrs (orderedG x), outs := fun x y => [.top], keep := true }
theorem sOrderedGroups_vc (x : List Nd) : vcFun Go.Proofs.Tryz.prog (Γof [(61, 0, s_hGroupsOf), (62, 0, s_sGroupKey)]) (Eof [(30, ⟨Gr,grA false⟩)]) false (Lof ([(4,lSog x)])) Go.Proofs.Tryz.f18.ntmps Go.Proofs.Tryz.f18.results.toList (Go.Proofs.Tryz.f18.body.getD .skip) s_sOrderedGroups x = (True ∧ ∃ (x_1 : List Nd), (okNds x_1 ∧ List.length x_1 ≤ (1073741824 : Nat)) ∧ AV.sl false (0 : Nat) (4 : Nat) Nd (ndA false) x = AV.sl false (0 : Nat) (4 : Nat) Nd (ndA false) x_1 ∧ ∀ (y : Unit), True → (∃ (i : Int), ogI x i ∧ (AV.sl false (0 : Nat) (4 : Nat) Nd (ndA false) x = AV.sl false (0 : Nat) (4 : Nat) Nd (ndA false) x ∧ AV.sl true (0 : Nat) (2 : Nat) Gr (grA false) [] = AV.sl true (0 : Nat) (2 : Nat) Gr (grA false) (ogO x i) ∧ AV.sl true (0 : Nat) (2 : Nat) Gr (grA false) (groupsOf x_1) = AV.sl true (0 : Nat) (2 : Nat) Gr (grA false) (groupsOf x) ∧ (0 : Int) = i ∧ True) ∧ True) ∧ ∀ (i : Int), ogI x i → bcase (decide (i < (↑(List.length (groupsOf x)) : Int))) ((∃ (i_1 : Int × List Gr × Bool), ogN x i i_1.fst i_1.snd.fst i_1.snd.snd ∧ (AV.sl false (0 : Nat) (4 : Nat) Nd (ndA false) x = AV.sl false (0 : Nat) (4 : Nat) Nd (ndA false) x ∧ AV.sl true (0 : Nat) (2 : Nat) Gr (grA false) (ogO x i) = AV.sl true (0 : Nat) (2 : Nat) Gr (grA false) (ogO x i) ∧ AV.sl true (0 : Nat) (2 : Nat) Gr (grA false) (groupsOf x) = AV.sl true (0 : Nat) (2 : Nat) Gr (grA false) (groupsOf x) ∧ i = i ∧ AV.sl true (0 : Nat) (2 : Nat) Gr (grA false) [] = AV.sl true (0 : Nat) (2 : Nat) Gr (grA false) i_1.snd.fst ∧ false = i_1.snd.snd ∧ (0 : Int) = i_1.fst ∧ True) ∧ True) ∧ ∀ (i_1 : Int × List Gr × Bool), ogN x i i_1.fst i_1.snd.fst i_1.snd.snd → bcase (decide (i_1.fst < (↑(List.length (ogO x i)) : Int))) ((true = true ∧ true = true ∧ bcase (!i_1.snd.snd) (((0 : Int) ≤ i ∧ i < (↑(List.length (groupsOf x)) : Int)) ∧ Int.toNat i < List.length (groupsOf x) ∧ ∀ (x_2 : Gr), (groupsOf x)[Int.toNat i]? = some x_2 → ∃ (x_3 : List Nd × Int), (List.length x_3.fst < (4611686018427387904 : Nat) ∧ ∀ (e : Nd), e ∈ x_3.fst → List.length e.text ≤ (1099511627776 : Nat)) ∧ AV.sl false (0 : Nat) (4 : Nat) Nd (ndA false) x = AV.sl false (0 : Nat) (4 : Nat) Nd (ndA false) x_3.fst ∧ x_2.member = x_3.snd ∧ ∃ (y0 : Unit), (∀ (y : Unit), True → AV.str (gkey x_3.fst x_3.snd) = AV.str (gkey x_3.fst x_3.snd)) ∧ true = true ∧ ((0 : Int) ≤ i_1.fst ∧ i_1.fst < (↑(List.length (ogO x i)) : Int)) ∧ Int.toNat i_1.fst < List.length (ogO x i) ∧ ∀ (x_4 : Gr), (ogO x i)[Int.toNat i_1.fst]? = some x_4 → ∃ (x_5 : List Nd × Int), (List.length x_5.fst < (4611686018427387904 : Nat) ∧ ∀ (e : Nd), e ∈ x_5.fst → List.length e.text ≤ (1099511627776 : Nat)) ∧ AV.sl false (0 : Nat) (4 : Nat) Nd (ndA false) x = AV.sl false (0 : Nat) (4 : Nat) Nd (ndA false) x_5.fst ∧ x_4.member = x_5.snd ∧ ∃ (y0 : Unit), (∀ (y : Unit), True → AV.str (gkey x_5.fst x_5.snd) = AV.str (gkey x_5.fst x_5.snd)) ∧ true = true ∧ bcase (Op.bytesLess (gkey x_3.fst x_3.snd) (gkey x_5.fst x_5.snd)) (((0 : Int) ≤ i ∧ i < (↑(List.length (groupsOf x)) : Int)) ∧ Int.toNat i < List.length (groupsOf x) ∧ ∀ (x_6 : Gr), (groupsOf x)[Int.toNat i]? = some x_6 → ∃ (x_7 : Gr), AV.sl false (0 : Nat) (1 : Nat) Int intA x_6.notes = AV.sl false (0 : Nat) (1 : Nat) Int intA x_7.notes ∧ x_6.member = x_7.member ∧ ∃ (zs : List Gr), AV.sl true (0 : Nat) (2 : Nat) Gr (grA false) [x_7] = AV.sl true (0 : Nat) (2 : Nat) Gr (grA false) zs ∧ leafy (grA false) ∧ room (List.length i_1.snd.fst + List.length zs) (32 : Nat) ∧ ∃ (i_2 : List Gr × Bool), ogM x i i_1.fst i_2.fst i_2.snd ∧ (AV.sl false (0 : Nat) (4 : Nat) Nd (ndA false) x = AV.sl false (0 : Nat) (4 : Nat) Nd (ndA false) x ∧ AV.sl true (0 : Nat) (2 : Nat) Gr (grA false) (ogO x i) = AV.sl true (0 : Nat) (2 : Nat) Gr (grA false) (ogO x i) ∧ AV.sl true (0 : Nat) (2 : Nat) Gr (grA false) (groupsOf x) = AV.sl true (0 : Nat) (2 : Nat) Gr (grA false) (groupsOf x) ∧ i = i ∧ AV.sl true (0 : Nat) (2 : Nat) Gr (grA false) (i_1.snd.fst ++ zs) = AV.sl true (0 : Nat) (2 : Nat) Gr (grA false) i_2.fst ∧ true = i_2.snd ∧ i_1.fst = i_1.fst ∧ True) ∧ True) (∃ (i_2 : List Gr × Bool), ogM x i i_1.fst i_2.fst i_2.snd ∧ (AV.sl false (0 : Nat) (4 : Nat) Nd (ndA false) x = AV.sl false (0 : Nat) (4 : Nat) Nd (ndA false) x ∧ AV.sl true (0 : Nat) (2 : Nat) Gr (grA false) (ogO x i) = AV.sl true (0 : Nat) (2 : Nat) Gr (grA false) (ogO x i) ∧ AV.sl true (0 : Nat) (2 : Nat) Gr (grA false) (groupsOf x) = AV.sl true (0 : Nat) (2 : Nat) Gr (grA false) (groupsOf x) ∧ i = i ∧ AV.sl true (0 : Nat) (2 : Nat) Gr (grA false) i_1.snd.fst = AV.sl true (0 : Nat) (2 : Nat) Gr (grA false) i_2.fst ∧ i_1.snd.snd = i_2.snd ∧ i_1.fst = i_1.fst ∧ True) ∧ True)) (∃ (i_2 : List Gr × Bool), ogM x i i_1.fst i_2.fst i_2.snd ∧ (AV.sl false (0 : Nat) (4 : Nat) Nd (ndA false) x = AV.sl false (0 : Nat) (4 : Nat) Nd (ndA false) x ∧ AV.sl true (0 : Nat) (2 : Nat) Gr (grA false) (ogO x i) = AV.sl true (0 : Nat) (2 : Nat) Gr (grA false) (ogO x i) ∧ AV.sl true (0 : Nat) (2 : Nat) Gr (grA false) (groupsOf x) = AV.sl true (0 : Nat) (2 : Nat) Gr (grA false) (groupsOf x) ∧ i = i ∧ AV.sl true (0 : Nat) (2 : Nat) Gr (grA false) i_1.snd.fst = AV.sl true (0 : Nat) (2 : Nat) Gr (grA false) i_2.fst ∧ i_1.snd.snd = i_2.snd ∧ i_1.fst = i_1.fst ∧ True) ∧ True)) ∧ ∀ (i_2 : List Gr × Bool), ogM x i i_1.fst i_2.fst i_2.snd → ((0 : Int) ≤ i_1.fst ∧ i_1.fst < (↑(List.length (ogO x i)) : Int)) ∧ Int.toNat i_1.fst < List.length (ogO x i) ∧ ∀ (x_2 : Gr), (ogO x i)[Int.toNat i_1.fst]? = some x_2 → ∃ (x_3 : Gr), AV.sl false (0 : Nat) (1 : Nat) Int intA x_2.notes = AV.sl false (0 : Nat) (1 : Nat) Int intA x_3.notes ∧ x_2.member = x_3.member ∧ ∃ (zs : List Gr), AV.sl true (0 : Nat) (2 : Nat) Gr (grA false) [x_3] = AV.sl true (0 : Nat) (2 : Nat) Gr (grA false) zs ∧ leafy (grA false) ∧ room (List.length i_2.fst + List.length zs) (32 : Nat) ∧ inR IntKind.i64 (i_1.fst + (1 : Int)) ∧ ∃ (i' : Int × List Gr × Bool), ogN x i i'.fst i'.snd.fst i'.snd.snd ∧ List.length (ogO x i) - Int.toNat i'.fst < List.length (ogO x i) - Int.toNat i_1.fst ∧ (AV.sl false (0 : Nat) (4 : Nat) Nd (ndA false) x = AV.sl false (0 : Nat) (4 : Nat) Nd (ndA false) x ∧ AV.sl true (0 : Nat) (2 : Nat) Gr (grA false) (ogO x i) = AV.sl true (0 : Nat) (2 : Nat) Gr (grA false) (ogO x i) ∧ AV.sl true (0 : Nat) (2 : Nat) Gr (grA false) (groupsOf x) = AV.sl true (0 : Nat) (2 : Nat) Gr (grA false) (groupsOf x) ∧ i = i ∧ AV.sl true (0 : Nat) (2 : Nat) Gr (grA false) (i_2.fst ++ zs) = AV.sl true (0 : Nat) (2 : Nat) Gr (grA false) i'.snd.fst ∧ i_2.snd = i'.snd.snd ∧ i_1.fst + (1 : Int) = i'.fst ∧ True) ∧ True) (bcase (!i_1.snd.snd) (((0 : Int) ≤ i ∧ i < (↑(List.length (groupsOf x)) : Int)) ∧ Int.toNat i < List.length (groupsOf x) ∧ ∀ (x_2 : Gr), (groupsOf x)[Int.toNat i]? = some x_2 → ∃ (x_3 : Gr), AV.sl false (0 : Nat) (1 : Nat) Int intA x_2.notes = AV.sl false (0 : Nat) (1 : Nat) Int intA x_3.notes ∧ x_2.member = x_3.member ∧ ∃ (zs : List Gr), AV.sl true (0 : Nat) (2 : Nat) Gr (grA false) [x_3] = AV.sl true (0 : Nat) (2 : Nat) Gr (grA false) zs ∧ leafy (grA false) ∧ room (List.length i_1.snd.fst + List.length zs) (32 : Nat) ∧ ∃ (i_2 : Unit), True ∧ (AV.sl false (0 : Nat) (4 : Nat) Nd (ndA false) x = AV.sl false (0 : Nat) (4 : Nat) Nd (ndA false) x ∧ AV.sl true (0 : Nat) (2 : Nat) Gr (grA false) (groupsOf x) = AV.sl true (0 : Nat) (2 : Nat) Gr (grA false) (groupsOf x) ∧ i = i ∧ AV.sl true (0 : Nat) (2 : Nat) Gr (grA false) (i_1.snd.fst ++ zs) = AV.sl true (0 : Nat) (2 : Nat) Gr (grA false) (ogO x (i + (1 : Int))) ∧ True) ∧ True) (∃ (i_2 : Unit), True ∧ (AV.sl false (0 : Nat) (4 : Nat) Nd (ndA false) x = AV.sl false (0 : Nat) (4 : Nat) Nd (ndA false) x ∧ AV.sl true (0 : Nat) (2 : Nat) Gr (grA false) (groupsOf x) = AV.sl true (0 : Nat) (2 : Nat) Gr (grA false) (groupsOf x) ∧ i = i ∧ AV.sl true (0 : Nat) (2 : Nat) Gr (grA false) i_1.snd.fst = AV.sl true (0 : Nat) (2 : Nat) Gr (grA false) (ogO x (i + (1 : Int))) ∧ True) ∧ True) ∧ ∀ (i_2 : Unit), True → inR IntKind.i64 (i + (1 : Int)) ∧ ∃ (i' : Int), ogI x i' ∧ List.length (groupsOf x) - Int.toNat i' < List.length (groupsOf x) - Int.toNat i ∧ (AV.sl false (0 : Nat) (4 : Nat) Nd (ndA false) x = AV.sl false (0 : Nat) (4 : Nat) Nd (ndA false) x ∧ AV.sl true (0 : Nat) (2 : Nat) Gr (grA false) (ogO x (i + (1 : Int))) = AV.sl true (0 : Nat) (2 : Nat) Gr (grA false) (ogO x i') ∧ AV.sl true (0 : Nat) (2 : Nat) Gr (grA false) (groupsOf x) = AV.sl true (0 : Nat) (2 : Nat) Gr (grA false) (groupsOf x) ∧ i + (1 : Int) = i' ∧ True) ∧ True)) (∃ (y : Unit), True ∧ AV.sl true (0 : Nat) (2 : Nat) Gr (grA false) (ogO x i) = AV.sl true (0 : Nat) (2 : Nat) Gr (grA false) (orderedG x) ∧ True)) := by kernel_rfl
set_option maxHeartbeats 4000000 in
theorem sOrderedGroups_ok  : Contract G Tryz.prog 18 s_sOrderedGroups :=
  vcFun_ok (Γ := Γof [(61, 0, s_hGroupsOf), (62, 0, s_sGroupKey)]) (E := Eof [(30, ⟨Gr,grA false⟩)]) (ov := false) (L := fun x => Lof ([(4,lSog x)])) Tryz.func18 rfl (by decide) (Γof_ok (l := [(61, 0, s_hGroupsOf), (62, 0, s_sGroupKey)]) ⟨hGroupsOf_ok, sGroupKey_ok, trivial⟩) fun (x : List Nd) (hx : (okNds x ∧ x.length ≤ 2 ^ 30) ∧ txtB x) => (sOrderedGroups_vc  x).mpr (by
  obtain ⟨⟨h1, h2⟩, h3⟩ := hx
  (repeat' first | with_reducible rfl | exact True.intro | refine inR_i64 ?_ ?_ | with_reducible refine And.intro ?_ ?_ | with_reducible refine bcase_dec (fun _ => ?_) (fun _ => ?_) | with_reducible refine bcase_bne (fun _ => ?_) (fun _ => ?_) | with_reducible refine bcase_beq (fun _ => ?_) (fun _ => ?_) | with_reducible refine bcase_not (fun _ => ?_) (fun _ => ?_) | refine bcase_intro (fun _ => ?_) (fun _ => ?_) | refine sl_eq ?_ | refine ex_flip () ?_ ?_ | (apply ex_flip6 <;> try dsimp only) | (apply ex_flip5 <;> try dsimp only) | (apply ex_flip4 <;> try dsimp only) | (apply ex_flip3 <;> try dsimp only) | (apply ex_flip2 <;> try dsimp only) | apply ex_flip | (refine Prod.forall.2 ?_; intro _; try dsimp only) | (intro _; try dsimp only))
  all_goals (repeat (rename (groupsOf x)[Int.toNat _]? = some _ => hq; revert hq; rename (groupsOf x)[Int.toNat _]? = some _ => hr; intro hq; rw [hr] at hq; cases hq))
  all_goals first
    | rfl
    | exact h1
    | exact h2
    | exact h3.1
    | exact h3.2 _ (by assumption)
    | exact ogO_0.symm
    | exact ogN_0
    | exact ⟨by omega, by omega⟩
    | exact ogM_put (by assumption) (by assumption) (by assumption) (by assumption) (by assumption) (by assumption)
    | exact ogM_no (by assumption) (by assumption) (by assumption) (by assumption) (by assumption) (by assumption)
    | exact ogM_yes (by assumption) (by assumption) (by assumption)
    | exact ogM_out (by assumption) (by assumption)
    | exact ogI_end (by assumption) (by assumption)
    | (exact ogN_d1 (by assumption) (by rename_i q1; first | exact q1 | assumption) (by assumption) (by assumption))
    | (have hp := (show _ = false by assumption); subst hp; exact ogN_d1 (by assumption) (by assumption) (by assumption) (by assumption))
    | (have hp := (show _ = true by assumption); subst hp; exact ogN_d2 (by assumption) (by assumption) (by assumption) (by assumption))
    | (have hi := (show ogI _ _ by assumption); have := hi.1; have := hi.2; have hg := (@groupsOf_len x).1; (try simp only [i64max]); omega)
    | (have hn := (show ogN _ _ _ _ _ by assumption); have := hn.1; have := hn.2.1; have hg := ogN_len hn; (try simp only [i64max, room, List.length_cons, List.length_nil]); omega)
    | (have hn := (show ogN _ _ _ _ _ by assumption); have := hn.1; have := hn.2.1; have hg := @ogO_len x (by assumption); (try simp only [i64max, room, List.length_cons, List.length_nil]); omega)
    | (have hn := (show ogM _ _ _ _ _ by assumption); have := hn.1; have := hn.2.1; have hg := ogM_len hn; (try simp only [i64max, room, List.length_cons, List.length_nil]); omega)
    | (have hi := (show ogI _ _ by assumption).1; exact ⟨by omega, by omega⟩)
    | skip)

theorem orderedG_len {ns : List Nd} : mkB (orderedG ns) ∧ smallGrs (orderedG ns) := by
  have h := @groupsOf_len ns
  have h2 : ∀ g ∈ orderedG ns, g.notes.length ≤ 12 := fun g hg => h.2 g ((isort_perm (lt := ltG ns) (l := groupsOf ns)).mem_iff.1 hg)
  have h3 : (orderedG ns).length ≤ 12 := by rw [orderedG, isort_len]; exact h.1
  exact ⟨⟨h3, h2⟩, by omega, fun g hg => by have := h2 g hg; omega⟩
theorem fz_hgrs {l : List Gr} : AV.sl false 0 2 Gr (fun x => fzL (grA false x)) l = AV.sl false 0 2 Gr (grA false) l := rfl
theorem totG_nn : ∀ l : List Gr, 0 ≤ totG l
  | [] => Int.le_refl 0
  | x :: l => by have := totG_nn l; simp only [totG]; omega
theorem mkGs_tot : ∀ (l : List Gr) (k : Int), totG (mkGs k l) = totG l
  | [], k => rfl
  | x :: l, k => by simp only [mkGs, totG, mkGs_tot l]; simp [mkG, mkI_len]
theorem mkGs_idem : ∀ (l : List Gr) (k : Int), mkGs k l = mkGs k (mkGs k l)
  | [], k => rfl
  | x :: l, k => by
    simp only [mkGs]
    have e : (mkG k x).notes.length = x.notes.length := by simp [mkG, mkI_len]
    rw [e, ← mkGs_idem l]
    simp [mkG, mkI_len]
theorem mkGs_B {l : List Gr} (k : Int) (h : mkB l) : mkB (mkGs k l) := by
  refine ⟨by rw [mkGs_len]; exact h.1, ?_⟩
  have : ∀ (l : List Gr) (k : Int), (∀ g ∈ l, g.notes.length ≤ 12) → ∀ g ∈ mkGs k l, g.notes.length ≤ 12 := by
    intro l
    induction l with
    | nil => intro k _ g hg; cases hg
    | cons x l ih =>
      intro k hl g hg
      rcases List.mem_cons.1 hg with e | e
      · subst e; simp only [mkG, mkI_len]; exact hl x (by simp)
      · exact ih _ (fun y hy => hl y (by simp [hy])) g e
  exact this l k h.2
end Go.My
end
section
/- A right tree is gone through once: how many nodes are met below its last one. -/
set_option linter.unusedVariables false
set_option linter.unusedSimpArgs false
namespace Go.My
open Go.Eng

def kidsOf (ns : List Nd) (k : Int) : List Int := (ndAt ns k).kids
def vis (ns : List Nd) : Nat → Int → List Int
  | 0, _ => []
  | n + 1, k => k :: (kidsOf ns k).flatMap (vis ns n)
def WL (ns : List Nd) : Nat → List Int → List Int
  | 0, _ => []
  | n + 1, l => l ++ WL ns n (l.flatMap (kidsOf ns))
theorem visL_len {ns : List Nd} : ∀ {n : Nat} {l : List Int}, (l.flatMap (vis ns n)).length = (WL ns n l).length
  | 0, l => by
    have : l.flatMap (vis ns 0) = [] := by simp [vis]
    rw [this]; rfl
  | n + 1, l => by
    rw [WL, List.length_append, ← visL_len (l := l.flatMap (kidsOf ns)), List.flatMap_assoc]
    have : ∀ l : List Int, (l.flatMap (vis ns (n + 1))).length = l.length + (l.flatMap fun x => (kidsOf ns x).flatMap (vis ns n)).length := by
      intro l
      induction l with
      | nil => rfl
      | cons k l ih =>
        rw [List.flatMap_cons, List.flatMap_cons, List.length_append, List.length_append, ih, vis, List.length_cons, List.length_cons]; omega
    rw [this]
theorem WL_K {ns : List Nd} : ∀ {n : Nat} {l : List Int}, WL ns n (l.flatMap (kidsOf ns)) = (WL ns n l).flatMap (kidsOf ns)
  | 0, l => rfl
  | n + 1, l => by rw [WL, WL, List.flatMap_append, WL_K (l := l.flatMap (kidsOf ns))]
theorem WL_succ {ns : List Nd} {n : Nat} {l : List Int} : WL ns (n + 1) l = l ++ (WL ns n l).flatMap (kidsOf ns) := by rw [WL, WL_K]
/- a list without doubles, below a bound -/
theorem sum_le (f : Int → Nat) : ∀ (n : Nat) (V : List Int), V.Nodup → (∀ p ∈ V, 0 ≤ p ∧ p < n) → (V.map f).sum ≤ ((List.range n).map fun i : Nat => f i).sum
  | 0, V, _, h => by
    have : V = [] := by
      cases V with
      | nil => rfl
      | cons p V => have := h p (by simp); omega
    subst this; simp
  | n + 1, V, hn, h => by
    rw [List.range_succ, List.map_append, List.sum_append]
    by_cases hm : (n : Int) ∈ V
    · have hp := List.perm_cons_erase hm
      have e : (V.map f).sum = f n + ((V.erase n).map f).sum := by
        have := (hp.map f).sum_nat
        rw [this]; simp
      have h2 := sum_le f n (V.erase n) (hn.erase _) (fun p hp => by
        have h3 := (List.Nodup.mem_erase_iff hn).1 hp
        have := h p h3.2
        have h4 := h3.1
        omega)
      rw [e]; simp; omega
    · have h2 := sum_le f n V hn (fun p hp => by
        have := h p hp
        have : p ≠ n := fun e => hm (e ▸ hp)
        omega)
      simp; omega
theorem length_le_of {V : List Int} {n : Nat} (hn : V.Nodup) (h : ∀ p ∈ V, 0 ≤ p ∧ p < n) : V.length ≤ n := by
  have := sum_le (fun _ => 1) n V hn h
  have e1 : ∀ l : List Int, (l.map fun _ => 1).sum = l.length := by
    intro l; induction l with
    | nil => rfl
    | cons a l ih => simp only [List.map_cons, List.sum_cons, ih, List.length_cons]; omega
  have e2 : ∀ l : List Nat, (l.map fun _ => 1).sum = l.length := by
    intro l; induction l with
    | nil => rfl
    | cons a l ih => simp only [List.map_cons, List.sum_cons, ih, List.length_cons]; omega
  rw [e1, e2, List.length_range] at this; exact this
theorem ns_range {ns : List Nd} : ns = (List.range ns.length).map fun i : Nat => ndAt ns i := by
  apply List.ext_getElem?
  intro i
  by_cases h : i < ns.length
  · have : ns[i]? = some ns[i] := by simp
    rw [List.getElem?_map, List.getElem?_range h, this]
    simp only [Option.map_some]
    congr 1
    exact (ndAt_of (c := (i : Int)) (by simp)).symm
  · rw [List.getElem?_eq_none (by omega), List.getElem?_eq_none (by simp; omega)]
theorem count_kids {ns : List Nd} {j : Int} : (allKids ns).count j = ((List.range ns.length).map fun i : Nat => (kidsOf ns i).count j).sum := by
  have h : allKids ns = ((List.range ns.length).map fun i : Nat => ndAt ns i).flatMap (·.kids) := by rw [← ns_range]; rfl
  rw [h, List.count_flatMap, List.map_map]; rfl
theorem sum_zero : ∀ {l : List Nat}, (∀ m ∈ l, m = 0) → l.sum = 0
  | [], _ => rfl
  | m :: l, h => by rw [List.sum_cons, h m (by simp), sum_zero fun n hn => h n (by simp [hn])]
def tree1 (ns : List Nd) : Prop := (∀ i : Nat, i < ns.length → nodeOk ns i = true) ∧ ∀ i : Nat, i < ns.length - 1 → (allKids ns).count (i : Int) = 1
theorem WL_nodup {ns : List Nd} (h : tree1 ns) (h0 : 1 ≤ ns.length) : ∀ n : Nat, (WL ns n [(ns.length : Int) - 1]).Nodup ∧ ∀ p ∈ WL ns n [(ns.length : Int) - 1], 0 ≤ p ∧ p < ns.length
  | 0 => ⟨List.nodup_nil, fun p hp => by cases hp⟩
  | n + 1 => by
    obtain ⟨ih1, ih2⟩ := WL_nodup h h0 n
    rw [WL_succ]
    have hk : ∀ p ∈ WL ns n [(ns.length : Int) - 1], ∀ c ∈ kidsOf ns p, 0 ≤ c ∧ c < p := by
      intro p hp c hc
      have h2 := ih2 p hp
      have h3 := h.1 p.toNat (by omega)
      have e : ((p.toNat : Nat) : Int) = p := by omega
      rw [e] at h3
      exact (nodeOk_parts h3).2.2.2.1 c hc
    refine ⟨?_, ?_⟩
    · rw [List.nodup_iff_count]
      intro j
      rw [List.count_append, List.count_flatMap]
      by_cases hj : j = (ns.length : Int) - 1
      · subst hj
        have : ((WL ns n [(ns.length : Int) - 1]).map (List.count ((ns.length : Int) - 1) ∘ kidsOf ns)).sum = 0 := by
          refine sum_zero fun m hm => ?_
          obtain ⟨p, hp, rfl⟩ := List.mem_map.1 hm
          simp only [Function.comp]
          rw [List.count_eq_zero]
          intro hc
          have := hk p hp _ hc
          have := ih2 p hp
          omega
        rw [this]; simp
      · have h1 : List.count j [(ns.length : Int) - 1] = 0 := by
          rw [List.count_eq_zero]; simpa using hj
        have h2 := sum_le (fun p => (kidsOf ns p).count j) ns.length _ ih1 ih2
        rw [← count_kids] at h2
        have h3 : (allKids ns).count j ≤ 1 := by
          by_cases hr : 0 ≤ j ∧ j < ns.length
          · have := h.2 j.toNat (by omega)
            rw [show ((j.toNat : Nat) : Int) = j by omega] at this; omega
          · have : (allKids ns).count j = 0 := by
              rw [List.count_eq_zero]
              intro hm
              obtain ⟨y, hy, hc⟩ := List.mem_flatMap.1 hm
              obtain ⟨i, hi⟩ := List.mem_iff_getElem?.1 hy
              have hlt := (getE hi).1
              have := (nodeOk_parts (h.1 i hlt)).2.2.2.1 j
              rw [ndAt_of (c := (i : Int)) (by simpa using hi)] at this
              have := this hc
              omega
            omega
        rw [h1]
        have e : (List.count j ∘ kidsOf ns) = fun p => (kidsOf ns p).count j := rfl
        rw [e]; omega
    · intro p hp
      rcases List.mem_append.1 hp with hp | hp
      · simp at hp; omega
      · obtain ⟨q, hq, hc⟩ := List.mem_flatMap.1 hp
        have := hk q hq p hc
        have := ih2 q hq
        omega
theorem tree1_of {ns : List Nd} (h : treeOk ns = true) : tree1 ns ∧ 1 ≤ ns.length ∧ ns.length ≤ 300 ∧ okUp ns ((ns.length : Int) - 1) := by
  simp only [treeOk, Bool.and_eq_true, decide_eq_true_eq, Bool.not_eq_true', decide_eq_false_iff_not, List.all_eq_true, List.mem_range] at h
  have hu := okUp_of h.2.2.1
  refine ⟨⟨fun i hi => hu.2 i (by omega), fun i hi => ?_⟩, h.1.1, h.1.2, hu⟩
  exact h.2.2.2 i hi
theorem vis_len {ns : List Nd} {n : Nat} (h : treeOk ns = true) : (vis ns n ((ns.length : Int) - 1)).length ≤ 300 := by
  obtain ⟨h1, h2, h3, _⟩ := tree1_of h
  have e := @visL_len ns n [(ns.length : Int) - 1]
  simp only [List.flatMap_cons, List.flatMap_nil, List.append_nil] at e
  rw [e]
  have := WL_nodup h1 h2 n
  have := length_le_of this.1 this.2
  omega
/- the visits below kids -/
def visK (ns : List Nd) (n : Nat) (l : List Int) : Nat := (l.flatMap (vis ns n)).length
theorem vis_succ {ns : List Nd} {n : Nat} {k : Int} : (vis ns (n + 1) k).length = 1 + visK ns n (kidsOf ns k) := by rw [vis, List.length_cons, visK]; omega
theorem visK_cons {ns : List Nd} {n : Nat} {c : Int} {l : List Int} : visK ns n (c :: l) = (vis ns n c).length + visK ns n l := by simp [visK]
theorem visK_drop {ns : List Nd} {n : Nat} {i : Nat} {c : Int} {l : List Int} (h : l[i]? = some c) : visK ns n (l.drop i) = (vis ns n c).length + visK ns n (l.drop (i + 1)) := by
  rw [dropE h, visK_cons]
theorem visK_pos {ns : List Nd} {n : Nat} {k : Int} : 1 ≤ (vis ns (n + 1) k).length := by rw [vis_succ]; omega
end Go.My
end
