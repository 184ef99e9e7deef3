/- The laws' own helpers: sizes, copies, comparisons. -/
import Derived.Test.YtmoanfgmfbclpaaMyBase
import Derived.Test.YtmoanfgmfbclpaaProg
set_option linter.unusedVariables false
namespace Go.My
open Go.Eng Go.Proofs

def sSzInts : Sig := {
  X := List Int × Int, args := fun x => [ints x.1, .int .i64 x.2], pre := fun x => -1 ≤ x.2 ∧ x.2 ≤ 2 ^ 50 ∧ x.1.length < 2 ^ 63, Y := Unit, post := fun _ _ => True,
  res := fun x _ => .int .i64 (szInts x.1 x.2), outs := fun _ _ => [.top, .top], keep := false }
theorem szIntS_eq (x : List Int × Int) : vcFun Go.Proofs.Try.prog (Γof []) (Eof []) false (Lof ([])) Go.Proofs.Try.f13.ntmps Go.Proofs.Try.f13.results.toList (Go.Proofs.Try.f13.body.getD .skip) (sSzInts) x = ((∀ (y : Unit), True → True ∧ True ∧ True ∧ True) ∧ inR IntKind.i64 (x.snd - (↑(List.length x.fst) : Int)) ∧ bcase (decide (x.snd - (↑(List.length x.fst) : Int) < (0 : Int))) (∃ (y : Unit), True ∧ (-1 : Int) = szInts x.fst x.snd ∧ True) (∃ (y : Unit), True ∧ x.snd - (↑(List.length x.fst) : Int) = szInts x.fst x.snd ∧ True)) := by kernel_rfl
--proofs
theorem szInts_le {l : List Int} {n : Int} (h : -1 ≤ n) : -1 ≤ szInts l n ∧ szInts l n ≤ n := by
  unfold szInts; split <;> omega
theorem szIntS_ok : Contract Try.prog 13 sSzInts := 
  vcFun_ok (Γ := Γof []) (E := Eof []) (ov := false) (L := fun x => Lof ([])) Try.func13 rfl (by decide) (Γof_ok (l := []) trivial) fun (x : List Int × Int) hx => (szIntS_eq x).mpr  (by
  obtain ⟨h1, h2, h3⟩ := hx
  (repeat' first | with_reducible rfl | exact True.intro | refine inR_i64 ?_ ?_ | with_reducible refine And.intro ?_ ?_ | refine bcase_dec (fun _ => ?_) (fun _ => ?_) | refine bcase_bne (fun _ => ?_) (fun _ => ?_) | refine bcase_beq (fun _ => ?_) (fun _ => ?_) | refine bcase_not (fun _ => ?_) (fun _ => ?_) | refine bcase_intro (fun _ => ?_) (fun _ => ?_) | refine sl_eq ?_ | refine ex_flip () ?_ ?_ | (apply ex_flip6 <;> try dsimp only) | (apply ex_flip5 <;> try dsimp only) | (apply ex_flip4 <;> try dsimp only) | (apply ex_flip3 <;> try dsimp only) | (apply ex_flip2 <;> try dsimp only) | apply ex_flip | (refine Prod.forall.2 ?_; intro _; try dsimp only) | (intro _; try dsimp only)) <;> (try dsimp only at *) <;> (try simp only [i64max, List.length_cons, List.length_nil]) <;> (try omega) <;> unfold szInts <;> split <;> omega)
--end

def sSzNd : Sig := {
  X := Nd × Int, args := fun x => [.agg (ndA false x.1), .int .i64 x.2], pre := fun x => -1 ≤ x.2 ∧ x.2 ≤ 2 ^ 50 ∧ smallNd x.1, Y := Unit, post := fun _ _ => True,
  res := fun x _ => .int .i64 (szNd x.1 x.2), outs := fun _ _ => [.top, .top], keep := false }
theorem szNode_eq (x : Nd × Int) : vcFun Go.Proofs.Try.prog (Γof [(13, sSzInts)]) (Eof []) false (Lof ([])) Go.Proofs.Try.f12.ntmps Go.Proofs.Try.f12.results.toList (Go.Proofs.Try.f12.body.getD .skip) (sSzNd) x = ((∀ (y : Unit), True → True ∧ True ∧ True ∧ True) ∧ inR IntKind.i64 (x.snd - (↑(List.length x.fst.text) : Int)) ∧ bcase (decide (x.snd - (↑(List.length x.fst.text) : Int) < (0 : Int))) (∃ (y : Unit), True ∧ (-1 : Int) = szNd x.fst x.snd ∧ True) (∃ (x_1 : List Int × Int), ((-1 : Int) ≤ x_1.snd ∧ x_1.snd ≤ (2 : Int) ^ (50 : Nat) ∧ List.length x_1.fst < (9223372036854775808 : Nat)) ∧ AV.sl false (0 : Nat) (1 : Nat) Int intA x.fst.kids = AV.sl false (0 : Nat) (1 : Nat) Int intA x_1.fst ∧ x.snd - (↑(List.length x.fst.text) : Int) = x_1.snd ∧ ∀ (y : Unit), True → bcase (decide (szInts x_1.fst x_1.snd < (0 : Int))) (∃ (y : Unit), True ∧ (-1 : Int) = szNd x.fst x.snd ∧ True) (∃ (y : Unit), True ∧ szInts x_1.fst x_1.snd = szNd x.fst x.snd ∧ True))) := by kernel_rfl
--proofs
theorem szNd_le {l : Nd} {n : Int} (h : -1 ≤ n) : -1 ≤ szNd l n ∧ szNd l n ≤ n := by
  unfold szNd; split
  · omega
  · have := @szInts_le l.kids (n - l.text.length) (by omega); omega
theorem szNode_ok : Contract Try.prog 12 sSzNd := 
  vcFun_ok (Γ := Γof [(13, sSzInts)]) (E := Eof []) (ov := false) (L := fun x => Lof ([])) Try.func12 rfl (by decide) (Γof_ok (l := [(13, sSzInts)]) ⟨szIntS_ok, trivial⟩) fun (x : Nd × Int) hx => (szNode_eq x).mpr  (by
  obtain ⟨h1, h2, h3, h4⟩ := hx
  (repeat' first | with_reducible rfl | exact True.intro | refine inR_i64 ?_ ?_ | with_reducible refine And.intro ?_ ?_ | refine bcase_dec (fun _ => ?_) (fun _ => ?_) | refine bcase_bne (fun _ => ?_) (fun _ => ?_) | refine bcase_beq (fun _ => ?_) (fun _ => ?_) | refine bcase_not (fun _ => ?_) (fun _ => ?_) | refine bcase_intro (fun _ => ?_) (fun _ => ?_) | refine sl_eq ?_ | refine ex_flip () ?_ ?_ | (apply ex_flip6 <;> try dsimp only) | (apply ex_flip5 <;> try dsimp only) | (apply ex_flip4 <;> try dsimp only) | (apply ex_flip3 <;> try dsimp only) | (apply ex_flip2 <;> try dsimp only) | apply ex_flip | (refine Prod.forall.2 ?_; intro _; try dsimp only) | (intro _; try dsimp only)) <;> (try dsimp only at *) <;> (try simp only [i64max, List.length_cons, List.length_nil]) <;> (try omega)
  · simp [szNd, *]
  · rename_i h _ _ h'; unfold szNd; rw [if_neg h]
    have := @szInts_le x.1.kids (x.2 - x.1.text.length) (by omega); omega
  · rename_i h _ _ h'; simp [szNd, h])
--end

def sSzNds : Sig := {
  X := List Nd × Int, args := fun x => [nds x.1, .int .i64 x.2], pre := fun x => -1 ≤ x.2 ∧ x.2 ≤ 2 ^ 50 ∧ smallNds x.1, Y := Unit, post := fun _ _ => True,
  res := fun x _ => .int .i64 (szNds x.1 x.2), outs := fun _ _ => [.top, .top], keep := false }
def lSzNds (x : List Nd × Int) : LS := {
  ι := Int × Int, inv := fun i => 0 ≤ i.1 ∧ i.1 ≤ x.1.length ∧ -1 ≤ i.2 ∧ i.2 ≤ 2 ^ 50 ∧ szAll (x.1.drop i.1.toNat) i.2 = szNds x.1 x.2,
  regs := fun i => [(0, nds x.1), (1, .int .i64 i.2), (5, .int .i64 i.1)], als := [], meas := fun i => x.1.length - i.1.toNat }
theorem szNodeS_eq (x : List Nd × Int) : vcFun Go.Proofs.Try.prog (Γof [(12, sSzNd)]) (Eof []) false (Lof ([(5,lSzNds x)])) Go.Proofs.Try.f4.ntmps Go.Proofs.Try.f4.results.toList (Go.Proofs.Try.f4.body.getD .skip) (sSzNds) x = ((∀ (y : Unit), True → True ∧ True ∧ True ∧ True) ∧ inR IntKind.i64 (x.snd - (↑(List.length x.fst) : Int)) ∧ bcase (decide (x.snd - (↑(List.length x.fst) : Int) < (0 : Int))) (∃ (y : Unit), True ∧ (-1 : Int) = szNds x.fst x.snd ∧ True) ((∃ (i : Int × Int), ((0 : Int) ≤ i.fst ∧ i.fst ≤ (↑(List.length x.fst) : Int) ∧ (-1 : Int) ≤ i.snd ∧ i.snd ≤ (2 : Int) ^ (50 : Nat) ∧ szAll (List.drop (Int.toNat i.fst) x.fst) i.snd = szNds x.fst x.snd) ∧ (AV.sl false (0 : Nat) (4 : Nat) Nd (ndA false) x.fst = AV.sl false (0 : Nat) (4 : Nat) Nd (ndA false) x.fst ∧ x.snd - (↑(List.length x.fst) : Int) = i.snd ∧ (0 : Int) = i.fst ∧ True) ∧ True) ∧ ∀ (i : Int × Int), (0 : Int) ≤ i.fst ∧ i.fst ≤ (↑(List.length x.fst) : Int) ∧ (-1 : Int) ≤ i.snd ∧ i.snd ≤ (2 : Int) ^ (50 : Nat) ∧ szAll (List.drop (Int.toNat i.fst) x.fst) i.snd = szNds x.fst x.snd → bcase (decide (i.fst < (↑(List.length x.fst) : Int))) (((0 : Int) ≤ i.fst ∧ i.fst < (↑(List.length x.fst) : Int)) ∧ ∀ (e : Nd), x.fst[Int.toNat i.fst]? = some e → ∃ (x_1 : Nd × Int), ((-1 : Int) ≤ x_1.snd ∧ x_1.snd ≤ (2 : Int) ^ (50 : Nat) ∧ smallNd x_1.fst) ∧ e.kind = x_1.fst.kind ∧ e.text = x_1.fst.text ∧ AV.sl false (0 : Nat) (1 : Nat) Int intA e.kids = AV.sl false (0 : Nat) (1 : Nat) Int intA x_1.fst.kids ∧ e.blank = x_1.fst.blank ∧ i.snd = x_1.snd ∧ ∀ (y : Unit), True → bcase (decide (szNd x_1.fst x_1.snd < (0 : Int))) (∃ (y : Unit), True ∧ (-1 : Int) = szNds x.fst x.snd ∧ True) (inR IntKind.i64 (i.fst + (1 : Int)) ∧ ∃ (i' : Int × Int), ((0 : Int) ≤ i'.fst ∧ i'.fst ≤ (↑(List.length x.fst) : Int) ∧ (-1 : Int) ≤ i'.snd ∧ i'.snd ≤ (2 : Int) ^ (50 : Nat) ∧ szAll (List.drop (Int.toNat i'.fst) x.fst) i'.snd = szNds x.fst x.snd) ∧ List.length x.fst - Int.toNat i'.fst < List.length x.fst - Int.toNat i.fst ∧ (AV.sl false (0 : Nat) (4 : Nat) Nd (ndA false) x.fst = AV.sl false (0 : Nat) (4 : Nat) Nd (ndA false) x.fst ∧ szNd x_1.fst x_1.snd = i'.snd ∧ i.fst + (1 : Int) = i'.fst ∧ True) ∧ True)) (∃ (y : Unit), True ∧ i.snd = szNds x.fst x.snd ∧ True))) := by kernel_rfl
--proofs
theorem szNodeS_ok : Contract Try.prog 4 sSzNds := 
  vcFun_ok (Γ := Γof [(12, sSzNd)]) (E := Eof []) (ov := false) (L := fun x => Lof ([(5,lSzNds x)])) Try.func4 rfl (by decide) (Γof_ok (l := [(12, sSzNd)]) ⟨szNode_ok, trivial⟩) fun (x : List Nd × Int) hx => (szNodeS_eq x).mpr  (by
  obtain ⟨h1, h2, h3, h4⟩ := hx; obtain ⟨l, n⟩ := x
  (repeat' first | with_reducible rfl | exact True.intro | refine inR_i64 ?_ ?_ | with_reducible refine And.intro ?_ ?_ | refine bcase_dec (fun _ => ?_) (fun _ => ?_) | refine bcase_bne (fun _ => ?_) (fun _ => ?_) | refine bcase_beq (fun _ => ?_) (fun _ => ?_) | refine bcase_not (fun _ => ?_) (fun _ => ?_) | refine bcase_intro (fun _ => ?_) (fun _ => ?_) | refine sl_eq ?_ | refine ex_flip () ?_ ?_ | (apply ex_flip6 <;> try dsimp only) | (apply ex_flip5 <;> try dsimp only) | (apply ex_flip4 <;> try dsimp only) | (apply ex_flip3 <;> try dsimp only) | (apply ex_flip2 <;> try dsimp only) | apply ex_flip | (refine Prod.forall.2 ?_; intro _; try dsimp only) | (intro _; try dsimp only)) <;> (try dsimp only at *) <;> (try simp only [i64max, List.length_cons, List.length_nil]) <;> (try omega)
  all_goals try simp only at *
  · simp [szNds, *]
  · simp [szNds, *]
  · rename_i h0 i s hi h e he _ _ hs
    rw [← hi.2.2.2.2, dropE he]; simp [szAll, hs]
  · rename_i h0 i s hi h e he _ _ hs
    have := @szNd_le e s hi.2.2.1; omega
  · rename_i h0 i s hi h e he _ _ hs
    rw [← hi.2.2.2.2, dropE he, toNat1 hi.1]; simp [szAll, hs]
  · rename_i h0 i s hi h e he
    exact h4 e (memE he)
  · rename_i h0 i s hi h
    rw [← hi.2.2.2.2, List.drop_eq_nil_of_le (by omega)]; rfl)
--end

def sToInts : Sig := {
  X := List Int, args := fun x => [ints x], pre := fun x => x.length ≤ 2 ^ 30, Y := Unit, post := fun _ _ => True,
  res := fun x _ => oints x, outs := fun _ _ => [.top], keep := false }
def lToInts (x : List Int) : LS := {
  ι := Int, inv := fun i => 0 ≤ i ∧ i ≤ x.length, regs := fun i => [(0, ints x), (3, oints (fillL 0 x i)), (4, .int .i64 i)], als := [], meas := fun i => x.length - i.toNat }
theorem toIntS_eq (x : List Int) : vcFun Go.Proofs.Try.prog (Γof []) (Eof [(23,⟨Int,intA⟩)]) false (Lof ([(3,lToInts x)])) Go.Proofs.Try.f16.ntmps Go.Proofs.Try.f16.results.toList (Go.Proofs.Try.f16.body.getD .skip) (sToInts) x = ((∀ (y : Unit), True → (∀ (x : Int), True ∧ True) ∧ True ∧ True) ∧ ((0 : Int) ≤ (↑(List.length x) : Int) ∧ (↑(List.length x) : Int) ≤ (↑(List.length x) : Int) ∧ (↑(8 : Nat) : Int) * (↑(List.length x) : Int) ≤ (2 : Int) ^ (46 : Nat) ∧ (↑(List.length x) : Int) ≤ (2 : Int) ^ (46 : Nat)) ∧ ∃ (x_1 : Int), (0 : Int) = x_1 ∧ (∃ (i : Int), ((0 : Int) ≤ i ∧ i ≤ (↑(List.length x) : Int)) ∧ (AV.sl false (0 : Nat) (1 : Nat) Int intA x = AV.sl false (0 : Nat) (1 : Nat) Int intA x ∧ AV.sl true (0 : Nat) (1 : Nat) Int intA (List.replicate (Int.toNat (↑(List.length x) : Int)) x_1) = AV.sl true (0 : Nat) (1 : Nat) Int intA (fillL (0 : Int) x i) ∧ (0 : Int) = i ∧ True) ∧ True) ∧ ∀ (i : Int), (0 : Int) ≤ i ∧ i ≤ (↑(List.length x) : Int) → bcase (decide (i < (↑(List.length x) : Int))) (((0 : Int) ≤ i ∧ i < (↑(List.length x) : Int)) ∧ ∀ (e : Int), x[Int.toNat i]? = some e → ((0 : Int) ≤ i ∧ i < (↑(List.length (fillL (0 : Int) x i)) : Int)) ∧ Int.toNat i < List.length (fillL (0 : Int) x i) ∧ ∀ (x_2 : Int), (fillL (0 : Int) x i)[Int.toNat i]? = some x_2 → ∃ (x' : Int), ((@List.nil AV) = [] ∧ (@List.nil AV) = []) ∧ e = x' ∧ inR IntKind.i64 (i + (1 : Int)) ∧ ∃ (i' : Int), ((0 : Int) ≤ i' ∧ i' ≤ (↑(List.length x) : Int)) ∧ List.length x - Int.toNat i' < List.length x - Int.toNat i ∧ (AV.sl false (0 : Nat) (1 : Nat) Int intA x = AV.sl false (0 : Nat) (1 : Nat) Int intA x ∧ AV.sl true (0 : Nat) (1 : Nat) Int intA (List.set (fillL (0 : Int) x i) (Int.toNat i) x') = AV.sl true (0 : Nat) (1 : Nat) Int intA (fillL (0 : Int) x i') ∧ i + (1 : Int) = i' ∧ True) ∧ True) (∃ (y : Unit), True ∧ AV.sl true (0 : Nat) (1 : Nat) Int intA (fillL (0 : Int) x i) = AV.sl true (0 : Nat) (1 : Nat) Int intA x ∧ True)) := by kernel_rfl
--proofs
theorem toIntS_ok : Contract Try.prog 16 sToInts := 
  vcFun_ok (Γ := Γof []) (E := Eof [(23,⟨Int,intA⟩)]) (ov := false) (L := fun x => Lof ([(3,lToInts x)])) Try.func16 rfl (by decide) (Γof_ok (l := []) trivial) fun (x : List Int) hx => (toIntS_eq x).mpr  (by
  have hx : x.length ≤ 2 ^ 30 := hx
  (repeat' first | with_reducible rfl | exact True.intro | refine inR_i64 ?_ ?_ | with_reducible refine And.intro ?_ ?_ | refine bcase_dec (fun _ => ?_) (fun _ => ?_) | refine bcase_bne (fun _ => ?_) (fun _ => ?_) | refine bcase_beq (fun _ => ?_) (fun _ => ?_) | refine bcase_not (fun _ => ?_) (fun _ => ?_) | refine bcase_intro (fun _ => ?_) (fun _ => ?_) | refine sl_eq ?_ | refine ex_flip () ?_ ?_ | (apply ex_flip6 <;> try dsimp only) | (apply ex_flip5 <;> try dsimp only) | (apply ex_flip4 <;> try dsimp only) | (apply ex_flip3 <;> try dsimp only) | (apply ex_flip2 <;> try dsimp only) | apply ex_flip | (refine Prod.forall.2 ?_; intro _; try dsimp only) | (intro _; try dsimp only)) <;> (try dsimp only at *) <;> (try simp only [i64max, List.length_cons, List.length_nil]) <;> (try omega)
  · exact fillL_zero
  · rw [fillL_length (by omega)]; omega
  · rw [fillL_length (by omega)]; omega
  · rename_i i hi h e he _ _
    exact fillL_set hi.1 he
  · exact fillL_all (by omega))
--end

def sToNd : Sig := {
  X := Nd, args := fun x => [.agg (ndA false x)], pre := fun x => x.kids.length ≤ 2 ^ 30, Y := Unit, post := fun _ _ => True,
  res := fun x _ => .agg (ndA true x), outs := fun _ _ => [.top], keep := false }
theorem toNode_eq (x : Nd) : vcFun Go.Proofs.Try.prog (Γof [(16, sToInts)]) (Eof []) false (Lof ([])) Go.Proofs.Try.f15.ntmps Go.Proofs.Try.f15.results.toList (Go.Proofs.Try.f15.body.getD .skip) (sToNd) x = ((∀ (y : Unit), True → (True ∧ True ∧ (∀ (x : Int), True ∧ True) ∧ True ∧ True) ∧ True ∧ True) ∧ ∃ (x_1 : List Int), List.length x_1 ≤ (1073741824 : Nat) ∧ AV.sl false (0 : Nat) (1 : Nat) Int intA x.kids = AV.sl false (0 : Nat) (1 : Nat) Int intA x_1 ∧ ∀ (y : Unit), True → ∃ (y : Unit), True ∧ x.kind = x.kind ∧ x.text = x.text ∧ AV.sl true (0 : Nat) (1 : Nat) Int intA x_1 = AV.sl true (0 : Nat) (1 : Nat) Int intA x.kids ∧ x.blank = x.blank ∧ True) := by kernel_rfl
--proofs
theorem toNode_ok : Contract Try.prog 15 sToNd := 
  vcFun_ok (Γ := Γof [(16, sToInts)]) (E := Eof []) (ov := false) (L := fun x => Lof ([])) Try.func15 rfl (by decide) (Γof_ok (l := [(16, sToInts)]) ⟨toIntS_ok, trivial⟩) fun (x : Nd) hx => (toNode_eq x).mpr  (by
  have hx : x.kids.length ≤ 2 ^ 30 := hx
  (repeat' first | with_reducible rfl | exact True.intro | refine inR_i64 ?_ ?_ | with_reducible refine And.intro ?_ ?_ | refine bcase_dec (fun _ => ?_) (fun _ => ?_) | refine bcase_bne (fun _ => ?_) (fun _ => ?_) | refine bcase_beq (fun _ => ?_) (fun _ => ?_) | refine bcase_not (fun _ => ?_) (fun _ => ?_) | refine bcase_intro (fun _ => ?_) (fun _ => ?_) | refine sl_eq ?_ | refine ex_flip () ?_ ?_ | (apply ex_flip6 <;> try dsimp only) | (apply ex_flip5 <;> try dsimp only) | (apply ex_flip4 <;> try dsimp only) | (apply ex_flip3 <;> try dsimp only) | (apply ex_flip2 <;> try dsimp only) | apply ex_flip | (refine Prod.forall.2 ?_; intro _; try dsimp only) | (intro _; try dsimp only)) <;> (try dsimp only at *) <;> (try simp only [i64max, List.length_cons, List.length_nil]) <;> (try omega))
--end

def sToNds : Sig := {
  X := List Nd, args := fun x => [nds x], pre := fun x => x.length ≤ 2 ^ 30 ∧ ∀ e ∈ x, e.kids.length ≤ 2 ^ 30, Y := Unit, post := fun _ _ => True,
  res := fun x _ => onds x, outs := fun _ _ => [.top], keep := false }
def lToNds (x : List Nd) : LS := {
  ι := Int, inv := fun i => 0 ≤ i ∧ i ≤ x.length, regs := fun i => [(0, nds x), (3, onds (fillL ⟨0, [], [], false⟩ x i)), (4, .int .i64 i)], als := [], meas := fun i => x.length - i.toNat }
theorem toNodeS_eq (x : List Nd) : vcFun Go.Proofs.Try.prog (Γof [(15, sToNd)]) (Eof [(29,⟨Nd,ndA true⟩)]) false (Lof ([(3,lToNds x)])) Go.Proofs.Try.f7.ntmps Go.Proofs.Try.f7.results.toList (Go.Proofs.Try.f7.body.getD .skip) (sToNds) x = ((∀ (y : Unit), True → (∀ (x : Nd), True ∧ True ∧ (∀ (x : Int), True ∧ True) ∧ True ∧ True) ∧ True ∧ True) ∧ ((0 : Int) ≤ (↑(List.length x) : Int) ∧ (↑(List.length x) : Int) ≤ (↑(List.length x) : Int) ∧ (↑(56 : Nat) : Int) * (↑(List.length x) : Int) ≤ (2 : Int) ^ (46 : Nat) ∧ (↑(List.length x) : Int) ≤ (2 : Int) ^ (46 : Nat)) ∧ ∃ (x_1 : Nd), (0 : Int) = x_1.kind ∧ #[].toList = x_1.text ∧ x_1.kids = [] ∧ false = x_1.blank ∧ (∃ (i : Int), ((0 : Int) ≤ i ∧ i ≤ (↑(List.length x) : Int)) ∧ (AV.sl false (0 : Nat) (4 : Nat) Nd (ndA false) x = AV.sl false (0 : Nat) (4 : Nat) Nd (ndA false) x ∧ AV.sl true (0 : Nat) (4 : Nat) Nd (ndA true) (List.replicate (Int.toNat (↑(List.length x) : Int)) x_1) = AV.sl true (0 : Nat) (4 : Nat) Nd (ndA true) (fillL { kind := (0 : Int), text := [], kids := [], blank := false } x i) ∧ (0 : Int) = i ∧ True) ∧ True) ∧ ∀ (i : Int), (0 : Int) ≤ i ∧ i ≤ (↑(List.length x) : Int) → bcase (decide (i < (↑(List.length x) : Int))) (((0 : Int) ≤ i ∧ i < (↑(List.length x) : Int)) ∧ ∀ (e : Nd), x[Int.toNat i]? = some e → ∃ (x_2 : Nd), List.length x_2.kids ≤ (1073741824 : Nat) ∧ e.kind = x_2.kind ∧ e.text = x_2.text ∧ AV.sl false (0 : Nat) (1 : Nat) Int intA e.kids = AV.sl false (0 : Nat) (1 : Nat) Int intA x_2.kids ∧ e.blank = x_2.blank ∧ ∀ (y : Unit), True → ((0 : Int) ≤ i ∧ i < (↑(List.length (fillL { kind := (0 : Int), text := [], kids := [], blank := false } x i)) : Int)) ∧ Int.toNat i < List.length (fillL { kind := (0 : Int), text := [], kids := [], blank := false } x i) ∧ ∀ (x_3 : Nd), (fillL { kind := (0 : Int), text := [], kids := [], blank := false } x i)[Int.toNat i]? = some x_3 → ∃ (x' : Nd), ((@List.nil AV) = [] ∧ (@List.nil AV) = []) ∧ x_2.kind = x'.kind ∧ x_2.text = x'.text ∧ AV.sl true (0 : Nat) (1 : Nat) Int intA x_2.kids = AV.sl true (0 : Nat) (1 : Nat) Int intA x'.kids ∧ x_2.blank = x'.blank ∧ inR IntKind.i64 (i + (1 : Int)) ∧ ∃ (i' : Int), ((0 : Int) ≤ i' ∧ i' ≤ (↑(List.length x) : Int)) ∧ List.length x - Int.toNat i' < List.length x - Int.toNat i ∧ (AV.sl false (0 : Nat) (4 : Nat) Nd (ndA false) x = AV.sl false (0 : Nat) (4 : Nat) Nd (ndA false) x ∧ AV.sl true (0 : Nat) (4 : Nat) Nd (ndA true) (List.set (fillL { kind := (0 : Int), text := [], kids := [], blank := false } x i) (Int.toNat i) x') = AV.sl true (0 : Nat) (4 : Nat) Nd (ndA true) (fillL { kind := (0 : Int), text := [], kids := [], blank := false } x i') ∧ i + (1 : Int) = i' ∧ True) ∧ True) (∃ (y : Unit), True ∧ AV.sl true (0 : Nat) (4 : Nat) Nd (ndA true) (fillL { kind := (0 : Int), text := [], kids := [], blank := false } x i) = AV.sl true (0 : Nat) (4 : Nat) Nd (ndA true) x ∧ True)) := by kernel_rfl
--proofs
theorem toNodeS_ok : Contract Try.prog 7 sToNds := 
  vcFun_ok (Γ := Γof [(15, sToNd)]) (E := Eof [(29,⟨Nd,ndA true⟩)]) (ov := false) (L := fun x => Lof ([(3,lToNds x)])) Try.func7 rfl (by decide) (Γof_ok (l := [(15, sToNd)]) ⟨toNode_ok, trivial⟩) fun (x : List Nd) hx => (toNodeS_eq x).mpr  (by
  obtain ⟨h1, h2⟩ := hx
  (repeat' first | with_reducible rfl | exact True.intro | refine inR_i64 ?_ ?_ | with_reducible refine And.intro ?_ ?_ | refine bcase_dec (fun _ => ?_) (fun _ => ?_) | refine bcase_bne (fun _ => ?_) (fun _ => ?_) | refine bcase_beq (fun _ => ?_) (fun _ => ?_) | refine bcase_not (fun _ => ?_) (fun _ => ?_) | refine bcase_intro (fun _ => ?_) (fun _ => ?_) | refine sl_eq ?_ | refine ex_flip () ?_ ?_ | (apply ex_flip6 <;> try dsimp only) | (apply ex_flip5 <;> try dsimp only) | (apply ex_flip4 <;> try dsimp only) | (apply ex_flip3 <;> try dsimp only) | (apply ex_flip2 <;> try dsimp only) | apply ex_flip | (refine Prod.forall.2 ?_; intro _; try dsimp only) | (intro _; try dsimp only)) <;> (try dsimp only at *) <;> (try simp only [i64max, List.length_cons, List.length_nil]) <;> (try omega)
  any_goals exact (⟨0, [], [], false⟩ : Nd)
  all_goals (try rfl)
  · rw [fillL_length (by omega)]; omega
  · rw [fillL_length (by omega)]; omega
  · rename_i i hi h e he _ _ _ _
    exact fillL_set hi.1 he
  · rename_i i hi h e he
    exact h2 e (memE he)
  · exact fillL_all (by omega))
--end

def sEqInts : Sig := {
  X := List Int × List Int, args := fun x => [ints x.1, ints x.2], pre := fun x => x.1.length < 2 ^ 63 ∧ x.2.length < 2 ^ 63, Y := Unit, post := fun _ _ => True,
  res := fun x _ => .bool (x.1 == x.2), outs := fun _ _ => [.top, .top], keep := false }
def lEqInts (x : List Int × List Int) : LS := {
  ι := Int, inv := fun i => 0 ≤ i ∧ i ≤ x.1.length ∧ x.1.take i.toNat = x.2.take i.toNat, regs := fun i => [(0, ints x.1), (1, ints x.2), (5, .int .i64 i)], als := [], meas := fun i => x.1.length - i.toNat }
theorem eqIntS_eq (x : List Int × List Int) : vcFun Go.Proofs.Try.prog (Γof []) (Eof []) false (Lof ([(4,lEqInts x)])) Go.Proofs.Try.f19.ntmps Go.Proofs.Try.f19.results.toList (Go.Proofs.Try.f19.body.getD .skip) (sEqInts) x = ((∀ (y : Unit), True → True ∧ True ∧ True ∧ True) ∧ bcase ((↑(List.length x.fst) : Int) != (↑(List.length x.snd) : Int)) (∃ (y : Unit), True ∧ false = (x.fst == x.snd) ∧ True) ((∃ (i : Int), ((0 : Int) ≤ i ∧ i ≤ (↑(List.length x.fst) : Int) ∧ List.take (Int.toNat i) x.fst = List.take (Int.toNat i) x.snd) ∧ (AV.sl false (0 : Nat) (1 : Nat) Int intA x.fst = AV.sl false (0 : Nat) (1 : Nat) Int intA x.fst ∧ AV.sl false (0 : Nat) (1 : Nat) Int intA x.snd = AV.sl false (0 : Nat) (1 : Nat) Int intA x.snd ∧ (0 : Int) = i ∧ True) ∧ True) ∧ ∀ (i : Int), (0 : Int) ≤ i ∧ i ≤ (↑(List.length x.fst) : Int) ∧ List.take (Int.toNat i) x.fst = List.take (Int.toNat i) x.snd → bcase (decide (i < (↑(List.length x.fst) : Int))) (true = true ∧ true = true ∧ ((0 : Int) ≤ i ∧ i < (↑(List.length x.fst) : Int)) ∧ ∀ (e : Int), x.fst[Int.toNat i]? = some e → ((0 : Int) ≤ i ∧ i < (↑(List.length x.snd) : Int)) ∧ ∀ (e_1 : Int), x.snd[Int.toNat i]? = some e_1 → bcase (e != e_1) (∃ (y : Unit), True ∧ false = (x.fst == x.snd) ∧ True) (inR IntKind.i64 (i + (1 : Int)) ∧ ∃ (i' : Int), ((0 : Int) ≤ i' ∧ i' ≤ (↑(List.length x.fst) : Int) ∧ List.take (Int.toNat i') x.fst = List.take (Int.toNat i') x.snd) ∧ List.length x.fst - Int.toNat i' < List.length x.fst - Int.toNat i ∧ (AV.sl false (0 : Nat) (1 : Nat) Int intA x.fst = AV.sl false (0 : Nat) (1 : Nat) Int intA x.fst ∧ AV.sl false (0 : Nat) (1 : Nat) Int intA x.snd = AV.sl false (0 : Nat) (1 : Nat) Int intA x.snd ∧ i + (1 : Int) = i' ∧ True) ∧ True)) (∃ (y : Unit), True ∧ true = (x.fst == x.snd) ∧ True))) := by kernel_rfl
--proofs
theorem eqIntS_ok : Contract Try.prog 19 sEqInts := 
  vcFun_ok (Γ := Γof []) (E := Eof []) (ov := false) (L := fun x => Lof ([(4,lEqInts x)])) Try.func19 rfl (by decide) (Γof_ok (l := []) trivial) fun (x : List Int × List Int) hx => (eqIntS_eq x).mpr  (by
  obtain ⟨h1, h2⟩ := hx
  (repeat' first | with_reducible rfl | exact True.intro | refine inR_i64 ?_ ?_ | with_reducible refine And.intro ?_ ?_ | refine bcase_dec (fun _ => ?_) (fun _ => ?_) | refine bcase_bne (fun _ => ?_) (fun _ => ?_) | refine bcase_beq (fun _ => ?_) (fun _ => ?_) | refine bcase_not (fun _ => ?_) (fun _ => ?_) | refine bcase_intro (fun _ => ?_) (fun _ => ?_) | refine sl_eq ?_ | refine ex_flip () ?_ ?_ | (apply ex_flip6 <;> try dsimp only) | (apply ex_flip5 <;> try dsimp only) | (apply ex_flip4 <;> try dsimp only) | (apply ex_flip3 <;> try dsimp only) | (apply ex_flip2 <;> try dsimp only) | apply ex_flip | (refine Prod.forall.2 ?_; intro _; try dsimp only) | (intro _; try dsimp only)) <;> (try dsimp only at *) <;> (try simp only [i64max, List.length_cons, List.length_nil]) <;> (try omega)
  · rename_i h; exact bneE (fun e => h (by rw [e]))
  · rfl
  · rename_i h i hi hl e he f hf hn
    exact bneE (fun e => hn (by rw [e, hf] at he; exact (Option.some.inj he).symm))
  · rename_i h i hi hl e he f hf hn
    exact takeEq hi.1 hi.2.2 he hf hn
  · rename_i h i hi hl
    exact beqE (takeAll (by omega) hi.2.2 (by omega)))
--end

def sEqNd : Sig := {
  X := Nd × Nd, args := fun x => [.agg (ndA false x.1), .agg (ndA false x.2)], pre := fun x => smallNd x.1 ∧ smallNd x.2, Y := Unit, post := fun _ _ => True,
  res := fun x _ => .bool (beqNd x.1 x.2), outs := fun _ _ => [.top, .top], keep := false }
theorem eqNode_eq (x : Nd × Nd) : vcFun Go.Proofs.Try.prog (Γof [(19, sEqInts)]) (Eof []) false (Lof ([])) Go.Proofs.Try.f18.ntmps Go.Proofs.Try.f18.results.toList (Go.Proofs.Try.f18.body.getD .skip) (sEqNd) x = ((∀ (y : Unit), True → True ∧ True ∧ True ∧ True) ∧ bcase (x.fst.kind != x.snd.kind) (∃ (y : Unit), True ∧ false = beqNd x.fst x.snd ∧ True) (bcase (!x.fst.text == x.snd.text) (∃ (y : Unit), True ∧ false = beqNd x.fst x.snd ∧ True) (∃ (x_1 : List Int × List Int), (List.length x_1.fst < (9223372036854775808 : Nat) ∧ List.length x_1.snd < (9223372036854775808 : Nat)) ∧ AV.sl false (0 : Nat) (1 : Nat) Int intA x.fst.kids = AV.sl false (0 : Nat) (1 : Nat) Int intA x_1.fst ∧ AV.sl false (0 : Nat) (1 : Nat) Int intA x.snd.kids = AV.sl false (0 : Nat) (1 : Nat) Int intA x_1.snd ∧ ∀ (y : Unit), True → bcase (!x_1.fst == x_1.snd) (∃ (y : Unit), True ∧ false = beqNd x.fst x.snd ∧ True) (bcase (!x.fst.blank == x.snd.blank) (∃ (y : Unit), True ∧ false = beqNd x.fst x.snd ∧ True) (∃ (y : Unit), True ∧ true = beqNd x.fst x.snd ∧ True))))) := by kernel_rfl
--proofs
theorem eqNode_ok : Contract Try.prog 18 sEqNd := 
  vcFun_ok (Γ := Γof [(19, sEqInts)]) (E := Eof []) (ov := false) (L := fun x => Lof ([])) Try.func18 rfl (by decide) (Γof_ok (l := [(19, sEqInts)]) ⟨eqIntS_ok, trivial⟩) fun (x : Nd × Nd) hx => (eqNode_eq x).mpr  (by
  obtain ⟨h1, h2⟩ := hx
  (repeat' first | with_reducible rfl | exact True.intro | refine inR_i64 ?_ ?_ | with_reducible refine And.intro ?_ ?_ | refine bcase_dec (fun _ => ?_) (fun _ => ?_) | refine bcase_bne (fun _ => ?_) (fun _ => ?_) | refine bcase_beq (fun _ => ?_) (fun _ => ?_) | refine bcase_not (fun _ => ?_) (fun _ => ?_) | refine bcase_intro (fun _ => ?_) (fun _ => ?_) | refine sl_eq ?_ | refine ex_flip () ?_ ?_ | (apply ex_flip6 <;> try dsimp only) | (apply ex_flip5 <;> try dsimp only) | (apply ex_flip4 <;> try dsimp only) | (apply ex_flip3 <;> try dsimp only) | (apply ex_flip2 <;> try dsimp only) | apply ex_flip | (refine Prod.forall.2 ?_; intro _; try dsimp only) | (intro _; try dsimp only)) <;> (try dsimp only at *) <;> (try simp only [i64max, List.length_cons, List.length_nil]) <;> (try omega)
  · simp [beqNd, *]
  · simp [beqNd, *]
  · simp [beqNd, *]
  · simp [beqNd, *]
  · simp [beqNd, *]
  · exact h1.2
  · exact h2.2)
--end

def sEqNds : Sig := {
  X := List Nd × List Nd, args := fun x => [nds x.1, nds x.2], pre := fun x => smallNds x.1 ∧ smallNds x.2, Y := Unit, post := fun _ _ => True,
  res := fun x _ => .bool (beqNds x.1 x.2), outs := fun _ _ => [.top, .top], keep := false }
def lEqNds (x : List Nd × List Nd) : LS := {
  ι := Int, inv := fun i => 0 ≤ i ∧ i ≤ x.1.length ∧ x.1.take i.toNat = x.2.take i.toNat, regs := fun i => [(0, nds x.1), (1, nds x.2), (5, .int .i64 i)], als := [], meas := fun i => x.1.length - i.toNat }
theorem eqNodeS_eq (x : List Nd × List Nd) : vcFun Go.Proofs.Try.prog (Γof [(18, sEqNd)]) (Eof []) false (Lof ([(4,lEqNds x)])) Go.Proofs.Try.f10.ntmps Go.Proofs.Try.f10.results.toList (Go.Proofs.Try.f10.body.getD .skip) (sEqNds) x = ((∀ (y : Unit), True → True ∧ True ∧ True ∧ True) ∧ bcase ((↑(List.length x.fst) : Int) != (↑(List.length x.snd) : Int)) (∃ (y : Unit), True ∧ false = beqNds x.fst x.snd ∧ True) ((∃ (i : Int), ((0 : Int) ≤ i ∧ i ≤ (↑(List.length x.fst) : Int) ∧ List.take (Int.toNat i) x.fst = List.take (Int.toNat i) x.snd) ∧ (AV.sl false (0 : Nat) (4 : Nat) Nd (ndA false) x.fst = AV.sl false (0 : Nat) (4 : Nat) Nd (ndA false) x.fst ∧ AV.sl false (0 : Nat) (4 : Nat) Nd (ndA false) x.snd = AV.sl false (0 : Nat) (4 : Nat) Nd (ndA false) x.snd ∧ (0 : Int) = i ∧ True) ∧ True) ∧ ∀ (i : Int), (0 : Int) ≤ i ∧ i ≤ (↑(List.length x.fst) : Int) ∧ List.take (Int.toNat i) x.fst = List.take (Int.toNat i) x.snd → bcase (decide (i < (↑(List.length x.fst) : Int))) (true = true ∧ true = true ∧ ((0 : Int) ≤ i ∧ i < (↑(List.length x.fst) : Int)) ∧ ∀ (e : Nd), x.fst[Int.toNat i]? = some e → ((0 : Int) ≤ i ∧ i < (↑(List.length x.snd) : Int)) ∧ ∀ (e_1 : Nd), x.snd[Int.toNat i]? = some e_1 → ∃ (x_1 : Nd × Nd), (smallNd x_1.fst ∧ smallNd x_1.snd) ∧ e.kind = x_1.fst.kind ∧ e.text = x_1.fst.text ∧ AV.sl false (0 : Nat) (1 : Nat) Int intA e.kids = AV.sl false (0 : Nat) (1 : Nat) Int intA x_1.fst.kids ∧ e.blank = x_1.fst.blank ∧ e_1.kind = x_1.snd.kind ∧ e_1.text = x_1.snd.text ∧ AV.sl false (0 : Nat) (1 : Nat) Int intA e_1.kids = AV.sl false (0 : Nat) (1 : Nat) Int intA x_1.snd.kids ∧ e_1.blank = x_1.snd.blank ∧ ∃ (y0 : Unit), (∀ (y : Unit), True → AV.bool (beqNd x_1.fst x_1.snd) = AV.bool (beqNd x_1.fst x_1.snd)) ∧ true = true ∧ bcase (!beqNd x_1.fst x_1.snd) (∃ (y : Unit), True ∧ false = beqNds x.fst x.snd ∧ True) (inR IntKind.i64 (i + (1 : Int)) ∧ ∃ (i' : Int), ((0 : Int) ≤ i' ∧ i' ≤ (↑(List.length x.fst) : Int) ∧ List.take (Int.toNat i') x.fst = List.take (Int.toNat i') x.snd) ∧ List.length x.fst - Int.toNat i' < List.length x.fst - Int.toNat i ∧ (AV.sl false (0 : Nat) (4 : Nat) Nd (ndA false) x.fst = AV.sl false (0 : Nat) (4 : Nat) Nd (ndA false) x.fst ∧ AV.sl false (0 : Nat) (4 : Nat) Nd (ndA false) x.snd = AV.sl false (0 : Nat) (4 : Nat) Nd (ndA false) x.snd ∧ i + (1 : Int) = i' ∧ True) ∧ True)) (∃ (y : Unit), True ∧ true = beqNds x.fst x.snd ∧ True))) := by kernel_rfl
--proofs
theorem eqNodeS_ok : Contract Try.prog 10 sEqNds := 
  vcFun_ok (Γ := Γof [(18, sEqNd)]) (E := Eof []) (ov := false) (L := fun x => Lof ([(4,lEqNds x)])) Try.func10 rfl (by decide) (Γof_ok (l := [(18, sEqNd)]) ⟨eqNode_ok, trivial⟩) fun (x : List Nd × List Nd) hx => (eqNodeS_eq x).mpr  (by
  obtain ⟨h1, h2⟩ := hx; have hl1 := h1.1; have hl2 := h2.1
  (repeat' first | with_reducible rfl | exact True.intro | refine inR_i64 ?_ ?_ | with_reducible refine And.intro ?_ ?_ | refine bcase_dec (fun _ => ?_) (fun _ => ?_) | refine bcase_bne (fun _ => ?_) (fun _ => ?_) | refine bcase_beq (fun _ => ?_) (fun _ => ?_) | refine bcase_not (fun _ => ?_) (fun _ => ?_) | refine bcase_intro (fun _ => ?_) (fun _ => ?_) | refine sl_eq ?_ | refine ex_flip () ?_ ?_ | (apply ex_flip6 <;> try dsimp only) | (apply ex_flip5 <;> try dsimp only) | (apply ex_flip4 <;> try dsimp only) | (apply ex_flip3 <;> try dsimp only) | (apply ex_flip2 <;> try dsimp only) | apply ex_flip | (refine Prod.forall.2 ?_; intro _; try dsimp only) | (intro _; try dsimp only)) <;> (try dsimp only at *) <;> (try simp only [i64max, List.length_cons, List.length_nil]) <;> (try omega)
  · rename_i h; exact beqNds_false (fun e => h (by rw [e]))
  · rfl
  · rename_i h i hi hl e he f hf hn
    exact beqNds_false (fun e => by rw [e, hf] at he; rw [Option.some.inj he, beqNd_self] at hn; cases hn)
  · rename_i h i hi hl e he f hf hn
    exact takeEq hi.1 hi.2.2 he hf (beqNd_eq.1 hn)
  · rename_i h i hi hl e he f hf
    exact h1.2 _ (memE he)
  · rename_i h i hi hl e he f hf
    exact h2.2 _ (memE hf)
  · rename_i h i hi hl
    exact beqNds_true (takeAll (by omega) hi.2.2 (by omega)))
--end

end Go.My
