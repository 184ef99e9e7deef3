/- A part of the proof: the engine and the contracts, joined. -/
import Derived.Test.YtinkjpfkemkhaaaGreatDoorRE
section
/- Nodes: calls among kids, what is right, depths, trees (the program's). -/
set_option linter.unusedVariables false
set_option linter.unusedSimpArgs false
namespace Go.My
open Go.Eng Go.Proofs
variable {G : GInv}

def okNd (x : Nd) : Prop := x.text.length < 2 ^ 62 ∧ x.kids.length < 2 ^ 62
def okNds (l : List Nd) : Prop := l.length < 2 ^ 62 ∧ ∀ x ∈ l, okNd x
theorem okNds_at {l : List Nd} {n : Nat} {x : Nd} (hx : l[n]? = some x) (h : okNds l) : okNd x := h.2 x (memE hx)
theorem okNds_ndAt {l : List Nd} {k : Int} (h : okNds l) : okNd (ndAt l k) := by
  unfold ndAt
  rw [List.getD]
  cases hx : l[k.toNat]? with
  | none => simp [okNd]
  | some x => exact okNds_at hx h

def idxInt (v : Int) : List Int → Int → Int
  | [], _ => -1
  | c :: l, i => if v = c then i else idxInt v l (i + 1)
theorem idxInt_elem {v : Int} : ∀ {l : List Int} {i : Int}, 0 ≤ i → (0 ≤ idxInt v l i ↔ v ∈ l)
  | [], i, h => by simp [idxInt]
  | c :: l, i, h => by
    unfold idxInt
    by_cases e : v = c
    · simp [e, h]
    · rw [if_neg e, idxInt_elem (by omega)]; simp [e]
def s_ixInt  : Sig := { X := List Int × Int, args := fun x => [ints x.1, .int .i64 x.2], pre := fun x => x.1.length < 2 ^ 62, Y := Unit, post := fun x y => True, res := fun x y => .int .i64 (idxInt x.2 x.1 0), outs := fun x y => [.top, .top], keep := false }
theorem ixInt_vc (x : List Int × Int) : vcFun Go.Proofs.Tryz.prog (Γof []) (Eof []) false (Lof ([(2,{ ι := Int, inv := fun i => (0 ≤ i ∧ i ≤ x.1.length) ∧ idxInt x.2 (x.1.drop i.toNat) i = idxInt x.2 x.1 0, regs := fun i => [(0, ints x.1), (1, .int .i64 x.2), (7, .int .i64 x.1.length), (8, .int .i64 i)], als := [], meas := fun i => x.1.length - i.toNat })])) Go.Proofs.Tryz.f212.ntmps Go.Proofs.Tryz.f212.results.toList (Go.Proofs.Tryz.f212.body.getD .skip) s_ixInt x = ((∀ (y : Unit), True → True ∧ True ∧ True ∧ True) ∧ (∃ (i : Int), (((0 : Int) ≤ i ∧ i ≤ (↑(List.length x.fst) : Int)) ∧ idxInt x.snd (List.drop (Int.toNat i) x.fst) i = idxInt x.snd x.fst (0 : Int)) ∧ (AV.sl false (0 : Nat) (1 : Nat) Int intA x.fst = AV.sl false (0 : Nat) (1 : Nat) Int intA x.fst ∧ x.snd = x.snd ∧ (↑(List.length x.fst) : Int) = (↑(List.length x.fst) : Int) ∧ (0 : Int) = i ∧ True) ∧ True) ∧ ∀ (i : Int), ((0 : Int) ≤ i ∧ i ≤ (↑(List.length x.fst) : Int)) ∧ idxInt x.snd (List.drop (Int.toNat i) x.fst) i = idxInt x.snd x.fst (0 : Int) → bcase (decide (i < (↑(List.length x.fst) : Int))) (((0 : Int) ≤ i ∧ i < (↑(List.length x.fst) : Int)) ∧ ∀ (e : Int), x.fst[Int.toNat i]? = some e → bcase (x.snd == e) (∃ (y : Unit), True ∧ i = idxInt x.snd x.fst (0 : Int) ∧ True) (inR IntKind.i64 (i + (1 : Int)) ∧ ∃ (i' : Int), (((0 : Int) ≤ i' ∧ i' ≤ (↑(List.length x.fst) : Int)) ∧ idxInt x.snd (List.drop (Int.toNat i') x.fst) i' = idxInt x.snd x.fst (0 : Int)) ∧ List.length x.fst - Int.toNat i' < List.length x.fst - Int.toNat i ∧ (AV.sl false (0 : Nat) (1 : Nat) Int intA x.fst = AV.sl false (0 : Nat) (1 : Nat) Int intA x.fst ∧ x.snd = x.snd ∧ (↑(List.length x.fst) : Int) = (↑(List.length x.fst) : Int) ∧ i + (1 : Int) = i' ∧ True) ∧ True)) (∃ (y : Unit), True ∧ (-1 : Int) = idxInt x.snd x.fst (0 : Int) ∧ True)) := by kernel_rfl
theorem ixInt_ok  : Contract G Tryz.prog 212 s_ixInt :=
  vcFun_ok (Γ := Γof []) (E := Eof []) (ov := false) (L := fun x => Lof ([(2,{ ι := Int, inv := fun i => (0 ≤ i ∧ i ≤ x.1.length) ∧ idxInt x.2 (x.1.drop i.toNat) i = idxInt x.2 x.1 0, regs := fun i => [(0, ints x.1), (1, .int .i64 x.2), (7, .int .i64 x.1.length), (8, .int .i64 i)], als := [], meas := fun i => x.1.length - i.toNat })])) Tryz.func212 rfl (by decide) (Γof_ok (l := []) trivial) fun (x : List Int × Int) (hx : x.1.length < 2 ^ 62) => (ixInt_vc  x).mpr (by
  have hx : x.1.length < 2 ^ 62 := hx
  (repeat' first | with_reducible rfl | exact True.intro | refine inR_i64 ?_ ?_ | with_reducible refine And.intro ?_ ?_ | with_reducible refine bcase_dec (fun _ => ?_) (fun _ => ?_) | with_reducible refine bcase_bne (fun _ => ?_) (fun _ => ?_) | with_reducible refine bcase_beq (fun _ => ?_) (fun _ => ?_) | with_reducible refine bcase_not (fun _ => ?_) (fun _ => ?_) | refine bcase_intro (fun _ => ?_) (fun _ => ?_) | refine sl_eq ?_ | refine ex_flip () ?_ ?_ | (apply ex_flip6 <;> try dsimp only) | (apply ex_flip5 <;> try dsimp only) | (apply ex_flip4 <;> try dsimp only) | (apply ex_flip3 <;> try dsimp only) | (apply ex_flip2 <;> try dsimp only) | apply ex_flip | (refine Prod.forall.2 ?_; intro _; try dsimp only) | (intro _; try dsimp only)) <;> (try dsimp only at *) <;> (try simp only [i64max, List.length_cons, List.length_nil]) <;> (try omega)
  all_goals first
    | (rename_i i hi hl e he h; rw [← hi.2, dropE he]; simp [idxInt, h]; done)
    | (rename_i i hi hl e he h; rw [← hi.2, dropE he, toNat1 hi.1.1]; simp [idxInt, h]; done)
    | rfl
    | (rename_i i hi hl; rw [← hi.2, List.drop_eq_nil_of_le (by omega)]; rfl)
    | skip)

def s_hasInt  : Sig := { X := List Int × Int, args := fun x => [ints x.1, .int .i64 x.2], pre := fun x => x.1.length < 2 ^ 62, Y := Unit, post := fun x y => True, res := fun x y => .bool (x.1.elem x.2), outs := fun x y => [.top, .top], keep := false }
theorem hasInt_vc (x : List Int × Int) : vcFun Go.Proofs.Tryz.prog (Γof [(212, 0, s_ixInt)]) (Eof []) false (Lof ([])) Go.Proofs.Tryz.f182.ntmps Go.Proofs.Tryz.f182.results.toList (Go.Proofs.Tryz.f182.body.getD .skip) s_hasInt x = ((∀ (y : Unit), True → True ∧ True ∧ True ∧ True) ∧ ∃ (x_1 : List Int × Int), List.length x_1.fst < (4611686018427387904 : Nat) ∧ AV.sl false (0 : Nat) (1 : Nat) Int intA x.fst = AV.sl false (0 : Nat) (1 : Nat) Int intA x_1.fst ∧ x.snd = x_1.snd ∧ ∀ (y : Unit), True → ∃ (y : Unit), True ∧ decide (idxInt x_1.snd x_1.fst (0 : Int) ≥ (0 : Int)) = List.elem x.snd x.fst ∧ True) := by kernel_rfl
theorem hasInt_ok  : Contract G Tryz.prog 182 s_hasInt :=
  vcFun_ok (Γ := Γof [(212, 0, s_ixInt)]) (E := Eof []) (ov := false) (L := fun x => Lof ([])) Tryz.func182 rfl (by decide) (Γof_ok (l := [(212, 0, s_ixInt)]) ⟨ixInt_ok, trivial⟩) fun (x : List Int × Int) (hx : x.1.length < 2 ^ 62) => (hasInt_vc  x).mpr (by
  have hx : x.1.length < 2 ^ 62 := hx
  (repeat' first | with_reducible rfl | exact True.intro | refine inR_i64 ?_ ?_ | with_reducible refine And.intro ?_ ?_ | with_reducible refine bcase_dec (fun _ => ?_) (fun _ => ?_) | with_reducible refine bcase_bne (fun _ => ?_) (fun _ => ?_) | with_reducible refine bcase_beq (fun _ => ?_) (fun _ => ?_) | with_reducible refine bcase_not (fun _ => ?_) (fun _ => ?_) | refine bcase_intro (fun _ => ?_) (fun _ => ?_) | refine sl_eq ?_ | refine ex_flip () ?_ ?_ | (apply ex_flip6 <;> try dsimp only) | (apply ex_flip5 <;> try dsimp only) | (apply ex_flip4 <;> try dsimp only) | (apply ex_flip3 <;> try dsimp only) | (apply ex_flip2 <;> try dsimp only) | apply ex_flip | (refine Prod.forall.2 ?_; intro _; try dsimp only) | (intro _; try dsimp only)) <;> (try dsimp only at *) <;> (try simp only [i64max, List.length_cons, List.length_nil]) <;> (try omega)
  all_goals first | (rw [Bool.eq_iff_iff, decide_eq_true_iff, List.elem_iff]; exact idxInt_elem (by omega)) | skip)


theorem callsOk_iff {ns : List Nd} {x : Nd} : callsOk ns x = true ↔ ∀ (j : Nat) c, x.kids[j]? = some c → callOk ns x j c = true := by
  have e : callsOk ns x = allAt (fun i c => callOk ns x i.toNat c) x.kids 0 := by
    unfold callsOk
    have : (fun p : Int × Nat => callOk ns x p.2 p.1) = fun p : Int × Nat => (fun (i c : Int) => callOk ns x i.toNat c) p.2 p.1 := by funext p; simp
    rw [this]; exact allAt_zip (f := fun i c => callOk ns x i.toNat c) (i := 0)
  rw [e, allAt_iff]; simp
def cfI (ns : List Nd) (x : Nd) (i : Int) : Prop := 0 ≤ i ∧ i ≤ x.kids.length ∧ ∀ (j : Nat) c, (j : Int) < i → x.kids[j]? = some c → callOk ns x j c = true
theorem cfI_init {ns : List Nd} {x : Nd} : cfI ns x 0 := ⟨by omega, by omega, fun j c h => by omega⟩
theorem cfI_next {ns : List Nd} {x : Nd} {i c : Int} (h : cfI ns x i) (hc : x.kids[i.toNat]? = some c) (hk : callOk ns x i.toNat c = true) : cfI ns x (i + 1) := by
  obtain ⟨h1, h2, h3⟩ := h
  have := (getE hc).1
  refine ⟨by omega, by omega, fun j d hj hd => ?_⟩
  by_cases e : (j : Int) < i
  · exact h3 j d e hd
  · obtain rfl : j = i.toNat := by omega
    rw [hc] at hd; cases hd; exact hk
theorem cfI_done {ns : List Nd} {x : Nd} {i : Int} (h : cfI ns x i) (hl : ¬ i < x.kids.length) : true = callsOk ns x := by
  symm; rw [callsOk_iff]; intro j c hc
  exact h.2.2 j c (by have := (getE hc).1; omega) hc
theorem cf_not {ns : List Nd} {x : Nd} {i c : Int} (hc : x.kids[i.toNat]? = some c) (hk : callOk ns x i.toNat c = false) : false = callsOk ns x := by
  symm; rw [Bool.eq_false_iff]; intro h
  rw [callsOk_iff.1 h _ _ hc] at hk; cases hk
theorem callOk1 {ns : List Nd} {x y : Nd} {i c : Int} (hy : ns[c.toNat]? = some y) (h : y.kind ≠ 5) : callOk ns x i.toNat c = true := by
  simp [callOk, ndAt_of hy, h]
theorem callOk2 {ns : List Nd} {x y : Nd} {i c : Int} (hy : ns[c.toNat]? = some y) (h : y.kind = 5) (h0 : (y.kids.length : Int) = 0) : callOk ns x i.toNat c = false := by
  have h0 := List.length_eq_zero_iff.1 (show y.kids.length = 0 by omega)
  simp [callOk, ndAt_of hy, h, h0]
theorem callOk3 {ns : List Nd} {x y : Nd} {i c d : Int} (hy : ns[c.toNat]? = some y) (h : y.kind = 5) (hd : isNd ns d = false) (h0 : y.kids[0]? = some d) : callOk ns x i.toNat c = false := by
  match hk : y.kids with
  | [] => rw [hk] at h0; cases h0
  | e :: t => rw [hk] at h0; cases h0; simp [callOk, ndAt_of hy, h, hk, hd]
theorem callOk4 {ns : List Nd} {x y z : Nd} {i c d d' : Int} (hy : ns[c.toNat]? = some y) (h : y.kind = 5) (hd : isNd ns d = true) (h0 : y.kids[0]? = some d) (hz : ns[d'.toNat]? = some z) (h0' : y.kids[0]? = some d') (h10 : x.kind = 10) (hi : i > 0) (h1 : z.kind ≠ 1) : callOk ns x i.toNat c = false := by
  match hk : y.kids with
  | [] => rw [hk] at h0; cases h0
  | e :: t => rw [hk] at h0 h0'; cases h0; cases h0'; simp [callOk, ndAt_of hy, h, hk, hd, h10, kindAt, ndAt_of hz, h1]; omega
theorem callOk5 {ns : List Nd} {x y z : Nd} {i c d d' : Int} (hy : ns[c.toNat]? = some y) (h : y.kind = 5) (hd : isNd ns d = true) (h0 : y.kids[0]? = some d) (hz : ns[d'.toNat]? = some z) (h0' : y.kids[0]? = some d') (h1 : z.kind = 1) : callOk ns x i.toNat c = true := by
  match hk : y.kids with
  | [] => rw [hk] at h0; cases h0
  | e :: t => rw [hk] at h0 h0'; cases h0; cases h0'; simp [callOk, ndAt_of hy, h, hk, hd, kindAt, ndAt_of hz, h1]
theorem callOk6 {ns : List Nd} {x y : Nd} {i c d : Int} (hy : ns[c.toNat]? = some y) (h : y.kind = 5) (hd : isNd ns d = true) (h0 : y.kids[0]? = some d) (h1 : x.kind ≠ 10) : callOk ns x i.toNat c = true := by
  match hk : y.kids with
  | [] => rw [hk] at h0; cases h0
  | e :: t => rw [hk] at h0; cases h0; simp [callOk, ndAt_of hy, h, hk, hd, h1]
theorem callOk7 {ns : List Nd} {x y : Nd} {i c d : Int} (hy : ns[c.toNat]? = some y) (h : y.kind = 5) (hd : isNd ns d = true) (h0 : y.kids[0]? = some d) (h1 : ¬ i > 0) : callOk ns x i.toNat c = true := by
  have : i.toNat = 0 := by omega
  match hk : y.kids with
  | [] => rw [hk] at h0; cases h0
  | e :: t => rw [hk] at h0; cases h0; simp [callOk, ndAt_of hy, h, hk, hd, this]
theorem ndB {ns : List Nd} {l : List Int} {d d' : Int} (hd : isNd ns d = true) (h0 : l[0]? = some d) (h0' : l[0]? = some d') : 0 ≤ d' ∧ d' < ns.length := by
  rw [h0] at h0'; cases h0'; exact isNd_iff.1 hd
def s_callsFit  : Sig := { X := List Nd × Nd, args := fun x => [nds x.1, .agg (ndA false x.2)], pre := fun x => okNds x.1 ∧ okNd x.2 ∧ ∀ c ∈ x.2.kids, 0 ≤ c ∧ c < x.1.length, Y := Unit, post := fun x y => True, res := fun x y => .bool (callsOk x.1 x.2), outs := fun x y => [.top, .top], keep := false }
theorem callsFit_vc (x : List Nd × Nd) : vcFun Go.Proofs.Tryz.prog (Γof [(118, 0, s_isNode)]) (Eof []) false (Lof ([(2,{ ι := Int, inv := cfI x.1 x.2, regs := fun i => [(0, nds x.1), (3, .box 0 (ndA false x.2)), (9, ints x.2.kids), (10, .int .i64 x.2.kids.length), (11, .int .i64 i)], als := [], meas := fun i => x.2.kids.length - i.toNat })])) Go.Proofs.Tryz.f186.ntmps Go.Proofs.Tryz.f186.results.toList (Go.Proofs.Tryz.f186.body.getD .skip) s_callsFit x = ((∀ (y : Unit), True → True ∧ True ∧ True ∧ True) ∧ (∃ (i : Int), cfI x.fst x.snd i ∧ (AV.sl false (0 : Nat) (4 : Nat) Nd (ndA false) x.fst = AV.sl false (0 : Nat) (4 : Nat) Nd (ndA false) x.fst ∧ x.snd.kind = x.snd.kind ∧ x.snd.text = x.snd.text ∧ AV.sl false (0 : Nat) (1 : Nat) Int intA x.snd.kids = AV.sl false (0 : Nat) (1 : Nat) Int intA x.snd.kids ∧ x.snd.blank = x.snd.blank ∧ AV.sl false (0 : Nat) (1 : Nat) Int intA x.snd.kids = AV.sl false (0 : Nat) (1 : Nat) Int intA x.snd.kids ∧ (↑(List.length x.snd.kids) : Int) = (↑(List.length x.snd.kids) : Int) ∧ (0 : Int) = i ∧ True) ∧ True) ∧ ∀ (i : Int), cfI x.fst x.snd i → bcase (decide (i < (↑(List.length x.snd.kids) : Int))) (((0 : Int) ≤ i ∧ i < (↑(List.length x.snd.kids) : Int)) ∧ ∀ (e : Int), x.snd.kids[Int.toNat i]? = some e → ((0 : Int) ≤ e ∧ e < (↑(List.length x.fst) : Int)) ∧ ∀ (e_1 : Nd), x.fst[Int.toNat e]? = some e_1 → bcase (e_1.kind != (5 : Int)) (inR IntKind.i64 (i + (1 : Int)) ∧ ∃ (i' : Int), cfI x.fst x.snd i' ∧ List.length x.snd.kids - Int.toNat i' < List.length x.snd.kids - Int.toNat i ∧ (AV.sl false (0 : Nat) (4 : Nat) Nd (ndA false) x.fst = AV.sl false (0 : Nat) (4 : Nat) Nd (ndA false) x.fst ∧ x.snd.kind = x.snd.kind ∧ x.snd.text = x.snd.text ∧ AV.sl false (0 : Nat) (1 : Nat) Int intA x.snd.kids = AV.sl false (0 : Nat) (1 : Nat) Int intA x.snd.kids ∧ x.snd.blank = x.snd.blank ∧ AV.sl false (0 : Nat) (1 : Nat) Int intA x.snd.kids = AV.sl false (0 : Nat) (1 : Nat) Int intA x.snd.kids ∧ (↑(List.length x.snd.kids) : Int) = (↑(List.length x.snd.kids) : Int) ∧ i + (1 : Int) = i' ∧ True) ∧ True) (bcase ((↑(List.length e_1.kids) : Int) == (0 : Int)) (∃ (y : Unit), True ∧ false = callsOk x.fst x.snd ∧ True) (((0 : Int) ≤ (0 : Int) ∧ (0 : Int) < (↑(List.length e_1.kids) : Int)) ∧ ∀ (e : Int), e_1.kids[(0 : Nat)]? = some e → ∃ (x_1 : List Nd × Int), List.length x_1.fst < (4611686018427387904 : Nat) ∧ AV.sl false (0 : Nat) (4 : Nat) Nd (ndA false) x.fst = AV.sl false (0 : Nat) (4 : Nat) Nd (ndA false) x_1.fst ∧ e = x_1.snd ∧ ∀ (y : Unit), True → bcase (!isNd x_1.fst x_1.snd) (∃ (y : Unit), True ∧ false = callsOk x.fst x.snd ∧ True) (bcase (x.snd.kind == (10 : Int)) (bcase (decide (i > (0 : Int))) (((0 : Int) ≤ (0 : Int) ∧ (0 : Int) < (↑(List.length e_1.kids) : Int)) ∧ ∀ (e : Int), e_1.kids[(0 : Nat)]? = some e → ((0 : Int) ≤ e ∧ e < (↑(List.length x.fst) : Int)) ∧ ∀ (e_2 : Nd), x.fst[Int.toNat e]? = some e_2 → bcase (e_2.kind != (1 : Int)) (∃ (y : Unit), True ∧ false = callsOk x.fst x.snd ∧ True) (inR IntKind.i64 (i + (1 : Int)) ∧ ∃ (i' : Int), cfI x.fst x.snd i' ∧ List.length x.snd.kids - Int.toNat i' < List.length x.snd.kids - Int.toNat i ∧ (AV.sl false (0 : Nat) (4 : Nat) Nd (ndA false) x.fst = AV.sl false (0 : Nat) (4 : Nat) Nd (ndA false) x.fst ∧ x.snd.kind = x.snd.kind ∧ x.snd.text = x.snd.text ∧ AV.sl false (0 : Nat) (1 : Nat) Int intA x.snd.kids = AV.sl false (0 : Nat) (1 : Nat) Int intA x.snd.kids ∧ x.snd.blank = x.snd.blank ∧ AV.sl false (0 : Nat) (1 : Nat) Int intA x.snd.kids = AV.sl false (0 : Nat) (1 : Nat) Int intA x.snd.kids ∧ (↑(List.length x.snd.kids) : Int) = (↑(List.length x.snd.kids) : Int) ∧ i + (1 : Int) = i' ∧ True) ∧ True)) (inR IntKind.i64 (i + (1 : Int)) ∧ ∃ (i' : Int), cfI x.fst x.snd i' ∧ List.length x.snd.kids - Int.toNat i' < List.length x.snd.kids - Int.toNat i ∧ (AV.sl false (0 : Nat) (4 : Nat) Nd (ndA false) x.fst = AV.sl false (0 : Nat) (4 : Nat) Nd (ndA false) x.fst ∧ x.snd.kind = x.snd.kind ∧ x.snd.text = x.snd.text ∧ AV.sl false (0 : Nat) (1 : Nat) Int intA x.snd.kids = AV.sl false (0 : Nat) (1 : Nat) Int intA x.snd.kids ∧ x.snd.blank = x.snd.blank ∧ AV.sl false (0 : Nat) (1 : Nat) Int intA x.snd.kids = AV.sl false (0 : Nat) (1 : Nat) Int intA x.snd.kids ∧ (↑(List.length x.snd.kids) : Int) = (↑(List.length x.snd.kids) : Int) ∧ i + (1 : Int) = i' ∧ True) ∧ True)) (inR IntKind.i64 (i + (1 : Int)) ∧ ∃ (i' : Int), cfI x.fst x.snd i' ∧ List.length x.snd.kids - Int.toNat i' < List.length x.snd.kids - Int.toNat i ∧ (AV.sl false (0 : Nat) (4 : Nat) Nd (ndA false) x.fst = AV.sl false (0 : Nat) (4 : Nat) Nd (ndA false) x.fst ∧ x.snd.kind = x.snd.kind ∧ x.snd.text = x.snd.text ∧ AV.sl false (0 : Nat) (1 : Nat) Int intA x.snd.kids = AV.sl false (0 : Nat) (1 : Nat) Int intA x.snd.kids ∧ x.snd.blank = x.snd.blank ∧ AV.sl false (0 : Nat) (1 : Nat) Int intA x.snd.kids = AV.sl false (0 : Nat) (1 : Nat) Int intA x.snd.kids ∧ (↑(List.length x.snd.kids) : Int) = (↑(List.length x.snd.kids) : Int) ∧ i + (1 : Int) = i' ∧ True) ∧ True))))) (∃ (y : Unit), True ∧ true = callsOk x.fst x.snd ∧ True)) := by kernel_rfl
theorem callsFit_ok  : Contract G Tryz.prog 186 s_callsFit :=
  vcFun_ok (Γ := Γof [(118, 0, s_isNode)]) (E := Eof []) (ov := false) (L := fun x => Lof ([(2,{ ι := Int, inv := cfI x.1 x.2, regs := fun i => [(0, nds x.1), (3, .box 0 (ndA false x.2)), (9, ints x.2.kids), (10, .int .i64 x.2.kids.length), (11, .int .i64 i)], als := [], meas := fun i => x.2.kids.length - i.toNat })])) Tryz.func186 rfl (by decide) (Γof_ok (l := [(118, 0, s_isNode)]) ⟨isNode_ok, trivial⟩) fun (x : List Nd × Nd) (hx : okNds x.1 ∧ okNd x.2 ∧ ∀ c ∈ x.2.kids, 0 ≤ c ∧ c < x.1.length) => (callsFit_vc  x).mpr (by
  obtain ⟨h1, h2, h3⟩ := hx; have hl := h1.1; have hk := h2.2
  (repeat' first | with_reducible rfl | exact True.intro | refine inR_i64 ?_ ?_ | with_reducible refine And.intro ?_ ?_ | with_reducible refine bcase_dec (fun _ => ?_) (fun _ => ?_) | with_reducible refine bcase_bne (fun _ => ?_) (fun _ => ?_) | with_reducible refine bcase_beq (fun _ => ?_) (fun _ => ?_) | with_reducible refine bcase_not (fun _ => ?_) (fun _ => ?_) | refine bcase_intro (fun _ => ?_) (fun _ => ?_) | refine sl_eq ?_ | refine ex_flip () ?_ ?_ | (apply ex_flip6 <;> try dsimp only) | (apply ex_flip5 <;> try dsimp only) | (apply ex_flip4 <;> try dsimp only) | (apply ex_flip3 <;> try dsimp only) | (apply ex_flip2 <;> try dsimp only) | apply ex_flip | (refine Prod.forall.2 ?_; intro _; try dsimp only) | (intro _; try dsimp only))
  all_goals first
    | exact cfI_init
    | exact cfI_done (by assumption) (by assumption)
    | exact cfI_next (by assumption) (by assumption) (callOk1 (by assumption) (by assumption))
    | exact cfI_next (by assumption) (by assumption) (callOk7 (by assumption) (by assumption) (by assumption) (by assumption) (by assumption))
    | exact cfI_next (by assumption) (by assumption) (callOk6 (by assumption) (by assumption) (by assumption) (by assumption) (by assumption))
    | exact cfI_next (by assumption) (by assumption) (callOk5 (by assumption) (by assumption) (by assumption) (by assumption) (by assumption) (by assumption) (by assumption))
    | exact cf_not (by assumption) (callOk2 (by assumption) (by assumption) (by assumption))
    | exact cf_not (by assumption) (callOk3 (by assumption) (by assumption) (by assumption) (by assumption))
    | exact cf_not (by assumption) (callOk4 (by assumption) (by assumption) (by assumption) (by assumption) (by assumption) (by assumption) (by assumption) (by assumption) (by assumption))
    | exact (h3 _ (memE (by assumption))).1
    | exact (h3 _ (memE (by assumption))).2
    | exact (ndB (by assumption) (by assumption) (by assumption)).1
    | exact (ndB (by assumption) (by assumption) (by assumption)).2
    | (obtain ⟨_, _, _⟩ := ‹cfI _ _ _›; (try simp only [i64max] at *); omega)
    | skip)

end Go.My
end
section
/- Nodes: right ones, depths, trees: the program's functions. -/
set_option linter.unusedVariables false
set_option linter.unusedSimpArgs false
namespace Go.My
open Go.Eng Go.Proofs
variable {G : GInv}

def nkI (k : Int) (l : List Int) (i : Int) : Prop := 0 ≤ i ∧ i ≤ l.length ∧ (∀ c ∈ l.take i.toNat, 0 ≤ c ∧ c < k) ∧ (l.take i.toNat).Nodup
theorem nkI_init {k : Int} {l : List Int} : nkI k l 0 := ⟨by omega, by omega, by simp, by simp⟩
theorem nkI_next {k : Int} {l : List Int} {i c : Int} (h : nkI k l i) (hc : l[i.toNat]? = some c) (h1 : ¬ c < 0) (h2 : ¬ c ≥ k) (h3 : (l.take i.toNat).elem c = false) : nkI k l (i + 1) := by
  obtain ⟨ha, hb, hd, he⟩ := h
  have := (getE hc).1
  refine ⟨by omega, by omega, ?_, ?_⟩
  · rw [toNat1 ha, takeE hc]; intro d hd'
    rcases List.mem_append.1 hd' with hd' | hd'
    · exact hd d hd'
    · simp at hd'; subst hd'; omega
  · rw [toNat1 ha, takeE hc, List.nodup_append]
    refine ⟨he, by simp, ?_⟩
    intro a ha' b hb' hab
    simp at hb'; subst hb'; subst hab
    simp at h3; exact h3 ha'
theorem nkI_done {k : Int} {l : List Int} {i : Int} (h : nkI k l i) (hl : ¬ i < l.length) : kidsIn l k = true ∧ l.Nodup := by
  obtain ⟨ha, hb, hd, he⟩ := h
  rw [List.take_of_length_le (by omega)] at hd he
  exact ⟨by simpa [kidsIn] using hd, he⟩
theorem nk_lt {k : Int} {l : List Int} {n : Nat} {c : Int} (hc : l[n]? = some c) (h1 : c < 0) : kidsIn l k = false := by
  rw [Bool.eq_false_iff]; intro h; simp only [kidsIn, List.all_eq_true, Bool.and_eq_true, decide_eq_true_eq] at h
  have := h c (memE hc); omega
theorem nk_ge {k : Int} {l : List Int} {n : Nat} {c : Int} (hc : l[n]? = some c) (h1 : c ≥ k) : kidsIn l k = false := by
  rw [Bool.eq_false_iff]; intro h; simp only [kidsIn, List.all_eq_true, Bool.and_eq_true, decide_eq_true_eq] at h
  have := h c (memE hc); omega
theorem nk_dup {l : List Int} {n : Nat} {c : Int} (hc : l[n]? = some c) (h1 : (l.take n).elem c = true) : ¬ l.Nodup := by
  intro h
  have e : l = l.take n ++ l.drop n := (List.take_append_drop n l).symm
  rw [e, dropE hc, List.nodup_append] at h
  exact h.2.2 c (by simpa using h1) c (by simp) rfl
theorem no_nd {ns : List Nd} {k : Int} (h : isNd ns k = false) : false = nodeOk ns k := by simp [nodeOk, h]
theorem no_of {ns : List Nd} {k : Int} {x : Nd} (hx : ns[k.toNat]? = some x) (h : isNd ns k = true) : nodeOk ns k = nodeOk1 ns k x := by rw [nodeOk, h, ndAt_of hx]; rfl
theorem no_len {ns : List Nd} {k : Int} {x : Nd} (hx : ns[k.toNat]? = some x) (h : isNd ns k = true) (h1 : (x.kids.length : Int) > 12) : false = nodeOk ns k := by
  rw [no_of hx h, nodeOk1, decide_eq_false (by omega)]; rfl
theorem no_text {ns : List Nd} {k : Int} {x : Nd} (hx : ns[k.toNat]? = some x) (h : isNd ns k = true) (h1 : textOk x.kind x.text = false) : false = nodeOk ns k := by
  rw [no_of hx h, nodeOk1, h1]; simp
theorem no_in {ns : List Nd} {k : Int} {x : Nd} (hx : ns[k.toNat]? = some x) (h : isNd ns k = true) (h1 : kidsIn x.kids k = false) : false = nodeOk ns k := by
  rw [no_of hx h, nodeOk1, h1]; simp
theorem no_dup {ns : List Nd} {k : Int} {x : Nd} (hx : ns[k.toNat]? = some x) (h : isNd ns k = true) (h1 : ¬ x.kids.Nodup) : false = nodeOk ns k := by
  rw [no_of hx h, nodeOk1, decide_eq_false h1]; simp
theorem no_yes {ns : List Nd} {k i : Int} {x : Nd} (hx : ns[k.toNat]? = some x) (h : isNd ns k = true) (h1 : (x.kids.length : Int) ≤ 12) (h2 : textOk x.kind x.text = true) (h3 : nkI k x.kids i) (hl : ¬ i < x.kids.length) :
    nodeOk ns k = (kindsOk x.kind ((x.kids.take i.toNat).map (kindAt ns)) && (callsOk ns x && (mayBlank x.kind || !x.blank))) := by
  obtain ⟨ha, hb⟩ := nkI_done h3 hl
  rw [List.take_of_length_le (by have := h3.1; omega), no_of hx h, nodeOk1, h2, ha, decide_eq_true hb, decide_eq_true (by omega)]; simp
theorem nkI_at {k : Int} {l : List Int} {i c n : Int} (h : nkI k l i) (hl : ¬ i < l.length) (hk : k < n) (hc : c ∈ l) : 0 ≤ c ∧ c < n := by
  have := (nkI_done h hl).1
  simp only [kidsIn, List.all_eq_true, Bool.and_eq_true, decide_eq_true_eq] at this
  have := this c hc; omega
theorem kinds_next {ns : List Nd} {l : List Int} {i c : Int} {y : Nd} (h0 : 0 ≤ i) (hc : l[i.toNat]? = some c) (hy : ns[c.toNat]? = some y) : (l.take i.toNat).map (kindAt ns) ++ [y.kind] = (l.take (i + 1).toNat).map (kindAt ns) := by
  rw [toNat1 h0, takeE hc, List.map_append]; simp [kindAt, ndAt_of hy]
def lNode (x : List Nd × Int) : LS := {
  ι := Int, inv := nkI x.2 (ndAt x.1 x.2).kids,
  regs := fun i => [(0, nds x.1), (1, .int .i64 x.2), (5, .box 0 (ndA false (ndAt x.1 x.2))), (6, oints (((ndAt x.1 x.2).kids.take i.toNat).map (kindAt x.1))), (28, ints (ndAt x.1 x.2).kids), (29, .int .i64 (ndAt x.1 x.2).kids.length), (30, .int .i64 i)], als := [], meas := fun i => (ndAt x.1 x.2).kids.length - i.toNat }
def s_iNodeOk  : Sig := { X := List Nd × Int, args := fun x => [nds x.1, .int .i64 x.2], pre := fun x => okNds x.1, Y := Unit, post := fun x y => True, res := fun x y => .bool (nodeOk x.1 x.2), outs := fun x y => [.top, .top], keep := false }
theorem iNodeOk_vc (x : List Nd × Int) : vcFun Go.Proofs.Tryz.prog (Γof [(118, 0, s_isNode), (181, 0, s_textFits), (182, 0, s_hasInt), (183, 0, s_isStep), (184, 0, s_isMember), (185, 0, s_kindsFit), (186, 0, s_callsFit)]) (Eof [(39, ⟨Int,intA⟩)]) false (Lof ([(8,lNode x)])) Go.Proofs.Tryz.f156.ntmps Go.Proofs.Tryz.f156.results.toList (Go.Proofs.Tryz.f156.body.getD .skip) s_iNodeOk x = ((∀ (y : Unit), True → True ∧ True ∧ True ∧ True) ∧ ∃ (x_1 : List Nd × Int), List.length x_1.fst < (4611686018427387904 : Nat) ∧ AV.sl false (0 : Nat) (4 : Nat) Nd (ndA false) x.fst = AV.sl false (0 : Nat) (4 : Nat) Nd (ndA false) x_1.fst ∧ x.snd = x_1.snd ∧ ∀ (y : Unit), True → bcase (!isNd x_1.fst x_1.snd) (∃ (y : Unit), True ∧ false = nodeOk x.fst x.snd ∧ True) (((0 : Int) ≤ x.snd ∧ x.snd < (↑(List.length x.fst) : Int)) ∧ ∀ (e : Nd), x.fst[Int.toNat x.snd]? = some e → bcase (decide ((↑(List.length e.kids) : Int) > (12 : Int))) (∃ (y : Unit), True ∧ false = nodeOk x.fst x.snd ∧ True) (∃ (x_2 : Nd), List.length x_2.text < (4611686018427387904 : Nat) ∧ e.kind = x_2.kind ∧ e.text = x_2.text ∧ AV.sl false (0 : Nat) (1 : Nat) Int intA e.kids = AV.sl false (0 : Nat) (1 : Nat) Int intA x_2.kids ∧ e.blank = x_2.blank ∧ ∀ (y : Unit), True → bcase (!textOk x_2.kind x_2.text) (∃ (y : Unit), True ∧ false = nodeOk x.fst x.snd ∧ True) ((∃ (i : Int), nkI x.snd (ndAt x.fst x.snd).kids i ∧ (AV.sl false (0 : Nat) (4 : Nat) Nd (ndA false) x.fst = AV.sl false (0 : Nat) (4 : Nat) Nd (ndA false) x.fst ∧ x.snd = x.snd ∧ e.kind = (ndAt x.fst x.snd).kind ∧ e.text = (ndAt x.fst x.snd).text ∧ AV.sl false (0 : Nat) (1 : Nat) Int intA e.kids = AV.sl false (0 : Nat) (1 : Nat) Int intA (ndAt x.fst x.snd).kids ∧ e.blank = (ndAt x.fst x.snd).blank ∧ List.map (kindAt x.fst) (List.take (Int.toNat i) (ndAt x.fst x.snd).kids) = [] ∧ AV.sl false (0 : Nat) (1 : Nat) Int intA e.kids = AV.sl false (0 : Nat) (1 : Nat) Int intA (ndAt x.fst x.snd).kids ∧ (↑(List.length e.kids) : Int) = (↑(List.length (ndAt x.fst x.snd).kids) : Int) ∧ (0 : Int) = i ∧ True) ∧ True) ∧ ∀ (i : Int), nkI x.snd (ndAt x.fst x.snd).kids i → bcase (decide (i < (↑(List.length (ndAt x.fst x.snd).kids) : Int))) (((0 : Int) ≤ i ∧ i < (↑(List.length (ndAt x.fst x.snd).kids) : Int)) ∧ ∀ (e : Int), (ndAt x.fst x.snd).kids[Int.toNat i]? = some e → bcase (decide (e < (0 : Int))) (∃ (y : Unit), True ∧ false = nodeOk x.fst x.snd ∧ True) (bcase (decide (e ≥ x.snd)) (∃ (y : Unit), True ∧ false = nodeOk x.fst x.snd ∧ True) (((0 : Int) ≤ (0 : Int) ∧ (0 : Int) ≤ i ∧ i ≤ (↑(List.length (ndAt x.fst x.snd).kids) : Int)) ∧ ∃ (x_3 : List Int × Int), List.length x_3.fst < (4611686018427387904 : Nat) ∧ AV.sl false (0 : Nat) (1 : Nat) Int intA (List.take (Int.toNat i) (ndAt x.fst x.snd).kids) = AV.sl false (0 : Nat) (1 : Nat) Int intA x_3.fst ∧ e = x_3.snd ∧ ∀ (y : Unit), True → bcase (List.elem x_3.snd x_3.fst) (∃ (y : Unit), True ∧ false = nodeOk x.fst x.snd ∧ True) (((0 : Int) ≤ e ∧ e < (↑(List.length x.fst) : Int)) ∧ ∀ (e_1 : Nd), x.fst[Int.toNat e]? = some e_1 → ∃ (x_4 : Int), e_1.kind = x_4 ∧ ∃ (zs : List Int), AV.sl true (0 : Nat) (1 : Nat) Int intA [x_4] = AV.sl true (0 : Nat) (1 : Nat) Int intA zs ∧ leafy intA ∧ room (List.length (List.map (kindAt x.fst) (List.take (Int.toNat i) (ndAt x.fst x.snd).kids)) + List.length zs) (8 : Nat) ∧ inR IntKind.i64 (i + (1 : Int)) ∧ ∃ (i' : Int), nkI x.snd (ndAt x.fst x.snd).kids i' ∧ List.length (ndAt x.fst x.snd).kids - Int.toNat i' < List.length (ndAt x.fst x.snd).kids - Int.toNat i ∧ (AV.sl false (0 : Nat) (4 : Nat) Nd (ndA false) x.fst = AV.sl false (0 : Nat) (4 : Nat) Nd (ndA false) x.fst ∧ x.snd = x.snd ∧ (ndAt x.fst x.snd).kind = (ndAt x.fst x.snd).kind ∧ (ndAt x.fst x.snd).text = (ndAt x.fst x.snd).text ∧ AV.sl false (0 : Nat) (1 : Nat) Int intA (ndAt x.fst x.snd).kids = AV.sl false (0 : Nat) (1 : Nat) Int intA (ndAt x.fst x.snd).kids ∧ (ndAt x.fst x.snd).blank = (ndAt x.fst x.snd).blank ∧ AV.sl true (0 : Nat) (1 : Nat) Int intA (List.map (kindAt x.fst) (List.take (Int.toNat i) (ndAt x.fst x.snd).kids) ++ zs) = AV.sl true (0 : Nat) (1 : Nat) Int intA (List.map (kindAt x.fst) (List.take (Int.toNat i') (ndAt x.fst x.snd).kids)) ∧ AV.sl false (0 : Nat) (1 : Nat) Int intA (ndAt x.fst x.snd).kids = AV.sl false (0 : Nat) (1 : Nat) Int intA (ndAt x.fst x.snd).kids ∧ (↑(List.length (ndAt x.fst x.snd).kids) : Int) = (↑(List.length (ndAt x.fst x.snd).kids) : Int) ∧ i + (1 : Int) = i' ∧ True) ∧ True)))) (∃ (x_3 : Int), True ∧ (ndAt x.fst x.snd).kind = x_3 ∧ ∀ (y : Unit), True → bcase (isStep x_3) (∃ (x_4 : Int × List Int), List.length x_4.snd < (4611686018427387904 : Nat) ∧ (ndAt x.fst x.snd).kind = x_4.fst ∧ AV.sl false (0 : Nat) (1 : Nat) Int (fun (x : Int) => fzL (intA x)) (List.map (kindAt x.fst) (List.take (Int.toNat i) (ndAt x.fst x.snd).kids)) = AV.sl false (0 : Nat) (1 : Nat) Int intA x_4.snd ∧ ∀ (y : Unit), True → bcase (kindsOk x_4.fst x_4.snd) (∃ (x_5 : List Nd × Nd), (okNds x_5.fst ∧ okNd x_5.snd ∧ ∀ (c : Int), c ∈ x_5.snd.kids → (0 : Int) ≤ c ∧ c < (↑(List.length x_5.fst) : Int)) ∧ AV.sl false (0 : Nat) (4 : Nat) Nd (ndA false) x.fst = AV.sl false (0 : Nat) (4 : Nat) Nd (ndA false) x_5.fst ∧ (ndAt x.fst x.snd).kind = x_5.snd.kind ∧ (ndAt x.fst x.snd).text = x_5.snd.text ∧ AV.sl false (0 : Nat) (1 : Nat) Int intA (ndAt x.fst x.snd).kids = AV.sl false (0 : Nat) (1 : Nat) Int intA x_5.snd.kids ∧ (ndAt x.fst x.snd).blank = x_5.snd.blank ∧ ∀ (y : Unit), True → bcase (callsOk x_5.fst x_5.snd) (∃ (y : Unit), True ∧ true = nodeOk x.fst x.snd ∧ True) (∃ (y : Unit), True ∧ false = nodeOk x.fst x.snd ∧ True)) (∃ (y : Unit), True ∧ false = nodeOk x.fst x.snd ∧ True)) (∃ (x_4 : Int), True ∧ (ndAt x.fst x.snd).kind = x_4 ∧ ∀ (y : Unit), True → bcase (isMem x_4) (∃ (x_5 : Int × List Int), List.length x_5.snd < (4611686018427387904 : Nat) ∧ (ndAt x.fst x.snd).kind = x_5.fst ∧ AV.sl false (0 : Nat) (1 : Nat) Int (fun (x : Int) => fzL (intA x)) (List.map (kindAt x.fst) (List.take (Int.toNat i) (ndAt x.fst x.snd).kids)) = AV.sl false (0 : Nat) (1 : Nat) Int intA x_5.snd ∧ ∀ (y : Unit), True → bcase (kindsOk x_5.fst x_5.snd) (∃ (x_6 : List Nd × Nd), (okNds x_6.fst ∧ okNd x_6.snd ∧ ∀ (c : Int), c ∈ x_6.snd.kids → (0 : Int) ≤ c ∧ c < (↑(List.length x_6.fst) : Int)) ∧ AV.sl false (0 : Nat) (4 : Nat) Nd (ndA false) x.fst = AV.sl false (0 : Nat) (4 : Nat) Nd (ndA false) x_6.fst ∧ (ndAt x.fst x.snd).kind = x_6.snd.kind ∧ (ndAt x.fst x.snd).text = x_6.snd.text ∧ AV.sl false (0 : Nat) (1 : Nat) Int intA (ndAt x.fst x.snd).kids = AV.sl false (0 : Nat) (1 : Nat) Int intA x_6.snd.kids ∧ (ndAt x.fst x.snd).blank = x_6.snd.blank ∧ ∀ (y : Unit), True → bcase (callsOk x_6.fst x_6.snd) (∃ (y : Unit), True ∧ true = nodeOk x.fst x.snd ∧ True) (∃ (y : Unit), True ∧ false = nodeOk x.fst x.snd ∧ True)) (∃ (y : Unit), True ∧ false = nodeOk x.fst x.snd ∧ True)) (∃ (x_5 : Int × List Int), List.length x_5.snd < (4611686018427387904 : Nat) ∧ (ndAt x.fst x.snd).kind = x_5.fst ∧ AV.sl false (0 : Nat) (1 : Nat) Int (fun (x : Int) => fzL (intA x)) (List.map (kindAt x.fst) (List.take (Int.toNat i) (ndAt x.fst x.snd).kids)) = AV.sl false (0 : Nat) (1 : Nat) Int intA x_5.snd ∧ ∀ (y : Unit), True → bcase (kindsOk x_5.fst x_5.snd) (∃ (x_6 : List Nd × Nd), (okNds x_6.fst ∧ okNd x_6.snd ∧ ∀ (c : Int), c ∈ x_6.snd.kids → (0 : Int) ≤ c ∧ c < (↑(List.length x_6.fst) : Int)) ∧ AV.sl false (0 : Nat) (4 : Nat) Nd (ndA false) x.fst = AV.sl false (0 : Nat) (4 : Nat) Nd (ndA false) x_6.fst ∧ (ndAt x.fst x.snd).kind = x_6.snd.kind ∧ (ndAt x.fst x.snd).text = x_6.snd.text ∧ AV.sl false (0 : Nat) (1 : Nat) Int intA (ndAt x.fst x.snd).kids = AV.sl false (0 : Nat) (1 : Nat) Int intA x_6.snd.kids ∧ (ndAt x.fst x.snd).blank = x_6.snd.blank ∧ ∀ (y : Unit), True → bcase (callsOk x_6.fst x_6.snd) (bcase ((ndAt x.fst x.snd).kind == (21 : Int)) (∃ (y : Unit), True ∧ true = nodeOk x.fst x.snd ∧ True) (∃ (y : Unit), True ∧ (!(ndAt x.fst x.snd).blank) = nodeOk x.fst x.snd ∧ True)) (∃ (y : Unit), True ∧ false = nodeOk x.fst x.snd ∧ True)) (∃ (y : Unit), True ∧ false = nodeOk x.fst x.snd ∧ True)))))))) := by kernel_rfl
theorem iNodeOk_ok  : Contract G Tryz.prog 156 s_iNodeOk :=
  vcFun_ok (Γ := Γof [(118, 0, s_isNode), (181, 0, s_textFits), (182, 0, s_hasInt), (183, 0, s_isStep), (184, 0, s_isMember), (185, 0, s_kindsFit), (186, 0, s_callsFit)]) (E := Eof [(39, ⟨Int,intA⟩)]) (ov := false) (L := fun x => Lof ([(8,lNode x)])) Tryz.func156 rfl (by decide) (Γof_ok (l := [(118, 0, s_isNode), (181, 0, s_textFits), (182, 0, s_hasInt), (183, 0, s_isStep), (184, 0, s_isMember), (185, 0, s_kindsFit), (186, 0, s_callsFit)]) ⟨isNode_ok, textFits_ok, hasInt_ok, isStep_ok, isMember_ok, kindsFit_ok, callsFit_ok, trivial⟩) fun (x : List Nd × Int) (hx : okNds x.1) => (iNodeOk_vc  x).mpr (by
  have h1 : okNds x.1 := hx; have hl := h1.1
  (repeat' first | with_reducible rfl | exact True.intro | refine inR_i64 ?_ ?_ | with_reducible refine And.intro ?_ ?_ | with_reducible refine bcase_dec (fun _ => ?_) (fun _ => ?_) | with_reducible refine bcase_bne (fun _ => ?_) (fun _ => ?_) | with_reducible refine bcase_beq (fun _ => ?_) (fun _ => ?_) | with_reducible refine bcase_not (fun _ => ?_) (fun _ => ?_) | refine bcase_intro (fun _ => ?_) (fun _ => ?_) | refine sl_eq ?_ | refine ex_flip () ?_ ?_ | (apply ex_flip6 <;> try dsimp only) | (apply ex_flip5 <;> try dsimp only) | (apply ex_flip4 <;> try dsimp only) | (apply ex_flip3 <;> try dsimp only) | (apply ex_flip2 <;> try dsimp only) | apply ex_flip | (refine Prod.forall.2 ?_; intro _; try dsimp only) | (intro _; try dsimp only))
  all_goals try (simp only [ndAt_of (show x.1[x.2.toNat]? = some _ by assumption)] at *)
  all_goals first
    | rfl
    | exact nkI_init
    | exact (h1.2 _ (memE (by assumption))).1
    | exact (h1.2 _ (memE (by assumption))).2
    | exact okNds_at (by assumption) h1
    | exact (nkI_at (by assumption) (by assumption) (isNd_iff.1 ‹isNd _ _ = true›).2 (by assumption)).1
    | exact (nkI_at (by assumption) (by assumption) (isNd_iff.1 ‹isNd _ _ = true›).2 (by assumption)).2
    | exact no_nd (by assumption)
    | exact no_len (by assumption) (by assumption) (by assumption)
    | exact no_text (by assumption) (by assumption) (by assumption)
    | exact no_in (by assumption) (by assumption) (nk_lt (by assumption) (by assumption))
    | exact no_in (by assumption) (by assumption) (nk_ge (by assumption) (by assumption))
    | exact no_dup (by assumption) (by assumption) (nk_dup (by assumption) (by assumption))
    | exact nkI_next (by assumption) (by assumption) (by assumption) (by assumption) (by assumption)
    | exact kinds_next (‹nkI _ _ _›.1) (by assumption) (by assumption)
    | (refine Eq.trans ?_ (no_yes (show x.1[x.2.toNat]? = some _ by assumption) (by assumption) (by omega) (by assumption) (by assumption) (by assumption)).symm; simp [-List.map_take, mayBlank, beqI, *]; done)
    | omega
    | (have := isNd_iff.1 ‹isNd _ _ = true›; omega)
    | (have := isNd_iff.1 ‹isNd _ _ = true›; obtain ⟨_, _, _⟩ := ‹nkI _ _ _›; (try simp only [i64max, room, List.length_take, List.length_map, List.length_append, List.length_cons, List.length_nil] at *); omega)
    | (refine Eq.trans ?_ (no_yes (show x.1[x.2.toNat]? = some _ by assumption) (by assumption) (by omega) (by assumption) (by assumption) (by assumption)).symm; rw [‹kindsOk _ _ = true›, ‹callsOk _ _ = true›]; simp [mayBlank, *]))

end Go.My
end
section
/- Depths and trees: the program's functions. -/
set_option linter.unusedVariables false
set_option linter.unusedSimpArgs false
namespace Go.My
open Go.Eng Go.Proofs
variable {G : GInv}

def dl (k i : Int) (ds : List Int) : List Int := ds ++ List.replicate (k + 1 - i).toNat 0
def dI (ns : List Nd) (k i : Int) (ds : List Int) : Prop := isNd ns k = true ∧ 0 ≤ i ∧ i ≤ k + 1 ∧ deeps ns i.toNat = some ds
def dJ (ns : List Nd) (k i : Int) (ds : List Int) (j d : Int) : Prop := dI ns k i ds ∧ i ≤ k ∧ nodeOk ns i = true ∧ 0 ≤ j ∧ j ≤ (ndAt ns i).kids.length ∧ 0 ≤ d ∧ d ≤ 14 ∧ mx ds ((ndAt ns i).kids.drop j.toNat) d = mx ds (ndAt ns i).kids 0
theorem dI_init {ns : List Nd} {k : Int} (h : isNd ns k = true) : dI ns k 0 [] := ⟨h, by omega, by have := isNd_iff.1 h; omega, rfl⟩
theorem dl_init {k : Int} : List.replicate (k + 1).toNat 0 = dl k 0 [] := by simp [dl]
theorem dI_len {ns : List Nd} {k i : Int} {ds : List Int} (h : dI ns k i ds) : ((dl k i ds).length : Int) = k + 1 := by
  obtain ⟨h0, h1, h2, h3⟩ := h
  have := deeps_length h3
  rw [dl, List.length_append, List.length_replicate]; omega
theorem dI_bad {ns : List Nd} {k i : Int} {ds : List Int} (h : dI ns k i ds) (hl : i < k + 1) (hn : nodeOk ns i = false) : 0 = deepOf ns k := by
  obtain ⟨h0, h1, h2, h3⟩ := h
  have : deeps ns (i.toNat + 1) = none := by
    unfold deeps; rw [h3]; simp only
    rw [show ((i.toNat : Nat) : Int) = i by omega, hn]; rfl
  unfold deepOf; rw [if_pos h0, deeps_none_le this (by omega)]
theorem dJ_init {ns : List Nd} {k i : Int} {ds : List Int} (h : dI ns k i ds) (hl : i < k + 1) (hn : nodeOk ns i = true) : dJ ns k i ds 0 0 :=
  ⟨h, by omega, hn, by omega, by omega, by omega, by omega, by simp⟩
theorem dJ_kid {ns : List Nd} {k i : Int} {ds : List Int} {j d c : Int} (h : dJ ns k i ds j d) (hc : (ndAt ns i).kids[j.toNat]? = some c) : 0 ≤ c ∧ c < i := by
  exact (nodeOk_parts h.2.2.1).2.2.2.1 c (memE hc)
theorem dJ_in {ns : List Nd} {k i : Int} {ds : List Int} {j d c : Int} (h : dJ ns k i ds j d) (hc : (ndAt ns i).kids[j.toNat]? = some c) : 0 ≤ c ∧ c < (dl k i ds).length := by
  have := dJ_kid h hc; have := dI_len h.1; have := h.1.2.2; omega
theorem dJ_val {ns : List Nd} {k i : Int} {ds : List Int} {j d c v : Int} (h : dJ ns k i ds j d) (hc : (ndAt ns i).kids[j.toNat]? = some c) (hv : (dl k i ds)[c.toNat]? = some v) : ds.getD c.toNat 0 = v ∧ 1 ≤ v ∧ v ≤ 14 := by
  have h1 := dJ_kid h hc
  have h2 := deeps_length h.1.2.2.2
  rw [dl, List.getElem?_append_left (by omega)] at hv
  refine ⟨by simp [List.getD, hv], ?_⟩
  exact deeps_pos h.1.2.2.2 v (memE hv)
theorem dJ_next {ns : List Nd} {k i : Int} {ds : List Int} {j d c v : Int} (h : dJ ns k i ds j d) (hc : (ndAt ns i).kids[j.toNat]? = some c) (hv : (dl k i ds)[c.toNat]? = some v) : dJ ns k i ds (j + 1) (max d v) := by
  obtain ⟨hv1, hv2, hv3⟩ := dJ_val h hc hv
  obtain ⟨h1, h2, h3, h4, h5, h6, h7, h8⟩ := h
  have := (getE hc).1
  refine ⟨h1, h2, h3, by omega, by omega, by omega, by omega, ?_⟩
  rw [← h8, dropE hc, toNat1 h4]; simp only [mx, hv1]
theorem dJ_mx {ns : List Nd} {k i : Int} {ds : List Int} {j d : Int} (h : dJ ns k i ds j d) (hl : ¬ j < (ndAt ns i).kids.length) : d = mx ds (ndAt ns i).kids 0 := by
  obtain ⟨h1, h2, h3, h4, h5, h6, h7, h8⟩ := h
  rw [List.drop_eq_nil_of_le (by omega)] at h8; exact h8
theorem dJ_over {ns : List Nd} {k i : Int} {ds : List Int} {j d : Int} (h : dJ ns k i ds j d) (hl : ¬ j < (ndAt ns i).kids.length) (hd : d ≥ 14) : 0 = deepOf ns k := by
  have hm := dJ_mx h hl
  obtain ⟨⟨ha, hb, he, hf⟩, h2, h3, _⟩ := h
  have e : ((i.toNat : Nat) : Int) = i := by omega
  have : deeps ns (i.toNat + 1) = none := by
    unfold deeps; rw [hf]; simp only
    rw [e, h3, if_pos rfl, if_pos (by omega)]
  unfold deepOf; rw [if_pos ha, deeps_none_le this (by omega)]
theorem dJ_out {ns : List Nd} {k i : Int} {ds : List Int} {j d : Int} (h : dJ ns k i ds j d) (hl : ¬ j < (ndAt ns i).kids.length) (hd : ¬ d ≥ 14) : dI ns k (i + 1) (ds ++ [d + 1]) := by
  have hm := dJ_mx h hl
  obtain ⟨⟨ha, hb, he, hf⟩, h2, h3, _⟩ := h
  have e : ((i.toNat : Nat) : Int) = i := by omega
  refine ⟨ha, by omega, by omega, ?_⟩
  rw [toNat1 hb]; unfold deeps; rw [hf]; simp only
  rw [e, h3, if_pos rfl, if_neg (by omega), ← hm]
theorem dJ_set {ns : List Nd} {k i : Int} {ds : List Int} {j d : Int} (h : dJ ns k i ds j d) : (dl k i ds).set i.toNat (d + 1) = dl k (i + 1) (ds ++ [d + 1]) := by
  obtain ⟨⟨ha, hb, he, hf⟩, h2, h3, _⟩ := h
  have hl := deeps_length hf
  have e : (k + 1 - i).toNat = (k + 1 - (i + 1)).toNat + 1 := by omega
  unfold dl; rw [List.set_append_right _ _ (by omega), e, hl]; simp [List.replicate_succ]
theorem dI_end {ns : List Nd} {k i v : Int} {ds : List Int} (h : dI ns k i ds) (hl : ¬ i < k + 1) (hv : (dl k i ds)[k.toNat]? = some v) : v = deepOf ns k := by
  obtain ⟨h0, h1, h2, h3⟩ := h
  obtain rfl : i = k + 1 := by omega
  have := isNd_iff.1 h0
  rw [show (k + 1).toNat = k.toNat + 1 by omega] at h3
  unfold deepOf; rw [if_pos h0, h3]
  simp [dl] at hv
  simp [List.getD, hv]
theorem dp_no {ns : List Nd} {k : Int} (h : isNd ns k = false) : 0 = deepOf ns k := by simp [deepOf, h]
theorem dJ_len {ns : List Nd} {k i : Int} {ds : List Int} {j d : Int} (h : dJ ns k i ds j d) : ((ndAt ns i).kids.length : Int) ≤ 12 := by
  have := (nodeOk_parts h.2.2.1).2.1; omega
def lDeep2 (x : List Nd × Int) (o : Int × List Int) : LS := {
  ι := Int × Int, inv := fun i => dJ x.1 x.2 o.1 o.2 i.1 i.2,
  regs := fun i => [(0, nds x.1), (1, .int .i64 x.2), (5, oints (dl x.2 o.1 o.2)), (18, .int .i64 (x.2 + 1)), (19, .int .i64 o.1), (6, .int .i64 o.1), (7, .int .i64 i.2), (30, ints (ndAt x.1 o.1).kids), (31, .int .i64 (ndAt x.1 o.1).kids.length), (32, .int .i64 i.1)], als := [], meas := fun i => (ndAt x.1 o.1).kids.length - i.1.toNat }
def lDeep (x : List Nd × Int) : LS := {
  ι := Int × List Int, inv := fun i => dI x.1 x.2 i.1 i.2,
  regs := fun i => [(0, nds x.1), (1, .int .i64 x.2), (5, oints (dl x.2 i.1 i.2)), (18, .int .i64 (x.2 + 1)), (19, .int .i64 i.1)], als := [], meas := fun i => x.2.toNat + 1 - i.1.toNat,
  sub := fun i => [(11, lDeep2 x i)] }
def s_iDeepOf  : Sig := { X := List Nd × Int, args := fun x => [nds x.1, .int .i64 x.2], pre := fun x => okNds x.1 ∧ x.1.length ≤ 2 ^ 30, Y := Unit, post := fun x y => True, res := fun x y => .int .i64 (deepOf x.1 x.2), outs := fun x y => [.top, .top], keep := false }
theorem iDeepOf_vc (x : List Nd × Int) : vcFun Go.Proofs.Tryz.prog (Γof [(118, 0, s_isNode), (156, 0, s_iNodeOk)]) (Eof [(39, ⟨Int,intA⟩)]) false (Lof ([(5,lDeep x)])) Go.Proofs.Tryz.f110.ntmps Go.Proofs.Tryz.f110.results.toList (Go.Proofs.Tryz.f110.body.getD .skip) s_iDeepOf x = ((∀ (y : Unit), True → True ∧ True ∧ True ∧ True) ∧ ∃ (x_1 : List Nd × Int), List.length x_1.fst < (4611686018427387904 : Nat) ∧ AV.sl false (0 : Nat) (4 : Nat) Nd (ndA false) x.fst = AV.sl false (0 : Nat) (4 : Nat) Nd (ndA false) x_1.fst ∧ x.snd = x_1.snd ∧ ∀ (y : Unit), True → bcase (!isNd x_1.fst x_1.snd) (∃ (y : Unit), True ∧ (0 : Int) = deepOf x.fst x.snd ∧ True) (inR IntKind.i64 (x.snd + (1 : Int)) ∧ ((0 : Int) ≤ x.snd + (1 : Int) ∧ x.snd + (1 : Int) ≤ x.snd + (1 : Int) ∧ (↑(8 : Nat) : Int) * (x.snd + (1 : Int)) ≤ (2 : Int) ^ (46 : Nat) ∧ x.snd + (1 : Int) ≤ (2 : Int) ^ (46 : Nat)) ∧ ∃ (x_2 : Int), (0 : Int) = x_2 ∧ (∃ (i : Int × List Int), dI x.fst x.snd i.fst i.snd ∧ (AV.sl false (0 : Nat) (4 : Nat) Nd (ndA false) x.fst = AV.sl false (0 : Nat) (4 : Nat) Nd (ndA false) x.fst ∧ x.snd = x.snd ∧ AV.sl true (0 : Nat) (1 : Nat) Int intA (List.replicate (Int.toNat (x.snd + (1 : Int))) x_2) = AV.sl true (0 : Nat) (1 : Nat) Int intA (dl x.snd i.fst i.snd) ∧ (↑(List.length (List.replicate (Int.toNat (x.snd + (1 : Int))) x_2)) : Int) = x.snd + (1 : Int) ∧ (0 : Int) = i.fst ∧ True) ∧ True) ∧ ∀ (i : Int × List Int), dI x.fst x.snd i.fst i.snd → bcase (decide (i.fst < x.snd + (1 : Int))) (∃ (x_3 : List Nd × Int), okNds x_3.fst ∧ AV.sl false (0 : Nat) (4 : Nat) Nd (ndA false) x.fst = AV.sl false (0 : Nat) (4 : Nat) Nd (ndA false) x_3.fst ∧ i.fst = x_3.snd ∧ ∀ (y : Unit), True → bcase (!nodeOk x_3.fst x_3.snd) (∃ (y : Unit), True ∧ (0 : Int) = deepOf x.fst x.snd ∧ True) (((0 : Int) ≤ i.fst ∧ i.fst < (↑(List.length x.fst) : Int)) ∧ ∀ (e : Nd), x.fst[Int.toNat i.fst]? = some e → (∃ (i_1 : Int × Int), dJ x.fst x.snd i.fst i.snd i_1.fst i_1.snd ∧ (AV.sl false (0 : Nat) (4 : Nat) Nd (ndA false) x.fst = AV.sl false (0 : Nat) (4 : Nat) Nd (ndA false) x.fst ∧ x.snd = x.snd ∧ AV.sl true (0 : Nat) (1 : Nat) Int intA (dl x.snd i.fst i.snd) = AV.sl true (0 : Nat) (1 : Nat) Int intA (dl x.snd i.fst i.snd) ∧ x.snd + (1 : Int) = x.snd + (1 : Int) ∧ i.fst = i.fst ∧ i.fst = i.fst ∧ (0 : Int) = i_1.snd ∧ AV.sl false (0 : Nat) (1 : Nat) Int intA e.kids = AV.sl false (0 : Nat) (1 : Nat) Int intA (ndAt x.fst i.fst).kids ∧ (↑(List.length e.kids) : Int) = (↑(List.length (ndAt x.fst i.fst).kids) : Int) ∧ (0 : Int) = i_1.fst ∧ True) ∧ True) ∧ ∀ (i_1 : Int × Int), dJ x.fst x.snd i.fst i.snd i_1.fst i_1.snd → bcase (decide (i_1.fst < (↑(List.length (ndAt x.fst i.fst).kids) : Int))) (((0 : Int) ≤ i_1.fst ∧ i_1.fst < (↑(List.length (ndAt x.fst i.fst).kids) : Int)) ∧ ∀ (e : Int), (ndAt x.fst i.fst).kids[Int.toNat i_1.fst]? = some e → ((0 : Int) ≤ e ∧ e < (↑(List.length (dl x.snd i.fst i.snd)) : Int)) ∧ Int.toNat e < List.length (dl x.snd i.fst i.snd) ∧ ∀ (x_4 : Int), (dl x.snd i.fst i.snd)[Int.toNat e]? = some x_4 → inR IntKind.i64 (i_1.fst + (1 : Int)) ∧ ∃ (i' : Int × Int), dJ x.fst x.snd i.fst i.snd i'.fst i'.snd ∧ List.length (ndAt x.fst i.fst).kids - Int.toNat i'.fst < List.length (ndAt x.fst i.fst).kids - Int.toNat i_1.fst ∧ (AV.sl false (0 : Nat) (4 : Nat) Nd (ndA false) x.fst = AV.sl false (0 : Nat) (4 : Nat) Nd (ndA false) x.fst ∧ x.snd = x.snd ∧ AV.sl true (0 : Nat) (1 : Nat) Int intA (dl x.snd i.fst i.snd) = AV.sl true (0 : Nat) (1 : Nat) Int intA (dl x.snd i.fst i.snd) ∧ x.snd + (1 : Int) = x.snd + (1 : Int) ∧ i.fst = i.fst ∧ i.fst = i.fst ∧ max i_1.snd x_4 = i'.snd ∧ AV.sl false (0 : Nat) (1 : Nat) Int intA (ndAt x.fst i.fst).kids = AV.sl false (0 : Nat) (1 : Nat) Int intA (ndAt x.fst i.fst).kids ∧ (↑(List.length (ndAt x.fst i.fst).kids) : Int) = (↑(List.length (ndAt x.fst i.fst).kids) : Int) ∧ i_1.fst + (1 : Int) = i'.fst ∧ True) ∧ True) (bcase (decide (i_1.snd ≥ (14 : Int))) (∃ (y : Unit), True ∧ (0 : Int) = deepOf x.fst x.snd ∧ True) (inR IntKind.i64 (i_1.snd + (1 : Int)) ∧ ((0 : Int) ≤ i.fst ∧ i.fst < (↑(List.length (dl x.snd i.fst i.snd)) : Int)) ∧ Int.toNat i.fst < List.length (dl x.snd i.fst i.snd) ∧ ∀ (x_4 : Int), (dl x.snd i.fst i.snd)[Int.toNat i.fst]? = some x_4 → ∃ (x' : Int), ((@List.nil AV) = [] ∧ (@List.nil AV) = []) ∧ i_1.snd + (1 : Int) = x' ∧ inR IntKind.i64 (i.fst + (1 : Int)) ∧ ∃ (i' : Int × List Int), dI x.fst x.snd i'.fst i'.snd ∧ Int.toNat x.snd + (1 : Nat) - Int.toNat i'.fst < Int.toNat x.snd + (1 : Nat) - Int.toNat i.fst ∧ (AV.sl false (0 : Nat) (4 : Nat) Nd (ndA false) x.fst = AV.sl false (0 : Nat) (4 : Nat) Nd (ndA false) x.fst ∧ x.snd = x.snd ∧ AV.sl true (0 : Nat) (1 : Nat) Int intA (List.set (dl x.snd i.fst i.snd) (Int.toNat i.fst) x') = AV.sl true (0 : Nat) (1 : Nat) Int intA (dl x.snd i'.fst i'.snd) ∧ x.snd + (1 : Int) = x.snd + (1 : Int) ∧ i.fst + (1 : Int) = i'.fst ∧ True) ∧ True)))) (((0 : Int) ≤ x.snd ∧ x.snd < (↑(List.length (dl x.snd i.fst i.snd)) : Int)) ∧ Int.toNat x.snd < List.length (dl x.snd i.fst i.snd) ∧ ∀ (x_3 : Int), (dl x.snd i.fst i.snd)[Int.toNat x.snd]? = some x_3 → ∃ (y : Unit), True ∧ x_3 = deepOf x.fst x.snd ∧ True))) := by kernel_rfl
theorem iDeepOf_ok  : Contract G Tryz.prog 110 s_iDeepOf :=
  vcFun_ok (Γ := Γof [(118, 0, s_isNode), (156, 0, s_iNodeOk)]) (E := Eof [(39, ⟨Int,intA⟩)]) (ov := false) (L := fun x => Lof ([(5,lDeep x)])) Tryz.func110 rfl (by decide) (Γof_ok (l := [(118, 0, s_isNode), (156, 0, s_iNodeOk)]) ⟨isNode_ok, iNodeOk_ok, trivial⟩) fun (x : List Nd × Int) (hx : okNds x.1 ∧ x.1.length ≤ 2 ^ 30) => (iDeepOf_vc  x).mpr (by
  obtain ⟨h1, h2⟩ := hx; have hl := h1.1
  (repeat' first | with_reducible rfl | exact True.intro | refine inR_i64 ?_ ?_ | with_reducible refine And.intro ?_ ?_ | with_reducible refine bcase_dec (fun _ => ?_) (fun _ => ?_) | with_reducible refine bcase_bne (fun _ => ?_) (fun _ => ?_) | with_reducible refine bcase_beq (fun _ => ?_) (fun _ => ?_) | with_reducible refine bcase_not (fun _ => ?_) (fun _ => ?_) | refine bcase_intro (fun _ => ?_) (fun _ => ?_) | refine sl_eq ?_ | refine ex_flip () ?_ ?_ | (apply ex_flip6 <;> try dsimp only) | (apply ex_flip5 <;> try dsimp only) | (apply ex_flip4 <;> try dsimp only) | (apply ex_flip3 <;> try dsimp only) | (apply ex_flip2 <;> try dsimp only) | apply ex_flip | (refine Prod.forall.2 ?_; intro _; try dsimp only) | (intro _; try dsimp only))
  all_goals try (have nd0 := isNd_iff.1 (show isNd x.1 x.2 = true by assumption))
  all_goals first
    | rfl
    | exact dp_no (by assumption)
    | exact dI_init (by assumption)
    | exact dl_init
    | exact dI_bad (by assumption) (by assumption) (by assumption)
    | exact dJ_init (by assumption) (by assumption) (by assumption)
    | exact (dJ_in (by assumption) (by assumption)).1
    | exact (dJ_in (by assumption) (by assumption)).2
    | exact dJ_next (by assumption) (by assumption) (by assumption)
    | exact dJ_over (by assumption) (by assumption) (by assumption)
    | exact dJ_out (by assumption) (by assumption) (by assumption)
    | exact dJ_set (by assumption)
    | exact dI_end (by assumption) (by assumption) (by assumption)
    | (rw [ndAt_of (by assumption)]; done)
    | (rw [List.length_replicate]; omega)
    | (have := dJ_len (by assumption); obtain ⟨⟨_, _, _, _⟩, _, _, _, _, _, _, _⟩ := ‹dJ _ _ _ _ _ _›; (try simp only [i64max, room] at *); omega)
    | (have := dI_len (by assumption); obtain ⟨_, _, _, _⟩ := ‹dI _ _ _ _›; (try simp only [i64max, room] at *); omega)
    | (have := dJ_in (by assumption) (by assumption); omega)
    | ((try simp only [i64max, room] at *); omega)
    | skip)

end Go.My
end
section
/- Trees: the program's TreeOk. -/
set_option linter.unusedVariables false
set_option linter.unusedSimpArgs false
namespace Go.My
open Go.Eng Go.Proofs
variable {G : GInv}

def cnt (n : Nat) (l : List Int) : List Int := (List.range n).map fun (c : Nat) => (l.count (c : Int) : Int)
theorem cnt_len {n : Nat} {l : List Int} : (cnt n l).length = n := by simp [cnt]
theorem cnt_at {n : Nat} {l : List Int} {c : Nat} (h : c < n) : (cnt n l)[c]? = some (l.count (c : Int) : Int) := by
  simp [cnt, List.getElem?_map, List.getElem?_range, h]
theorem cnt_nil {n : Nat} : List.replicate n 0 = cnt n [] := by
  apply List.ext_getElem?
  intro c
  by_cases h : c < n
  · rw [cnt_at h]; simp [h]
  · rw [List.getElem?_eq_none (by simp; omega), List.getElem?_eq_none (by simp [cnt]; omega)]
theorem cnt_inc {n : Nat} {l : List Int} {c v : Int} (h0 : 0 ≤ c) (h1 : c < n) (hv : (cnt n l)[c.toNat]? = some v) : (cnt n l).set c.toNat (v + 1) = cnt n (l ++ [c]) := by
  apply List.ext_getElem?
  intro d
  rw [List.getElem?_set]
  by_cases hd : d < n
  · rw [cnt_at hd, cnt_at hd, List.count_append]
    rw [cnt_at (by omega)] at hv
    by_cases e : c.toNat = d
    · subst e
      rw [if_pos rfl, if_pos (by rw [cnt_len]; omega)]
      have e2 : ((c.toNat : Nat) : Int) = c := by omega
      rw [e2] at hv ⊢
      simp at hv ⊢; omega
    · rw [if_neg e]
      have : ¬ c = (d : Int) := by omega
      simp [List.count_cons, this]
  · rw [if_neg (by omega), List.getElem?_eq_none (by rw [cnt_len]; omega), List.getElem?_eq_none (by rw [cnt_len]; omega)]
def tk (ns : List Nd) (i j : Int) : List Int := allKids (ns.take i.toNat) ++ (ndAt ns i).kids.take j.toNat
/- a tree's nodes are right -/
def tI (ns : List Nd) : Prop := 1 ≤ ns.length ∧ ns.length ≤ 300 ∧ kindAt ns (ns.length - 1) = 22 ∧ deepOf ns (ns.length - 1) ≠ 0
theorem tI_ok {ns : List Nd} {n : Nat} {y : Nd} (h : tI ns) (hy : ns[n]? = some y) : nodeOk ns n = true := by
  exact (deepOf_pos h.2.2.2).2.2 n (by have := (getE hy).1; omega)
theorem tI_kids {ns : List Nd} {n : Nat} {y : Nd} (h : tI ns) (hy : ns[n]? = some y) : y.kids.length ≤ 12 ∧ ∀ c ∈ y.kids, 0 ≤ c ∧ c < ns.length := by
  obtain ⟨h1, h2, h3, h4, h5⟩ := nodeOk_parts (tI_ok h hy)
  rw [ndAt_of (by simpa using hy)] at h2 h4
  exact ⟨h2, fun c hc => by have := h4 c hc; omega⟩
theorem allKids_len {l : List Nd} (h : ∀ y ∈ l, y.kids.length ≤ 12) : (allKids l).length ≤ 12 * l.length := by
  induction l with
  | nil => simp [allKids]
  | cons y l ih =>
    have h1 := h y (by simp)
    have h2 := ih fun z hz => h z (by simp [hz])
    simp only [allKids, List.flatMap_cons, List.length_append, List.length_cons] at h2 ⊢; omega
theorem tk_len {ns : List Nd} {i j : Int} (h : tI ns) : (allKids (ns.take i.toNat)).length ≤ 3600 := by
  have h1 : ∀ y ∈ ns.take i.toNat, y.kids.length ≤ 12 := by
    intro y hy
    obtain ⟨n, hn⟩ := List.mem_iff_getElem?.1 (List.mem_of_mem_take hy)
    exact (tI_kids h hn).1
  have := allKids_len h1
  have h2 : (ns.take i.toNat).length ≤ 300 := by have := h.2.1; simp; omega
  omega
theorem cnt_le {n : Nat} {l : List Int} {c : Nat} {v : Int} (hv : (cnt n l)[c]? = some v) : 0 ≤ v ∧ v ≤ l.length := by
  have h : c < n := by have := (getE hv).1; rwa [cnt_len] at this
  rw [cnt_at h] at hv; cases hv
  have := List.count_le_length (a := (c : Int)) (l := l)
  omega
theorem tk_init {ns : List Nd} {i : Int} : tk ns i 0 = allKids (ns.take i.toNat) := by simp [tk]
theorem tk_next {ns : List Nd} {i j c : Int} (h0 : 0 ≤ j) (hc : (ndAt ns i).kids[j.toNat]? = some c) : tk ns i (j + 1) = tk ns i j ++ [c] := by
  rw [tk, toNat1 h0, takeE hc, tk, List.append_assoc]
theorem tk_done {ns : List Nd} {i j : Int} {y : Nd} (h0 : 0 ≤ i) (hy : ns[i.toNat]? = some y) (hl : ¬ j < (ndAt ns i).kids.length) : tk ns i j = allKids (ns.take (i + 1).toNat) := by
  rw [tk, List.take_of_length_le (l := (ndAt ns i).kids) (by omega), toNat1 h0, takeE hy, ndAt_of hy]; simp [allKids]
def tE (ns : List Nd) (i : Int) : Prop := 0 ≤ i ∧ i ≤ ns.length - 1 ∧ ∀ c : Nat, (c : Int) < i → (allKids ns).count (c : Int) = 1
theorem tE_at {ns : List Nd} {i v : Int} (hv : (((cnt ns.length (allKids ns)).take (ns.length - 1 : Int).toNat)[i.toNat]?) = some v) (h0 : 0 ≤ i) (hl : i < (ns.length - 1 : Int)) : ((allKids ns).count i : Int) = v := by
  rw [List.getElem?_take_of_lt (by omega), cnt_at (by omega)] at hv
  have e2 : ((i.toNat : Nat) : Int) = i := by omega
  rw [e2] at hv; exact Option.some.inj hv
theorem treeOk_yes {ns : List Nd} {i : Int} (h : tI ns) (he : tE ns i) (hl : ¬ i < (ns.length - 1 : Int)) : true = treeOk ns := by
  symm; unfold treeOk
  have h1 : decide (1 ≤ ns.length) = true := decide_eq_true h.1
  have h2 : decide (ns.length ≤ 300) = true := decide_eq_true h.2.1
  have h3 : decide (kindAt ns (ns.length - 1) = 22) = true := decide_eq_true h.2.2.1
  have h4 : decide (deepOf ns (ns.length - 1) = 0) = false := decide_eq_false h.2.2.2
  rw [h1, h2, h3, h4]
  simp only [Bool.and_true, Bool.not_false, Bool.true_and, List.all_eq_true, decide_eq_true_eq, List.mem_range]
  exact fun c hc => he.2.2 c (by omega)
theorem treeOk_no {ns : List Nd} {i v : Int} (hv : (allKids ns).count i = v) (h0 : 0 ≤ i) (hl : i < (ns.length - 1 : Int)) (hne : v ≠ 1) : false = treeOk ns := by
  symm; rw [Bool.eq_false_iff]; intro h
  unfold treeOk at h
  simp only [Bool.and_eq_true, List.all_eq_true, decide_eq_true_eq, List.mem_range] at h
  have := h.2.2.2 i.toNat (by omega)
  have e2 : ((i.toNat : Nat) : Int) = i := by omega
  rw [e2] at this; omega
theorem treeOk_not {ns : List Nd} (h : ¬ tI ns) : false = treeOk ns := by
  symm; rw [Bool.eq_false_iff]; intro hh
  unfold treeOk at hh
  simp only [Bool.and_eq_true, decide_eq_true_eq, Bool.not_eq_true', decide_eq_false_iff_not] at hh
  exact h ⟨hh.1.1, hh.1.2, hh.2.1, hh.2.2.1⟩
theorem tI_kid {ns : List Nd} {i j c : Int} {y : Nd} (h : tI ns) (hc : (ndAt ns i).kids[j.toNat]? = some c) (hy : ns[i.toNat]? = some y) : 0 ≤ c ∧ c < ns.length := by
  rw [ndAt_of hy] at hc; exact (tI_kids h hy).2 c (memE hc)
theorem tI_len {ns : List Nd} {i : Int} {y : Nd} (h : tI ns) (hy : ns[i.toNat]? = some y) : (ndAt ns i).kids.length ≤ 12 := by
  rw [ndAt_of hy]; exact (tI_kids h hy).1
theorem tk_len2 {ns : List Nd} {i j : Int} {y : Nd} (h : tI ns) (hy : ns[i.toNat]? = some y) : (tk ns i j).length ≤ 3612 := by
  have h1 := @tk_len ns i j h; have h2 := tI_len h hy
  rw [tk, List.length_append, List.length_take]; omega
theorem tk_v {ns : List Nd} {i j v : Int} {c : Nat} {y : Nd} (h : tI ns) (hv : (cnt ns.length (tk ns i j))[c]? = some v) (hy : ns[i.toNat]? = some y) : 0 ≤ v ∧ v ≤ 3612 := by
  have h1 := cnt_le hv; have h2 := @tk_len2 ns i j y h hy; omega
theorem inn_iff {x a b : Int} : inn x a b = true ↔ a ≤ x ∧ x ≤ b := by simp [inn]
theorem tI_of {ns : List Nd} {y : Nd} (h : inn ns.length 1 300 = true) (hy : ns[(ns.length - 1 : Int).toNat]? = some y) (hk : y.kind = 22) (hd : deepOf ns (ns.length - 1) ≠ 0) : tI ns := by
  have := inn_iff.1 h
  exact ⟨by omega, by omega, by rw [kindAt, ndAt_of hy, hk], hd⟩
theorem tI_inn {ns : List Nd} (h : inn ns.length 1 300 = false) : ¬ tI ns := by
  intro hh; have : inn ns.length 1 300 = true := inn_iff.2 ⟨by have := hh.1; omega, by have := hh.2.1; omega⟩
  rw [h] at this; cases this
theorem tI_kind {ns : List Nd} {y : Nd} (hy : ns[(ns.length - 1 : Int).toNat]? = some y) (hk : y.kind ≠ 22) : ¬ tI ns := by
  intro hh; have := hh.2.2.1; rw [kindAt, ndAt_of hy] at this; exact hk this
theorem tk_full {ns : List Nd} {i : Int} (hl : ¬ i < ns.length) : allKids (ns.take i.toNat) = allKids ns := by rw [List.take_of_length_le (by omega)]
theorem tE_next {ns : List Nd} {i v : Int} (h : tE ns i) (hl : i < (ns.length - 1 : Int)) (hv : (((cnt ns.length (allKids ns)).take (ns.length - 1 : Int).toNat)[i.toNat]?) = some v) (h1 : v = 1) : tE ns (i + 1) := by
  have := tE_at hv h.1 hl
  refine ⟨by have := h.1; omega, by omega, fun c hc => ?_⟩
  by_cases e : (c : Int) < i
  · exact h.2.2 c e
  · have := h.1
    obtain rfl : i = (c : Int) := by omega
    omega
def lTree2 (x : List Nd) (o : Int) : LS := {
  ι := Int, inv := fun j => 0 ≤ j ∧ j ≤ (ndAt x o).kids.length,
  regs := fun j => [(0, nds x), (3, .int .i64 x.length), (4, oints (cnt x.length (tk x o j))), (34, nds x), (35, .int .i64 x.length), (36, .int .i64 o), (41, ints (ndAt x o).kids), (42, .int .i64 (ndAt x o).kids.length), (43, .int .i64 j)], als := [], meas := fun j => (ndAt x o).kids.length - j.toNat }
def lTree (x : List Nd) : LS := {
  ι := Int, inv := fun i => 0 ≤ i ∧ i ≤ x.length,
  regs := fun i => [(0, nds x), (3, .int .i64 x.length), (4, oints (cnt x.length (allKids (x.take i.toNat)))), (34, nds x), (35, .int .i64 x.length), (36, .int .i64 i)], als := [], meas := fun i => x.length - i.toNat,
  sub := fun i => [(9, lTree2 x i)] }
def lTree3 (x : List Nd) : LS := {
  ι := Int, inv := tE x,
  regs := fun i => [(58, oints ((cnt x.length (allKids x)).take (x.length - 1 : Int).toNat)), (59, .int .i64 (x.length - 1)), (60, .int .i64 i)], als := [], meas := fun i => x.length - 1 - i.toNat }
def s_iTreeOk  : Sig := { X := List Nd, args := fun x => [nds x], pre := fun x => okNds x ∧ x.length ≤ 2 ^ 30, Y := Unit, post := fun x y => True, res := fun x y => .bool (treeOk x), outs := fun x y => [.top], keep := false }
theorem iTreeOk_vc (x : List Nd) : vcFun Go.Proofs.Tryz.prog (Γof [(92, 0, s_inRange), (110, 0, s_iDeepOf)]) (Eof [(39, ⟨Int,intA⟩)]) false (Lof ([(6,lTree x), (15,lTree3 x)])) Go.Proofs.Tryz.f52.ntmps Go.Proofs.Tryz.f52.results.toList (Go.Proofs.Tryz.f52.body.getD .skip) s_iTreeOk x = ((∀ (y : Unit), True → True ∧ True ∧ True) ∧ ∃ (x_1 : Int × Int × Int), True ∧ (↑(List.length x) : Int) = x_1.fst ∧ (1 : Int) = x_1.snd.fst ∧ (300 : Int) = x_1.snd.snd ∧ ∀ (y : Unit), True → bcase (!inn x_1.fst x_1.snd.fst x_1.snd.snd) (∃ (y : Unit), True ∧ false = treeOk x ∧ True) (inR IntKind.i64 ((↑(List.length x) : Int) - (1 : Int)) ∧ ((0 : Int) ≤ (↑(List.length x) : Int) - (1 : Int) ∧ (↑(List.length x) : Int) - (1 : Int) < (↑(List.length x) : Int)) ∧ ∀ (e : Nd), x[Int.toNat ((↑(List.length x) : Int) - (1 : Int))]? = some e → bcase (e.kind != (22 : Int)) (∃ (y : Unit), True ∧ false = treeOk x ∧ True) (inR IntKind.i64 ((↑(List.length x) : Int) - (1 : Int)) ∧ ∃ (x_2 : List Nd × Int), (okNds x_2.fst ∧ List.length x_2.fst ≤ (1073741824 : Nat)) ∧ AV.sl false (0 : Nat) (4 : Nat) Nd (ndA false) x = AV.sl false (0 : Nat) (4 : Nat) Nd (ndA false) x_2.fst ∧ (↑(List.length x) : Int) - (1 : Int) = x_2.snd ∧ ∀ (y : Unit), True → bcase (deepOf x_2.fst x_2.snd == (0 : Int)) (∃ (y : Unit), True ∧ false = treeOk x ∧ True) (((0 : Int) ≤ (↑(List.length x) : Int) ∧ (↑(List.length x) : Int) ≤ (↑(List.length x) : Int) ∧ (↑(8 : Nat) : Int) * (↑(List.length x) : Int) ≤ (2 : Int) ^ (46 : Nat) ∧ (↑(List.length x) : Int) ≤ (2 : Int) ^ (46 : Nat)) ∧ ∃ (x_3 : Int), (0 : Int) = x_3 ∧ (∃ (i : Int), ((0 : Int) ≤ i ∧ i ≤ (↑(List.length x) : Int)) ∧ (AV.sl false (0 : Nat) (4 : Nat) Nd (ndA false) x = AV.sl false (0 : Nat) (4 : Nat) Nd (ndA false) x ∧ (↑(List.length x) : Int) = (↑(List.length x) : Int) ∧ AV.sl true (0 : Nat) (1 : Nat) Int intA (List.replicate (Int.toNat (↑(List.length x) : Int)) x_3) = AV.sl true (0 : Nat) (1 : Nat) Int intA (cnt (List.length x) (allKids (List.take (Int.toNat i) x))) ∧ AV.sl false (0 : Nat) (4 : Nat) Nd (ndA false) x = AV.sl false (0 : Nat) (4 : Nat) Nd (ndA false) x ∧ (↑(List.length x) : Int) = (↑(List.length x) : Int) ∧ (0 : Int) = i ∧ True) ∧ True) ∧ ∀ (i : Int), (0 : Int) ≤ i ∧ i ≤ (↑(List.length x) : Int) → bcase (decide (i < (↑(List.length x) : Int))) (((0 : Int) ≤ i ∧ i < (↑(List.length x) : Int)) ∧ ∀ (e : Nd), x[Int.toNat i]? = some e → (∃ (i_1 : Int), ((0 : Int) ≤ i_1 ∧ i_1 ≤ (↑(List.length (ndAt x i).kids) : Int)) ∧ (AV.sl false (0 : Nat) (4 : Nat) Nd (ndA false) x = AV.sl false (0 : Nat) (4 : Nat) Nd (ndA false) x ∧ (↑(List.length x) : Int) = (↑(List.length x) : Int) ∧ AV.sl true (0 : Nat) (1 : Nat) Int intA (cnt (List.length x) (allKids (List.take (Int.toNat i) x))) = AV.sl true (0 : Nat) (1 : Nat) Int intA (cnt (List.length x) (tk x i i_1)) ∧ AV.sl false (0 : Nat) (4 : Nat) Nd (ndA false) x = AV.sl false (0 : Nat) (4 : Nat) Nd (ndA false) x ∧ (↑(List.length x) : Int) = (↑(List.length x) : Int) ∧ i = i ∧ AV.sl false (0 : Nat) (1 : Nat) Int intA e.kids = AV.sl false (0 : Nat) (1 : Nat) Int intA (ndAt x i).kids ∧ (↑(List.length e.kids) : Int) = (↑(List.length (ndAt x i).kids) : Int) ∧ (0 : Int) = i_1 ∧ True) ∧ True) ∧ ∀ (i_1 : Int), (0 : Int) ≤ i_1 ∧ i_1 ≤ (↑(List.length (ndAt x i).kids) : Int) → bcase (decide (i_1 < (↑(List.length (ndAt x i).kids) : Int))) (((0 : Int) ≤ i_1 ∧ i_1 < (↑(List.length (ndAt x i).kids) : Int)) ∧ ∀ (e : Int), (ndAt x i).kids[Int.toNat i_1]? = some e → ((0 : Int) ≤ e ∧ e < (↑(List.length (cnt (List.length x) (tk x i i_1))) : Int)) ∧ Int.toNat e < List.length (cnt (List.length x) (tk x i i_1)) ∧ ∀ (x_4 : Int), (cnt (List.length x) (tk x i i_1))[Int.toNat e]? = some x_4 → inR IntKind.i64 (x_4 + (1 : Int)) ∧ ((0 : Int) ≤ e ∧ e < (↑(List.length (cnt (List.length x) (tk x i i_1))) : Int)) ∧ Int.toNat e < List.length (cnt (List.length x) (tk x i i_1)) ∧ ∀ (x_5 : Int), (cnt (List.length x) (tk x i i_1))[Int.toNat e]? = some x_5 → ∃ (x' : Int), ((@List.nil AV) = [] ∧ (@List.nil AV) = []) ∧ x_4 + (1 : Int) = x' ∧ inR IntKind.i64 (i_1 + (1 : Int)) ∧ ∃ (i' : Int), ((0 : Int) ≤ i' ∧ i' ≤ (↑(List.length (ndAt x i).kids) : Int)) ∧ List.length (ndAt x i).kids - Int.toNat i' < List.length (ndAt x i).kids - Int.toNat i_1 ∧ (AV.sl false (0 : Nat) (4 : Nat) Nd (ndA false) x = AV.sl false (0 : Nat) (4 : Nat) Nd (ndA false) x ∧ (↑(List.length x) : Int) = (↑(List.length x) : Int) ∧ AV.sl true (0 : Nat) (1 : Nat) Int intA (List.set (cnt (List.length x) (tk x i i_1)) (Int.toNat e) x') = AV.sl true (0 : Nat) (1 : Nat) Int intA (cnt (List.length x) (tk x i i')) ∧ AV.sl false (0 : Nat) (4 : Nat) Nd (ndA false) x = AV.sl false (0 : Nat) (4 : Nat) Nd (ndA false) x ∧ (↑(List.length x) : Int) = (↑(List.length x) : Int) ∧ i = i ∧ AV.sl false (0 : Nat) (1 : Nat) Int intA (ndAt x i).kids = AV.sl false (0 : Nat) (1 : Nat) Int intA (ndAt x i).kids ∧ (↑(List.length (ndAt x i).kids) : Int) = (↑(List.length (ndAt x i).kids) : Int) ∧ i_1 + (1 : Int) = i' ∧ True) ∧ True) (inR IntKind.i64 (i + (1 : Int)) ∧ ∃ (i' : Int), ((0 : Int) ≤ i' ∧ i' ≤ (↑(List.length x) : Int)) ∧ List.length x - Int.toNat i' < List.length x - Int.toNat i ∧ (AV.sl false (0 : Nat) (4 : Nat) Nd (ndA false) x = AV.sl false (0 : Nat) (4 : Nat) Nd (ndA false) x ∧ (↑(List.length x) : Int) = (↑(List.length x) : Int) ∧ AV.sl true (0 : Nat) (1 : Nat) Int intA (cnt (List.length x) (tk x i i_1)) = AV.sl true (0 : Nat) (1 : Nat) Int intA (cnt (List.length x) (allKids (List.take (Int.toNat i') x))) ∧ AV.sl false (0 : Nat) (4 : Nat) Nd (ndA false) x = AV.sl false (0 : Nat) (4 : Nat) Nd (ndA false) x ∧ (↑(List.length x) : Int) = (↑(List.length x) : Int) ∧ i + (1 : Int) = i' ∧ True) ∧ True)) (inR IntKind.i64 ((↑(List.length x) : Int) - (1 : Int)) ∧ ((0 : Int) ≤ (0 : Int) ∧ (0 : Int) ≤ (↑(List.length x) : Int) - (1 : Int) ∧ (↑(List.length x) : Int) - (1 : Int) ≤ (↑(List.length (cnt (List.length x) (allKids (List.take (Int.toNat i) x)))) : Int)) ∧ (∃ (i_1 : Int), tE x i_1 ∧ (AV.sl true (0 : Nat) (1 : Nat) Int intA (List.take (Int.toNat ((↑(List.length x) : Int) - (1 : Int))) (cnt (List.length x) (allKids (List.take (Int.toNat i) x)))) = AV.sl true (0 : Nat) (1 : Nat) Int intA (List.take (Int.toNat ((↑(List.length x) : Int) - (1 : Int))) (cnt (List.length x) (allKids x))) ∧ (↑(List.length (List.take (Int.toNat ((↑(List.length x) : Int) - (1 : Int))) (cnt (List.length x) (allKids (List.take (Int.toNat i) x))))) : Int) = (↑(List.length x) : Int) - (1 : Int) ∧ (0 : Int) = i_1 ∧ True) ∧ True) ∧ ∀ (i : Int), tE x i → bcase (decide (i < (↑(List.length x) : Int) - (1 : Int))) (((0 : Int) ≤ i ∧ i < (↑(List.length (List.take (Int.toNat ((↑(List.length x) : Int) - (1 : Int))) (cnt (List.length x) (allKids x)))) : Int)) ∧ Int.toNat i < List.length (List.take (Int.toNat ((↑(List.length x) : Int) - (1 : Int))) (cnt (List.length x) (allKids x))) ∧ ∀ (x_4 : Int), (List.take (Int.toNat ((↑(List.length x) : Int) - (1 : Int))) (cnt (List.length x) (allKids x)))[Int.toNat i]? = some x_4 → bcase (x_4 != (1 : Int)) (∃ (y : Unit), True ∧ false = treeOk x ∧ True) (inR IntKind.i64 (i + (1 : Int)) ∧ ∃ (i' : Int), tE x i' ∧ List.length x - (1 : Nat) - Int.toNat i' < List.length x - (1 : Nat) - Int.toNat i ∧ (AV.sl true (0 : Nat) (1 : Nat) Int intA (List.take (Int.toNat ((↑(List.length x) : Int) - (1 : Int))) (cnt (List.length x) (allKids x))) = AV.sl true (0 : Nat) (1 : Nat) Int intA (List.take (Int.toNat ((↑(List.length x) : Int) - (1 : Int))) (cnt (List.length x) (allKids x))) ∧ (↑(List.length x) : Int) - (1 : Int) = (↑(List.length x) : Int) - (1 : Int) ∧ i + (1 : Int) = i' ∧ True) ∧ True)) (∃ (y : Unit), True ∧ true = treeOk x ∧ True)))))) := by kernel_rfl
theorem iTreeOk_ok  : Contract G Tryz.prog 52 s_iTreeOk :=
  vcFun_ok (Γ := Γof [(92, 0, s_inRange), (110, 0, s_iDeepOf)]) (E := Eof [(39, ⟨Int,intA⟩)]) (ov := false) (L := fun x => Lof ([(6,lTree x), (15,lTree3 x)])) Tryz.func52 rfl (by decide) (Γof_ok (l := [(92, 0, s_inRange), (110, 0, s_iDeepOf)]) ⟨inRange_ok, iDeepOf_ok, trivial⟩) fun (x : List Nd) (hx : okNds x ∧ x.length ≤ 2 ^ 30) => (iTreeOk_vc  x).mpr (by
  obtain ⟨h1, h2⟩ := hx; have hl := h1.1
  (repeat' first | with_reducible rfl | exact True.intro | refine inR_i64 ?_ ?_ | with_reducible refine And.intro ?_ ?_ | with_reducible refine bcase_dec (fun _ => ?_) (fun _ => ?_) | with_reducible refine bcase_bne (fun _ => ?_) (fun _ => ?_) | with_reducible refine bcase_beq (fun _ => ?_) (fun _ => ?_) | with_reducible refine bcase_not (fun _ => ?_) (fun _ => ?_) | refine bcase_intro (fun _ => ?_) (fun _ => ?_) | refine sl_eq ?_ | refine ex_flip () ?_ ?_ | (apply ex_flip6 <;> try dsimp only) | (apply ex_flip5 <;> try dsimp only) | (apply ex_flip4 <;> try dsimp only) | (apply ex_flip3 <;> try dsimp only) | (apply ex_flip2 <;> try dsimp only) | apply ex_flip | (refine Prod.forall.2 ?_; intro _; try dsimp only) | (intro _; try dsimp only))
  all_goals try (have t1 := inn_iff.1 (show inn x.length 1 300 = true by assumption))
  all_goals try (have t0 := tI_of (by assumption) (by assumption) (by assumption) (by assumption))
  all_goals first
    | rfl
    | exact treeOk_not (tI_inn (by assumption))
    | exact treeOk_not (tI_kind (by assumption) (by assumption))
    | exact treeOk_not (fun h => h.2.2.2 (by assumption))
    | exact cnt_nil
    | (rw [tk_init]; done)
    | (rw [ndAt_of (by assumption)]; done)
    | exact (tI_kid (by assumption) (by assumption) (by assumption)).1
    | (rw [cnt_len]; exact (tI_kid (by assumption) (by assumption) (by assumption)).2)
    | (have := tI_kid (by assumption) (show (ndAt x _).kids[_]? = some _ by assumption) (by assumption); rw [cnt_len]; omega)
    | (rw [tk_next (by omega) (by assumption)]; exact cnt_inc (tI_kid (by assumption) (by assumption) (by assumption)).1 (tI_kid (by assumption) (by assumption) (by assumption)).2 (by assumption))
    | (rw [tk_done (by omega) (by assumption) (by assumption)]; done)
    | (rw [tk_full (by assumption)]; done)
    | (have := tk_v (by assumption) (by assumption) (by assumption); omega)
    | (have := tI_len (by assumption) (by assumption); (try simp only [i64max] at *); omega)
    | exact treeOk_yes (by assumption) (by assumption) (by assumption)
    | exact treeOk_no (tE_at (by assumption) (‹tE _ _›.1) (by assumption)) (‹tE _ _›.1) (by assumption) (by assumption)
    | exact tE_next (by assumption) (by assumption) (by assumption) (by assumption)
    | exact ⟨by omega, by omega, fun c hc => by omega⟩
    | (rw [List.length_take, cnt_len]; omega)
    | ((try simp only [i64max, room, List.length_replicate, cnt_len] at *); omega)
    | (obtain ⟨_, _, _⟩ := ‹tE _ _›; (try rw [List.length_take, cnt_len]); (try simp only [i64max] at *); omega)
    | skip)

end Go.My
end
section
/- Nodes: the reference's functions. -/
set_option linter.unusedVariables false
set_option linter.unusedSimpArgs false
namespace Go.My
open Go.Eng Go.Proofs
variable {G : GInv}

def s_l05Value  : Sig := { X := Int, args := fun x => [.int .i64 x], pre := fun x => True, Y := Unit, post := fun x y => True, res := fun x y => .bool (isVal x), outs := fun x y => [.top], keep := false }
theorem l05Value_vc (x : Int) : vcFun Go.Proofs.Tryz.prog (Γof [(84, 0, s_l01In)]) (Eof []) false (Lof ([])) Go.Proofs.Tryz.f83.ntmps Go.Proofs.Tryz.f83.results.toList (Go.Proofs.Tryz.f83.body.getD .skip) s_l05Value x = ((∀ (y : Unit), True → True ∧ True ∧ True) ∧ ∃ (x_1 : Int × Int × Int), True ∧ x = x_1.fst ∧ (1 : Int) = x_1.snd.fst ∧ (11 : Int) = x_1.snd.snd ∧ ∀ (y : Unit), True → ∃ (y : Unit), True ∧ inn x_1.fst x_1.snd.fst x_1.snd.snd = isVal x ∧ True) := by kernel_rfl
theorem l05Value_ok  : Contract G Tryz.prog 83 s_l05Value :=
  vcFun_ok (Γ := Γof [(84, 0, s_l01In)]) (E := Eof []) (ov := false) (L := fun x => Lof ([])) Tryz.func83 rfl (by decide) (Γof_ok (l := [(84, 0, s_l01In)]) ⟨l01In_ok, trivial⟩) fun (x : Int) (hx : True) => (l05Value_vc  x).mpr (by
  (repeat' first | with_reducible rfl | exact True.intro | refine inR_i64 ?_ ?_ | with_reducible refine And.intro ?_ ?_ | with_reducible refine bcase_dec (fun _ => ?_) (fun _ => ?_) | with_reducible refine bcase_bne (fun _ => ?_) (fun _ => ?_) | with_reducible refine bcase_beq (fun _ => ?_) (fun _ => ?_) | with_reducible refine bcase_not (fun _ => ?_) (fun _ => ?_) | refine bcase_intro (fun _ => ?_) (fun _ => ?_) | refine sl_eq ?_ | refine ex_flip () ?_ ?_ | (apply ex_flip6 <;> try dsimp only) | (apply ex_flip5 <;> try dsimp only) | (apply ex_flip4 <;> try dsimp only) | (apply ex_flip3 <;> try dsimp only) | (apply ex_flip2 <;> try dsimp only) | apply ex_flip | (refine Prod.forall.2 ?_; intro _; try dsimp only) | (intro _; try dsimp only)) <;> (try dsimp only at *) <;> (try simp only [i64max, List.length_cons, List.length_nil]) <;> (try omega)
  all_goals simp [isVal, beqI, *])

def s_l05Statement  : Sig := { X := Int, args := fun x => [.int .i64 x], pre := fun x => True, Y := Unit, post := fun x y => True, res := fun x y => .bool (isSt x), outs := fun x y => [.top], keep := false }
theorem l05Statement_vc (x : Int) : vcFun Go.Proofs.Tryz.prog (Γof [(84, 0, s_l01In)]) (Eof []) false (Lof ([])) Go.Proofs.Tryz.f204.ntmps Go.Proofs.Tryz.f204.results.toList (Go.Proofs.Tryz.f204.body.getD .skip) s_l05Statement x = ((∀ (y : Unit), True → True ∧ True ∧ True) ∧ ∃ (x_1 : Int × Int × Int), True ∧ x = x_1.fst ∧ (12 : Int) = x_1.snd.fst ∧ (17 : Int) = x_1.snd.snd ∧ ∀ (y : Unit), True → bcase (inn x_1.fst x_1.snd.fst x_1.snd.snd) (∃ (y : Unit), True ∧ true = isSt x ∧ True) (∃ (y : Unit), True ∧ (x == (19 : Int)) = isSt x ∧ True)) := by kernel_rfl
theorem l05Statement_ok  : Contract G Tryz.prog 204 s_l05Statement :=
  vcFun_ok (Γ := Γof [(84, 0, s_l01In)]) (E := Eof []) (ov := false) (L := fun x => Lof ([])) Tryz.func204 rfl (by decide) (Γof_ok (l := [(84, 0, s_l01In)]) ⟨l01In_ok, trivial⟩) fun (x : Int) (hx : True) => (l05Statement_vc  x).mpr (by
  (repeat' first | with_reducible rfl | exact True.intro | refine inR_i64 ?_ ?_ | with_reducible refine And.intro ?_ ?_ | with_reducible refine bcase_dec (fun _ => ?_) (fun _ => ?_) | with_reducible refine bcase_bne (fun _ => ?_) (fun _ => ?_) | with_reducible refine bcase_beq (fun _ => ?_) (fun _ => ?_) | with_reducible refine bcase_not (fun _ => ?_) (fun _ => ?_) | refine bcase_intro (fun _ => ?_) (fun _ => ?_) | refine sl_eq ?_ | refine ex_flip () ?_ ?_ | (apply ex_flip6 <;> try dsimp only) | (apply ex_flip5 <;> try dsimp only) | (apply ex_flip4 <;> try dsimp only) | (apply ex_flip3 <;> try dsimp only) | (apply ex_flip2 <;> try dsimp only) | apply ex_flip | (refine Prod.forall.2 ?_; intro _; try dsimp only) | (intro _; try dsimp only)) <;> (try dsimp only at *) <;> (try simp only [i64max, List.length_cons, List.length_nil]) <;> (try omega)
  all_goals simp [isSt, isStep, beqI, *])

def s_l05Count  : Sig := { X := Int, args := fun x => [.int .i64 x], pre := fun x => True, Y := Unit, post := fun x y => True, res := fun x y => .tup [.int .i64 (lohi x).1, .int .i64 (lohi x).2], outs := fun x y => [.top], keep := false }
theorem l05Count_vc (x : Int) : vcFun Go.Proofs.Tryz.prog (Γof []) (Eof []) false (Lof ([])) Go.Proofs.Tryz.f202.ntmps Go.Proofs.Tryz.f202.results.toList (Go.Proofs.Tryz.f202.body.getD .skip) s_l05Count x = ((∀ (y : Unit), True → (True ∧ True ∧ True) ∧ True ∧ True) ∧ bcase (x == (4 : Int)) (∃ (y : Unit), True ∧ (0 : Int) = (lohi x).fst ∧ (12 : Int) = (lohi x).snd ∧ True) (bcase (x == (18 : Int)) (∃ (y : Unit), True ∧ (0 : Int) = (lohi x).fst ∧ (12 : Int) = (lohi x).snd ∧ True) (bcase (x == (21 : Int)) (∃ (y : Unit), True ∧ (0 : Int) = (lohi x).fst ∧ (12 : Int) = (lohi x).snd ∧ True) (bcase (x == (22 : Int)) (∃ (y : Unit), True ∧ (0 : Int) = (lohi x).fst ∧ (12 : Int) = (lohi x).snd ∧ True) (bcase (x == (5 : Int)) (∃ (y : Unit), True ∧ (1 : Int) = (lohi x).fst ∧ (12 : Int) = (lohi x).snd ∧ True) (bcase (x == (9 : Int)) (∃ (y : Unit), True ∧ (1 : Int) = (lohi x).fst ∧ (12 : Int) = (lohi x).snd ∧ True) (bcase (x == (20 : Int)) (∃ (y : Unit), True ∧ (1 : Int) = (lohi x).fst ∧ (12 : Int) = (lohi x).snd ∧ True) (bcase (x == (6 : Int)) (∃ (y : Unit), True ∧ (1 : Int) = (lohi x).fst ∧ (1 : Int) = (lohi x).snd ∧ True) (bcase (x == (11 : Int)) (∃ (y : Unit), True ∧ (1 : Int) = (lohi x).fst ∧ (1 : Int) = (lohi x).snd ∧ True) (bcase (x == (13 : Int)) (∃ (y : Unit), True ∧ (1 : Int) = (lohi x).fst ∧ (1 : Int) = (lohi x).snd ∧ True) (bcase (x == (14 : Int)) (∃ (y : Unit), True ∧ (1 : Int) = (lohi x).fst ∧ (1 : Int) = (lohi x).snd ∧ True) (bcase (x == (7 : Int)) (∃ (y : Unit), True ∧ (2 : Int) = (lohi x).fst ∧ (12 : Int) = (lohi x).snd ∧ True) (bcase (x == (10 : Int)) (∃ (y : Unit), True ∧ (2 : Int) = (lohi x).fst ∧ (12 : Int) = (lohi x).snd ∧ True) (bcase (x == (8 : Int)) (∃ (y : Unit), True ∧ (3 : Int) = (lohi x).fst ∧ (3 : Int) = (lohi x).snd ∧ True) (bcase (x == (12 : Int)) (∃ (y : Unit), True ∧ (0 : Int) = (lohi x).fst ∧ (1 : Int) = (lohi x).snd ∧ True) (bcase (x == (15 : Int)) (∃ (y : Unit), True ∧ (0 : Int) = (lohi x).fst ∧ (1 : Int) = (lohi x).snd ∧ True) (bcase (x == (16 : Int)) (∃ (y : Unit), True ∧ (2 : Int) = (lohi x).fst ∧ (3 : Int) = (lohi x).snd ∧ True) (bcase (x == (17 : Int)) (∃ (y : Unit), True ∧ (2 : Int) = (lohi x).fst ∧ (2 : Int) = (lohi x).snd ∧ True) (∃ (y : Unit), True ∧ (0 : Int) = (lohi x).fst ∧ (0 : Int) = (lohi x).snd ∧ True))))))))))))))))))) := by kernel_rfl
theorem l05Count_ok  : Contract G Tryz.prog 202 s_l05Count :=
  vcFun_ok (Γ := Γof []) (E := Eof []) (ov := false) (L := fun x => Lof ([])) Tryz.func202 rfl (by decide) (Γof_ok (l := []) trivial) fun (x : Int) (hx : True) => (l05Count_vc  x).mpr (by
  (repeat' first | with_reducible rfl | exact True.intro | refine inR_i64 ?_ ?_ | with_reducible refine And.intro ?_ ?_ | with_reducible refine bcase_dec (fun _ => ?_) (fun _ => ?_) | with_reducible refine bcase_bne (fun _ => ?_) (fun _ => ?_) | with_reducible refine bcase_beq (fun _ => ?_) (fun _ => ?_) | with_reducible refine bcase_not (fun _ => ?_) (fun _ => ?_) | refine bcase_intro (fun _ => ?_) (fun _ => ?_) | refine sl_eq ?_ | refine ex_flip () ?_ ?_ | (apply ex_flip6 <;> try dsimp only) | (apply ex_flip5 <;> try dsimp only) | (apply ex_flip4 <;> try dsimp only) | (apply ex_flip3 <;> try dsimp only) | (apply ex_flip2 <;> try dsimp only) | apply ex_flip | (refine Prod.forall.2 ?_; intro _; try dsimp only) | (intro _; try dsimp only)) <;> (try dsimp only at *) <;> (try simp only [i64max, List.length_cons, List.length_nil]) <;> (try omega)
  all_goals simp [lohi, *])

def fitsP (x : List Nd × Int × Int) : Prop := okNds x.1 ∧ isNd x.1 x.2.1 = true ∧ ((ndAt x.1 x.2.1).kind = 10 → ∀ c, (ndAt x.1 x.2.1).kids[x.2.2.toNat]? = some c → kindAt x.1 c = 5 → ∃ h t, (ndAt x.1 c).kids = h :: t ∧ isNd x.1 h = true) ∧
  (0 ≤ x.2.2 ∧ x.2.2 < (ndAt x.1 x.2.1).kids.length) ∧ ∀ c, (ndAt x.1 x.2.1).kids[x.2.2.toNat]? = some c → 0 ≤ c ∧ c < x.1.length
theorem fitsP1 {x : List Nd × Int × Int} {y : Nd} (h : fitsP x) (hy : x.1[x.2.1.toNat]? = some y) : 0 ≤ x.2.2 ∧ x.2.2 < y.kids.length := by
  have := h.2.2.2.1; rwa [ndAt_of hy] at this
theorem fitsP2 {x : List Nd × Int × Int} {y : Nd} {c : Int} (h : fitsP x) (hy : x.1[x.2.1.toNat]? = some y) (hc : y.kids[x.2.2.toNat]? = some c) : 0 ≤ c ∧ c < x.1.length := by
  have := h.2.2.2.2 c; rw [ndAt_of hy] at this; exact this hc
theorem fitsP3 {x : List Nd × Int × Int} {y z : Nd} {c : Int} (h : fitsP x) (hy : x.1[x.2.1.toNat]? = some y) (hc : y.kids[x.2.2.toNat]? = some c) (hz : x.1[c.toNat]? = some z) (hk : y.kind = 10) (hz5 : z.kind = 5) : ∃ h t, z.kids = h :: t ∧ isNd x.1 h = true := by
  have := h.2.2.1; rw [ndAt_of hy] at this
  have := this hk c hc; rw [kindAt, ndAt_of hz] at this; exact this hz5
theorem fitsP4 {x : List Nd × Int × Int} {y z : Nd} {c d : Int} (h : fitsP x) (hy : x.1[x.2.1.toNat]? = some y) (hc : y.kids[x.2.2.toNat]? = some c) (hz : x.1[c.toNat]? = some z) (hk : y.kind = 10) (hz5 : z.kind = 5) (hd : z.kids[0]? = some d) : (0 ≤ d ∧ d < x.1.length) ∧ z.kids.headD 0 = d := by
  obtain ⟨a, t, e, ha⟩ := fitsP3 h hy hc hz hk hz5
  rw [e] at hd ⊢; cases hd; exact ⟨isNd_iff.1 ha, rfl⟩
theorem fitsP5 {x : List Nd × Int × Int} {y z : Nd} {c : Int} (h : fitsP x) (hy : x.1[x.2.1.toNat]? = some y) (hc : y.kids[x.2.2.toNat]? = some c) (hz : x.1[c.toNat]? = some z) (hk : y.kind = 10) (hz5 : z.kind = 5) : 0 < z.kids.length := by
  obtain ⟨a, t, e, ha⟩ := fitsP3 h hy hc hz hk hz5
  rw [e]; simp
def fitR (x : List Nd × Int × Int) : Bool := fitK x.1 (ndAt x.1 x.2.1) x.2.2 ((ndAt x.1 x.2.1).kids.getD x.2.2.toNat 0)
theorem fitR_of {x : List Nd × Int × Int} {y z : Nd} {c : Int} (hy : x.1[x.2.1.toNat]? = some y) (hc : y.kids[x.2.2.toNat]? = some c) (hz : x.1[c.toNat]? = some z) :
    fitR x = (fitKind y.kind y.kids.length x.2.2 z.kind && (if y.kind = 10 ∧ 0 < x.2.2 then decide (kindAt x.1 (z.kids.headD 0) = 1) else true)) := by
  rw [fitR, ndAt_of hy, List.getD, hc, Option.getD_some, fitK, kindAt, ndAt_of hz]
def s_l05Fits  : Sig := { X := List Nd × Int × Int, args := fun x => [nds x.1, .int .i64 x.2.1, .int .i64 x.2.2], pre := fun x => fitsP x, Y := Unit, post := fun x y => True, res := fun x y => .bool (fitR x), outs := fun x y => [.top, .top, .top], keep := false }
theorem l05Fits_vc (x : List Nd × Int × Int) : vcFun Go.Proofs.Tryz.prog (Γof [(83, 0, s_l05Value), (204, 0, s_l05Statement)]) (Eof []) false (Lof ([])) Go.Proofs.Tryz.f205.ntmps Go.Proofs.Tryz.f205.results.toList (Go.Proofs.Tryz.f205.body.getD .skip) s_l05Fits x = ((∀ (y : Unit), True → True ∧ True ∧ True ∧ True ∧ True) ∧ ((0 : Int) ≤ x.snd.fst ∧ x.snd.fst < (↑(List.length x.fst) : Int)) ∧ ∀ (e : Nd), x.fst[Int.toNat x.snd.fst]? = some e → ((0 : Int) ≤ x.snd.snd ∧ x.snd.snd < (↑(List.length e.kids) : Int)) ∧ ∀ (e_1 : Int), e.kids[Int.toNat x.snd.snd]? = some e_1 → ((0 : Int) ≤ e_1 ∧ e_1 < (↑(List.length x.fst) : Int)) ∧ ∀ (e_2 : Nd), x.fst[Int.toNat e_1]? = some e_2 → bcase (e.kind == (9 : Int)) (inR IntKind.i64 (x.snd.snd + (1 : Int)) ∧ bcase (decide (x.snd.snd + (1 : Int) < (↑(List.length e.kids) : Int))) (∃ (y : Unit), True ∧ (e_2.kind == (1 : Int)) = fitR x ∧ True) (∃ (x_1 : Int), True ∧ e_2.kind = x_1 ∧ ∀ (y : Unit), True → ∃ (y : Unit), True ∧ isVal x_1 = fitR x ∧ True)) (bcase (e.kind == (20 : Int)) (inR IntKind.i64 (x.snd.snd + (1 : Int)) ∧ bcase (decide (x.snd.snd + (1 : Int) < (↑(List.length e.kids) : Int))) (∃ (y : Unit), True ∧ (e_2.kind == (1 : Int)) = fitR x ∧ True) (∃ (y : Unit), True ∧ (e_2.kind == (18 : Int)) = fitR x ∧ True)) (bcase (e.kind == (10 : Int)) (bcase (decide (x.snd.snd > (0 : Int))) (bcase (e_2.kind == (5 : Int)) (((0 : Int) ≤ (0 : Int) ∧ (0 : Int) < (↑(List.length e_2.kids) : Int)) ∧ ∀ (e : Int), e_2.kids[(0 : Nat)]? = some e → ((0 : Int) ≤ e ∧ e < (↑(List.length x.fst) : Int)) ∧ ∀ (e_3 : Nd), x.fst[Int.toNat e]? = some e_3 → ∃ (y : Unit), True ∧ (e_3.kind == (1 : Int)) = fitR x ∧ True) (∃ (y : Unit), True ∧ false = fitR x ∧ True)) (∃ (x_1 : Int), True ∧ e_2.kind = x_1 ∧ ∀ (y : Unit), True → ∃ (y : Unit), True ∧ isVal x_1 = fitR x ∧ True)) (bcase (e.kind == (16 : Int)) (bcase (decide (x.snd.snd > (0 : Int))) (∃ (y : Unit), True ∧ (e_2.kind == (18 : Int)) = fitR x ∧ True) (∃ (x_1 : Int), True ∧ e_2.kind = x_1 ∧ ∀ (y : Unit), True → ∃ (y : Unit), True ∧ isVal x_1 = fitR x ∧ True)) (bcase (e.kind == (17 : Int)) (bcase (decide (x.snd.snd > (0 : Int))) (∃ (y : Unit), True ∧ (e_2.kind == (18 : Int)) = fitR x ∧ True) (∃ (x_1 : Int), True ∧ e_2.kind = x_1 ∧ ∀ (y : Unit), True → ∃ (y : Unit), True ∧ isVal x_1 = fitR x ∧ True)) (bcase (e.kind == (18 : Int)) (∃ (x_1 : Int), True ∧ e_2.kind = x_1 ∧ ∀ (y : Unit), True → ∃ (y : Unit), True ∧ isSt x_1 = fitR x ∧ True) (bcase (e.kind == (21 : Int)) (bcase (e_2.kind == (12 : Int)) (∃ (y : Unit), True ∧ true = fitR x ∧ True) (bcase (e_2.kind == (20 : Int)) (∃ (y : Unit), True ∧ true = fitR x ∧ True) (∃ (y : Unit), True ∧ (e_2.kind == (19 : Int)) = fitR x ∧ True))) (bcase (e.kind == (22 : Int)) (bcase (e_2.kind == (21 : Int)) (∃ (y : Unit), True ∧ true = fitR x ∧ True) (bcase (e_2.kind == (12 : Int)) (∃ (y : Unit), True ∧ true = fitR x ∧ True) (bcase (e_2.kind == (20 : Int)) (∃ (y : Unit), True ∧ true = fitR x ∧ True) (∃ (y : Unit), True ∧ (e_2.kind == (19 : Int)) = fitR x ∧ True)))) (∃ (x_1 : Int), True ∧ e_2.kind = x_1 ∧ ∀ (y : Unit), True → ∃ (y : Unit), True ∧ isVal x_1 = fitR x ∧ True))))))))) := by kernel_rfl
theorem l05Fits_ok  : Contract G Tryz.prog 205 s_l05Fits :=
  vcFun_ok (Γ := Γof [(83, 0, s_l05Value), (204, 0, s_l05Statement)]) (E := Eof []) (ov := false) (L := fun x => Lof ([])) Tryz.func205 rfl (by decide) (Γof_ok (l := [(83, 0, s_l05Value), (204, 0, s_l05Statement)]) ⟨l05Value_ok, l05Statement_ok, trivial⟩) fun (x : List Nd × Int × Int) (hx : fitsP x) => (l05Fits_vc  x).mpr (by
  have h := hx; have h1 := h.1; have hl := h1.1; have hn := isNd_iff.1 h.2.1
  (repeat' first | with_reducible rfl | exact True.intro | refine inR_i64 ?_ ?_ | with_reducible refine And.intro ?_ ?_ | with_reducible refine bcase_dec (fun _ => ?_) (fun _ => ?_) | with_reducible refine bcase_bne (fun _ => ?_) (fun _ => ?_) | with_reducible refine bcase_beq (fun _ => ?_) (fun _ => ?_) | with_reducible refine bcase_not (fun _ => ?_) (fun _ => ?_) | refine bcase_intro (fun _ => ?_) (fun _ => ?_) | refine sl_eq ?_ | refine ex_flip () ?_ ?_ | (apply ex_flip6 <;> try dsimp only) | (apply ex_flip5 <;> try dsimp only) | (apply ex_flip4 <;> try dsimp only) | (apply ex_flip3 <;> try dsimp only) | (apply ex_flip2 <;> try dsimp only) | apply ex_flip | (refine Prod.forall.2 ?_; intro _; try dsimp only) | (intro _; try dsimp only))
  all_goals first
    | omega
    | exact (fitsP1 h (by assumption)).1
    | exact (fitsP1 h (by assumption)).2
    | exact (fitsP2 h (by assumption) (by assumption)).1
    | exact (fitsP2 h (by assumption) (by assumption)).2
    | exact fitsP5 h (by assumption) (by assumption) (by assumption) (by assumption) (by assumption)
    | (have := fitsP5 h (by assumption) (by assumption) (by assumption) (by assumption) (by assumption); omega)
    | (have := (fitsP4 h (by assumption) (by assumption) (by assumption) (by assumption) (by assumption) (by assumption)).1; omega)
    | (have hk := (h1.2 _ (memE (show x.1[x.2.1.toNat]? = some _ by assumption))).2; have := fitsP1 h (by assumption); (try simp only [i64max]); omega)
    | (rw [fitR_of (by assumption) (by assumption) (by assumption)]; simp [fitKind, isNm, isBlk, isMem, isTop, isCl, beqI, *]; done)
    | (rw [fitR_of (by assumption) (by assumption) (by assumption), (fitsP4 h (by assumption) (by assumption) (by assumption) (by assumption) (by assumption) (by assumption)).2, kindAt, ndAt_of (by assumption)]; simp [fitKind, isCl, beqI, *]; done)
    | skip)

end Go.My
end
section
/- Nodes: the reference's NodeOk, depths, TreeOk. -/
set_option linter.unusedVariables false
set_option linter.unusedSimpArgs false
namespace Go.My
open Go.Eng Go.Proofs
variable {G : GInv}

def koI (ns : List Nd) (x : Nd) (i : Int) : Prop := 0 ≤ i ∧ i ≤ x.kids.length ∧ ∀ (j : Nat) c, (j : Int) < i → x.kids[j]? = some c → kidOkS ns x j c = true
theorem koI_init {ns : List Nd} {x : Nd} : koI ns x 0 := ⟨by omega, by omega, fun j c h => by omega⟩
theorem koI_next {ns : List Nd} {x : Nd} {i c : Int} (h : koI ns x i) (hc : x.kids[i.toNat]? = some c) (hk : kidOkS ns x i c = true) : koI ns x (i + 1) := by
  obtain ⟨h1, h2, h3⟩ := h
  have := (getE hc).1
  refine ⟨by omega, by omega, fun j d hj hd => ?_⟩
  by_cases e : (j : Int) < i
  · exact h3 j d e hd
  · obtain rfl : j = i.toNat := by omega
    rw [hc] at hd; cases hd
    rwa [show ((i.toNat : Nat) : Int) = i by omega]
theorem koI_done {ns : List Nd} {x : Nd} {i : Int} (h : koI ns x i) (hl : ¬ i < x.kids.length) : allAt (kidOkS ns x) x.kids 0 = true := by
  rw [allAt_iff]; intro j c hc
  exact h.2.2 j c (by have := (getE hc).1; omega) hc
theorem ko_not {ns : List Nd} {x : Nd} {i c : Int} (h0 : 0 ≤ i) (hc : x.kids[i.toNat]? = some c) (hk : kidOkS ns x i c = false) : allAt (kidOkS ns x) x.kids 0 = false := by
  rw [Bool.eq_false_iff]; intro h
  rw [allAt_iff] at h
  have := h _ _ hc
  rw [show ((i.toNat : Nat) : Int) = i by omega, hk] at this; cases this
theorem ko1 {ns : List Nd} {x y : Nd} {i c : Int} (hy : ns[c.toNat]? = some y) (h : y.kind = 5) (h0 : (y.kids.length : Int) = 0) : kidOkS ns x i c = false := by
  have h0 := List.length_eq_zero_iff.1 (show y.kids.length = 0 by omega)
  simp [kidOkS, kindAt, ndAt_of hy, h, h0]
theorem isNd_inn {ns : List Nd} {d : Int} : inn d 0 (ns.length - 1) = isNd ns d := by
  rw [Bool.eq_iff_iff]; simp only [inn, isNd, Bool.and_eq_true, decide_eq_true_eq]; omega
theorem ko2 {ns : List Nd} {x y : Nd} {i c d : Int} (hy : ns[c.toNat]? = some y) (h : y.kind = 5) (h0 : y.kids[0]? = some d) (hd : inn d 0 (ns.length - 1) = false) : kidOkS ns x i c = false := by
  rw [isNd_inn] at hd
  match hk : y.kids with
  | [] => rw [hk] at h0; cases h0
  | e :: t => rw [hk] at h0; cases h0; simp [kidOkS, kindAt, ndAt_of hy, h, hk, hd]
theorem ko3 {ns : List Nd} {x y : Nd} {i c d : Int} (hy : ns[c.toNat]? = some y) (h : y.kind = 5) (h0 : y.kids[0]? = some d) (hd : inn d 0 (ns.length - 1) = true) : kidOkS ns x i c = fitK ns x i c := by
  rw [isNd_inn] at hd
  match hk : y.kids with
  | [] => rw [hk] at h0; cases h0
  | e :: t => rw [hk] at h0; cases h0; simp [kidOkS, kindAt, ndAt_of hy, h, hk, hd]
theorem ko4 {ns : List Nd} {x y : Nd} {i c : Int} (hy : ns[c.toNat]? = some y) (h : y.kind ≠ 5) : kidOkS ns x i c = fitK ns x i c := by
  simp [kidOkS, kindAt, ndAt_of hy, h]
theorem ko_fit {ns : List Nd} {x : Nd} {k i c : Int} {b : Bool} (hx : ns[k.toNat]? = some x) (hc : x.kids[i.toNat]? = some c) (hb : fitR (ns, k, i) = b) : fitK ns x i c = b := by
  rw [← hb, fitR, ndAt_of hx, List.getD, hc, Option.getD_some]
theorem fitsP_of1 {ns : List Nd} {x y : Nd} {k i c d : Int} (h1 : okNds ns) (hn : isNd ns k = true) (hx : ns[k.toNat]? = some x) (hin : kidsIn x.kids k = true) (hi : koI ns x i) (hc : x.kids[i.toNat]? = some c) (hy : ns[c.toNat]? = some y) (h0 : y.kids[0]? = some d) (hd : inn d 0 (ns.length - 1) = true) : fitsP (ns, k, i) := by
  have hk := isNd_iff.1 hn
  have := (getE hc).1
  unfold fitsP; simp only [ndAt_of hx]
  refine ⟨h1, hn, fun h10 c' hc' h5 => ?_, ⟨hi.1, by omega⟩, fun c' hc' => ?_⟩
  · rw [hc] at hc'; cases hc'
    rw [ndAt_of hy]
    match hkk : y.kids with
    | [] => rw [hkk] at h0; cases h0
    | e :: t => rw [hkk] at h0; cases h0; exact ⟨_, _, rfl, by rw [← isNd_inn]; exact hd⟩
  · simp only [kidsIn, List.all_eq_true, Bool.and_eq_true, decide_eq_true_eq] at hin
    have := hin c' (memE hc'); omega
theorem fitsP_of2 {ns : List Nd} {x y : Nd} {k i c : Int} (h1 : okNds ns) (hn : isNd ns k = true) (hx : ns[k.toNat]? = some x) (hin : kidsIn x.kids k = true) (hi : koI ns x i) (hc : x.kids[i.toNat]? = some c) (hy : ns[c.toNat]? = some y) (h5 : y.kind ≠ 5) : fitsP (ns, k, i) := by
  have hk := isNd_iff.1 hn
  have := (getE hc).1
  unfold fitsP; simp only [ndAt_of hx]
  refine ⟨h1, hn, fun h10 c' hc' h5' => ?_, ⟨hi.1, by omega⟩, fun c' hc' => ?_⟩
  · rw [hc] at hc'; cases hc'
    rw [kindAt, ndAt_of hy] at h5'; exact (h5 h5').elim
  · simp only [kidsIn, List.all_eq_true, Bool.and_eq_true, decide_eq_true_eq] at hin
    have := hin c' (memE hc'); omega

theorem mayBlank_eq {k : Int} : mayBlank k = (isSt k || (decide (k = 20) || decide (k = 21))) := by
  rw [Bool.eq_iff_iff]
  simp only [mayBlank, isSt, isMem, isStep, inn, Bool.or_eq_true, Bool.and_eq_true, decide_eq_true_eq]; omega
theorem sn_nd {ns : List Nd} {k : Int} (h : inn k 0 (ns.length - 1) = false) : false = nodeOk ns k := by rw [isNd_inn] at h; exact no_nd h
theorem sn_of {ns : List Nd} {k : Int} {x : Nd} (hx : ns[k.toNat]? = some x) (h : inn k 0 (ns.length - 1) = true) : nodeOk ns k = (inn x.kind 1 22 && (inn x.kids.length (lohi x.kind).1 (lohi x.kind).2 && (textOk x.kind x.text && ((mayBlank x.kind || !x.blank) && ((kidsIn x.kids k && decide x.kids.Nodup) && allAt (kidOkS ns x) x.kids 0))))) := by
  rw [isNd_inn] at h; rw [no_of hx h, node_bridge]
theorem sn_in {ns : List Nd} {k : Int} {x : Nd} (hx : ns[k.toNat]? = some x) (h : inn k 0 (ns.length - 1) = true) (h1 : kidsIn x.kids k = false) : false = nodeOk ns k := by
  rw [sn_of hx h, h1]; simp
theorem sn_dup {ns : List Nd} {k : Int} {x : Nd} (hx : ns[k.toNat]? = some x) (h : inn k 0 (ns.length - 1) = true) (h1 : ¬ x.kids.Nodup) : false = nodeOk ns k := by
  rw [sn_of hx h, decide_eq_false h1]; simp
theorem sn_kid {ns : List Nd} {k : Int} {x : Nd} (hx : ns[k.toNat]? = some x) (h : inn k 0 (ns.length - 1) = true) (h1 : allAt (kidOkS ns x) x.kids 0 = false) : false = nodeOk ns k := by
  rw [sn_of hx h, h1]; simp
theorem sn_yes {ns : List Nd} {k : Int} {x : Nd} (hx : ns[k.toNat]? = some x) (h : inn k 0 (ns.length - 1) = true) (h1 : inn x.kind 1 22 = true) (h2 : inn x.kids.length (lohi x.kind).1 (lohi x.kind).2 = true) (h3 : textOk x.kind x.text = true) (h4 : (mayBlank x.kind || !x.blank) = true)
    (h5 : kidsIn x.kids k = true ∧ x.kids.Nodup) (h6 : allAt (kidOkS ns x) x.kids 0 = true) : true = nodeOk ns k := by
  rw [sn_of hx h, h1, h2, h3, h4, h5.1, h6, decide_eq_true h5.2]; rfl
theorem in_not {k c : Int} {l : List Int} {n : Nat} (hc : l[n]? = some c) (h : inn c 0 (k - 1) = false) : kidsIn l k = false := by
  rw [Bool.eq_false_iff]; intro hh; simp only [kidsIn, List.all_eq_true, Bool.and_eq_true, decide_eq_true_eq] at hh
  have := hh c (memE hc)
  have : inn c 0 (k - 1) = true := inn_iff.2 (by omega)
  rw [h] at this; cases this
def djI (l : List Int) (i j : Int) : Prop := 0 ≤ j ∧ j ≤ i ∧ ∀ c, l[i.toNat]? = some c → (l.take j.toNat).elem c = false
theorem djI_init {l : List Int} {i : Int} (h : 0 ≤ i) : djI l i 0 := ⟨by omega, h, by simp⟩
theorem djI_next {l : List Int} {i j c d : Int} (h : djI l i j) (hl : j < i) (hc : l[i.toNat]? = some c) (hd : l[j.toNat]? = some d) (hne : c ≠ d) : djI l i (j + 1) := by
  refine ⟨by have := h.1; omega, by omega, fun c' hc' => ?_⟩
  have h3 := h.2.2 c' hc'
  rw [hc] at hc'; cases hc'
  rw [toNat1 h.1, takeE hd]
  simp at h3 ⊢
  exact ⟨h3, hne⟩
theorem djI_eq {l : List Int} {i j c d : Int} (h0 : djI l i j) (hl : j < i) (hc : l[i.toNat]? = some c) (hd : l[j.toNat]? = some d) (he : c = d) : ¬ l.Nodup := by
  refine nk_dup hc ?_
  subst he
  rw [List.elem_iff]
  rw [List.mem_take_iff_getElem]
  obtain ⟨hj, e⟩ := getE hd
  have := h0.1
  exact ⟨j.toNat, by omega, e⟩
theorem djI_done {k : Int} {l : List Int} {i j c : Int} (h : nkI k l i) (hd : djI l i j) (hl : ¬ j < i) (hc : l[i.toNat]? = some c) (hin : inn c 0 (k - 1) = true) : nkI k l (i + 1) := by
  have := inn_iff.1 hin
  have h3 := hd.2.2 c hc
  obtain rfl : j = i := by have := hd.2.1; omega
  exact nkI_next h hc (by omega) (by omega) h3
def lsNode2 (x : List Nd × Int) (i : Int) : LS := {
  ι := Int, inv := djI (ndAt x.1 x.2).kids i,
  regs := fun j => [(0, nds x.1), (1, .int .i64 x.2), (5, .box 0 (ndA false (ndAt x.1 x.2))), (8, .int .i64 i), (9, .int .i64 j)], als := [], meas := fun j => i.toNat - j.toNat }
def lsNode (x : List Nd × Int) : LS := {
  ι := Int, inv := nkI x.2 (ndAt x.1 x.2).kids,
  regs := fun i => [(0, nds x.1), (1, .int .i64 x.2), (5, .box 0 (ndA false (ndAt x.1 x.2))), (8, .int .i64 i)], als := [], meas := fun i => (ndAt x.1 x.2).kids.length - i.toNat, sub := fun i => [(15, lsNode2 x i)] }
def lsNode3 (x : List Nd × Int) : LS := {
  ι := Int, inv := koI x.1 (ndAt x.1 x.2),
  regs := fun i => [(0, nds x.1), (1, .int .i64 x.2), (5, .box 0 (ndA false (ndAt x.1 x.2))), (10, .int .i64 i)], als := [], meas := fun i => (ndAt x.1 x.2).kids.length - i.toNat }
def jI (x : Nd) : Prop := inn x.kind 1 22 = true ∧ inn x.kids.length (lohi x.kind).1 (lohi x.kind).2 = true ∧ textOk x.kind x.text = true ∧ (mayBlank x.kind || !x.blank) = true
def lsJoin (x : List Nd × Int) : LS := {
  ι := Unit, inv := fun _ => jI (ndAt x.1 x.2),
  regs := fun _ => [(0, nds x.1), (1, .int .i64 x.2), (5, .box 0 (ndA false (ndAt x.1 x.2)))], als := [], meas := fun _ => 0 }
def s_sNodeOk  : Sig := { X := List Nd × Int, args := fun x => [nds x.1, .int .i64 x.2], pre := fun x => okNds x.1, Y := Unit, post := fun x y => True, res := fun x y => .bool (nodeOk x.1 x.2), outs := fun x y => [.top, .top], keep := false }
theorem sNodeOk_vc (x : List Nd × Int) : vcFun Go.Proofs.Tryz.prog (Γof [(84, 0, s_l01In), (202, 0, s_l05Count), (203, 0, s_l05Text), (204, 0, s_l05Statement), (205, 0, s_l05Fits)]) (Eof []) false (Lof ([(10,lsNode x), (20,lsNode3 x), (200009,lsJoin x)])) Go.Proofs.Tryz.f170.ntmps Go.Proofs.Tryz.f170.results.toList (Go.Proofs.Tryz.f170.body.getD .skip) s_sNodeOk x = ((∀ (y : Unit), True → True ∧ True ∧ True ∧ True) ∧ inR IntKind.i64 ((↑(List.length x.fst) : Int) - (1 : Int)) ∧ ∃ (x_1 : Int × Int × Int), True ∧ x.snd = x_1.fst ∧ (0 : Int) = x_1.snd.fst ∧ (↑(List.length x.fst) : Int) - (1 : Int) = x_1.snd.snd ∧ ∀ (y : Unit), True → bcase (!inn x_1.fst x_1.snd.fst x_1.snd.snd) (∃ (y : Unit), True ∧ false = nodeOk x.fst x.snd ∧ True) (((0 : Int) ≤ x.snd ∧ x.snd < (↑(List.length x.fst) : Int)) ∧ ∀ (e : Nd), x.fst[Int.toNat x.snd]? = some e → ∃ (x_2 : Int × Int × Int), True ∧ e.kind = x_2.fst ∧ (1 : Int) = x_2.snd.fst ∧ (22 : Int) = x_2.snd.snd ∧ ∀ (y : Unit), True → bcase (!inn x_2.fst x_2.snd.fst x_2.snd.snd) (∃ (y : Unit), True ∧ false = nodeOk x.fst x.snd ∧ True) (((0 : Int) ≤ x.snd ∧ x.snd < (↑(List.length x.fst) : Int)) ∧ ∀ (e : Nd), x.fst[Int.toNat x.snd]? = some e → ∃ (x_3 : Int), True ∧ e.kind = x_3 ∧ ∀ (y : Unit), True → ∃ (x_4 : Int × Int × Int), True ∧ (↑(List.length e.kids) : Int) = x_4.fst ∧ (lohi x_3).fst = x_4.snd.fst ∧ (lohi x_3).snd = x_4.snd.snd ∧ ∀ (y : Unit), True → bcase (!inn x_4.fst x_4.snd.fst x_4.snd.snd) (∃ (y : Unit), True ∧ false = nodeOk x.fst x.snd ∧ True) (∃ (x_5 : Int × List UInt8), List.length x_5.snd < (4611686018427387904 : Nat) ∧ e.kind = x_5.fst ∧ e.text = x_5.snd ∧ ∀ (y : Unit), True → bcase (!textOk x_5.fst x_5.snd) (∃ (y : Unit), True ∧ false = nodeOk x.fst x.snd ∧ True) (bcase e.blank (∃ (x_6 : Int), True ∧ e.kind = x_6 ∧ ∀ (y : Unit), True → bcase (!isSt x_6) (bcase (e.kind != (20 : Int)) (bcase (e.kind != (21 : Int)) (∃ (y : Unit), True ∧ false = nodeOk x.fst x.snd ∧ True) (∃ (i : Unit), jI (ndAt x.fst x.snd) ∧ (AV.sl false (0 : Nat) (4 : Nat) Nd (ndA false) x.fst = AV.sl false (0 : Nat) (4 : Nat) Nd (ndA false) x.fst ∧ x.snd = x.snd ∧ e.kind = (ndAt x.fst x.snd).kind ∧ e.text = (ndAt x.fst x.snd).text ∧ AV.sl false (0 : Nat) (1 : Nat) Int intA e.kids = AV.sl false (0 : Nat) (1 : Nat) Int intA (ndAt x.fst x.snd).kids ∧ e.blank = (ndAt x.fst x.snd).blank ∧ True) ∧ True)) (∃ (i : Unit), jI (ndAt x.fst x.snd) ∧ (AV.sl false (0 : Nat) (4 : Nat) Nd (ndA false) x.fst = AV.sl false (0 : Nat) (4 : Nat) Nd (ndA false) x.fst ∧ x.snd = x.snd ∧ e.kind = (ndAt x.fst x.snd).kind ∧ e.text = (ndAt x.fst x.snd).text ∧ AV.sl false (0 : Nat) (1 : Nat) Int intA e.kids = AV.sl false (0 : Nat) (1 : Nat) Int intA (ndAt x.fst x.snd).kids ∧ e.blank = (ndAt x.fst x.snd).blank ∧ True) ∧ True)) (∃ (i : Unit), jI (ndAt x.fst x.snd) ∧ (AV.sl false (0 : Nat) (4 : Nat) Nd (ndA false) x.fst = AV.sl false (0 : Nat) (4 : Nat) Nd (ndA false) x.fst ∧ x.snd = x.snd ∧ e.kind = (ndAt x.fst x.snd).kind ∧ e.text = (ndAt x.fst x.snd).text ∧ AV.sl false (0 : Nat) (1 : Nat) Int intA e.kids = AV.sl false (0 : Nat) (1 : Nat) Int intA (ndAt x.fst x.snd).kids ∧ e.blank = (ndAt x.fst x.snd).blank ∧ True) ∧ True)) (∃ (i : Unit), jI (ndAt x.fst x.snd) ∧ (AV.sl false (0 : Nat) (4 : Nat) Nd (ndA false) x.fst = AV.sl false (0 : Nat) (4 : Nat) Nd (ndA false) x.fst ∧ x.snd = x.snd ∧ e.kind = (ndAt x.fst x.snd).kind ∧ e.text = (ndAt x.fst x.snd).text ∧ AV.sl false (0 : Nat) (1 : Nat) Int intA e.kids = AV.sl false (0 : Nat) (1 : Nat) Int intA (ndAt x.fst x.snd).kids ∧ e.blank = (ndAt x.fst x.snd).blank ∧ True) ∧ True) ∧ ∀ (i : Unit), jI (ndAt x.fst x.snd) → (∃ (i : Int), nkI x.snd (ndAt x.fst x.snd).kids i ∧ (AV.sl false (0 : Nat) (4 : Nat) Nd (ndA false) x.fst = AV.sl false (0 : Nat) (4 : Nat) Nd (ndA false) x.fst ∧ x.snd = x.snd ∧ (ndAt x.fst x.snd).kind = (ndAt x.fst x.snd).kind ∧ (ndAt x.fst x.snd).text = (ndAt x.fst x.snd).text ∧ AV.sl false (0 : Nat) (1 : Nat) Int intA (ndAt x.fst x.snd).kids = AV.sl false (0 : Nat) (1 : Nat) Int intA (ndAt x.fst x.snd).kids ∧ (ndAt x.fst x.snd).blank = (ndAt x.fst x.snd).blank ∧ (0 : Int) = i ∧ True) ∧ True) ∧ ∀ (i : Int), nkI x.snd (ndAt x.fst x.snd).kids i → bcase (decide (i < (↑(List.length (ndAt x.fst x.snd).kids) : Int))) (((0 : Int) ≤ i ∧ i < (↑(List.length (ndAt x.fst x.snd).kids) : Int)) ∧ ∀ (e : Int), (ndAt x.fst x.snd).kids[Int.toNat i]? = some e → inR IntKind.i64 (x.snd - (1 : Int)) ∧ ∃ (x_6 : Int × Int × Int), True ∧ e = x_6.fst ∧ (0 : Int) = x_6.snd.fst ∧ x.snd - (1 : Int) = x_6.snd.snd ∧ ∀ (y : Unit), True → bcase (!inn x_6.fst x_6.snd.fst x_6.snd.snd) (∃ (y : Unit), True ∧ false = nodeOk x.fst x.snd ∧ True) ((∃ (i_1 : Int), djI (ndAt x.fst x.snd).kids i i_1 ∧ (AV.sl false (0 : Nat) (4 : Nat) Nd (ndA false) x.fst = AV.sl false (0 : Nat) (4 : Nat) Nd (ndA false) x.fst ∧ x.snd = x.snd ∧ (ndAt x.fst x.snd).kind = (ndAt x.fst x.snd).kind ∧ (ndAt x.fst x.snd).text = (ndAt x.fst x.snd).text ∧ AV.sl false (0 : Nat) (1 : Nat) Int intA (ndAt x.fst x.snd).kids = AV.sl false (0 : Nat) (1 : Nat) Int intA (ndAt x.fst x.snd).kids ∧ (ndAt x.fst x.snd).blank = (ndAt x.fst x.snd).blank ∧ i = i ∧ (0 : Int) = i_1 ∧ True) ∧ True) ∧ ∀ (i_1 : Int), djI (ndAt x.fst x.snd).kids i i_1 → bcase (decide (i_1 < i)) (true = true ∧ true = true ∧ ((0 : Int) ≤ i ∧ i < (↑(List.length (ndAt x.fst x.snd).kids) : Int)) ∧ ∀ (e : Int), (ndAt x.fst x.snd).kids[Int.toNat i]? = some e → ((0 : Int) ≤ i_1 ∧ i_1 < (↑(List.length (ndAt x.fst x.snd).kids) : Int)) ∧ ∀ (e_1 : Int), (ndAt x.fst x.snd).kids[Int.toNat i_1]? = some e_1 → bcase (e == e_1) (∃ (y : Unit), True ∧ false = nodeOk x.fst x.snd ∧ True) (inR IntKind.i64 (i_1 + (1 : Int)) ∧ ∃ (i' : Int), djI (ndAt x.fst x.snd).kids i i' ∧ Int.toNat i - Int.toNat i' < Int.toNat i - Int.toNat i_1 ∧ (AV.sl false (0 : Nat) (4 : Nat) Nd (ndA false) x.fst = AV.sl false (0 : Nat) (4 : Nat) Nd (ndA false) x.fst ∧ x.snd = x.snd ∧ (ndAt x.fst x.snd).kind = (ndAt x.fst x.snd).kind ∧ (ndAt x.fst x.snd).text = (ndAt x.fst x.snd).text ∧ AV.sl false (0 : Nat) (1 : Nat) Int intA (ndAt x.fst x.snd).kids = AV.sl false (0 : Nat) (1 : Nat) Int intA (ndAt x.fst x.snd).kids ∧ (ndAt x.fst x.snd).blank = (ndAt x.fst x.snd).blank ∧ i = i ∧ i_1 + (1 : Int) = i' ∧ True) ∧ True)) (inR IntKind.i64 (i + (1 : Int)) ∧ ∃ (i' : Int), nkI x.snd (ndAt x.fst x.snd).kids i' ∧ List.length (ndAt x.fst x.snd).kids - Int.toNat i' < List.length (ndAt x.fst x.snd).kids - Int.toNat i ∧ (AV.sl false (0 : Nat) (4 : Nat) Nd (ndA false) x.fst = AV.sl false (0 : Nat) (4 : Nat) Nd (ndA false) x.fst ∧ x.snd = x.snd ∧ (ndAt x.fst x.snd).kind = (ndAt x.fst x.snd).kind ∧ (ndAt x.fst x.snd).text = (ndAt x.fst x.snd).text ∧ AV.sl false (0 : Nat) (1 : Nat) Int intA (ndAt x.fst x.snd).kids = AV.sl false (0 : Nat) (1 : Nat) Int intA (ndAt x.fst x.snd).kids ∧ (ndAt x.fst x.snd).blank = (ndAt x.fst x.snd).blank ∧ i + (1 : Int) = i' ∧ True) ∧ True))) ((∃ (i : Int), koI x.fst (ndAt x.fst x.snd) i ∧ (AV.sl false (0 : Nat) (4 : Nat) Nd (ndA false) x.fst = AV.sl false (0 : Nat) (4 : Nat) Nd (ndA false) x.fst ∧ x.snd = x.snd ∧ (ndAt x.fst x.snd).kind = (ndAt x.fst x.snd).kind ∧ (ndAt x.fst x.snd).text = (ndAt x.fst x.snd).text ∧ AV.sl false (0 : Nat) (1 : Nat) Int intA (ndAt x.fst x.snd).kids = AV.sl false (0 : Nat) (1 : Nat) Int intA (ndAt x.fst x.snd).kids ∧ (ndAt x.fst x.snd).blank = (ndAt x.fst x.snd).blank ∧ (0 : Int) = i ∧ True) ∧ True) ∧ ∀ (i : Int), koI x.fst (ndAt x.fst x.snd) i → bcase (decide (i < (↑(List.length (ndAt x.fst x.snd).kids) : Int))) (((0 : Int) ≤ i ∧ i < (↑(List.length (ndAt x.fst x.snd).kids) : Int)) ∧ ∀ (e : Int), (ndAt x.fst x.snd).kids[Int.toNat i]? = some e → ((0 : Int) ≤ e ∧ e < (↑(List.length x.fst) : Int)) ∧ ∀ (e_1 : Nd), x.fst[Int.toNat e]? = some e_1 → bcase (e_1.kind == (5 : Int)) (bcase ((↑(List.length e_1.kids) : Int) == (0 : Int)) (∃ (y : Unit), True ∧ false = nodeOk x.fst x.snd ∧ True) (((0 : Int) ≤ (0 : Int) ∧ (0 : Int) < (↑(List.length e_1.kids) : Int)) ∧ ∀ (e : Int), e_1.kids[(0 : Nat)]? = some e → inR IntKind.i64 ((↑(List.length x.fst) : Int) - (1 : Int)) ∧ ∃ (x_6 : Int × Int × Int), True ∧ e = x_6.fst ∧ (0 : Int) = x_6.snd.fst ∧ (↑(List.length x.fst) : Int) - (1 : Int) = x_6.snd.snd ∧ ∀ (y : Unit), True → bcase (!inn x_6.fst x_6.snd.fst x_6.snd.snd) (∃ (y : Unit), True ∧ false = nodeOk x.fst x.snd ∧ True) (∃ (x_7 : List Nd × Int × Int), fitsP x_7 ∧ AV.sl false (0 : Nat) (4 : Nat) Nd (ndA false) x.fst = AV.sl false (0 : Nat) (4 : Nat) Nd (ndA false) x_7.fst ∧ x.snd = x_7.snd.fst ∧ i = x_7.snd.snd ∧ ∀ (y : Unit), True → bcase (!fitR x_7) (∃ (y : Unit), True ∧ false = nodeOk x.fst x.snd ∧ True) (inR IntKind.i64 (i + (1 : Int)) ∧ ∃ (i' : Int), koI x.fst (ndAt x.fst x.snd) i' ∧ List.length (ndAt x.fst x.snd).kids - Int.toNat i' < List.length (ndAt x.fst x.snd).kids - Int.toNat i ∧ (AV.sl false (0 : Nat) (4 : Nat) Nd (ndA false) x.fst = AV.sl false (0 : Nat) (4 : Nat) Nd (ndA false) x.fst ∧ x.snd = x.snd ∧ (ndAt x.fst x.snd).kind = (ndAt x.fst x.snd).kind ∧ (ndAt x.fst x.snd).text = (ndAt x.fst x.snd).text ∧ AV.sl false (0 : Nat) (1 : Nat) Int intA (ndAt x.fst x.snd).kids = AV.sl false (0 : Nat) (1 : Nat) Int intA (ndAt x.fst x.snd).kids ∧ (ndAt x.fst x.snd).blank = (ndAt x.fst x.snd).blank ∧ i + (1 : Int) = i' ∧ True) ∧ True)))) (∃ (x_6 : List Nd × Int × Int), fitsP x_6 ∧ AV.sl false (0 : Nat) (4 : Nat) Nd (ndA false) x.fst = AV.sl false (0 : Nat) (4 : Nat) Nd (ndA false) x_6.fst ∧ x.snd = x_6.snd.fst ∧ i = x_6.snd.snd ∧ ∀ (y : Unit), True → bcase (!fitR x_6) (∃ (y : Unit), True ∧ false = nodeOk x.fst x.snd ∧ True) (inR IntKind.i64 (i + (1 : Int)) ∧ ∃ (i' : Int), koI x.fst (ndAt x.fst x.snd) i' ∧ List.length (ndAt x.fst x.snd).kids - Int.toNat i' < List.length (ndAt x.fst x.snd).kids - Int.toNat i ∧ (AV.sl false (0 : Nat) (4 : Nat) Nd (ndA false) x.fst = AV.sl false (0 : Nat) (4 : Nat) Nd (ndA false) x.fst ∧ x.snd = x.snd ∧ (ndAt x.fst x.snd).kind = (ndAt x.fst x.snd).kind ∧ (ndAt x.fst x.snd).text = (ndAt x.fst x.snd).text ∧ AV.sl false (0 : Nat) (1 : Nat) Int intA (ndAt x.fst x.snd).kids = AV.sl false (0 : Nat) (1 : Nat) Int intA (ndAt x.fst x.snd).kids ∧ (ndAt x.fst x.snd).blank = (ndAt x.fst x.snd).blank ∧ i + (1 : Int) = i' ∧ True) ∧ True))) (∃ (y : Unit), True ∧ true = nodeOk x.fst x.snd ∧ True))))))) := by kernel_rfl
set_option maxHeartbeats 4000000 in
theorem sNodeOk_ok  : Contract G Tryz.prog 170 s_sNodeOk :=
  vcFun_ok (Γ := Γof [(84, 0, s_l01In), (202, 0, s_l05Count), (203, 0, s_l05Text), (204, 0, s_l05Statement), (205, 0, s_l05Fits)]) (E := Eof []) (ov := false) (L := fun x => Lof ([(10,lsNode x), (20,lsNode3 x), (200009,lsJoin x)])) Tryz.func170 rfl (by decide) (Γof_ok (l := [(84, 0, s_l01In), (202, 0, s_l05Count), (203, 0, s_l05Text), (204, 0, s_l05Statement), (205, 0, s_l05Fits)]) ⟨l01In_ok, l05Count_ok, l05Text_ok, l05Statement_ok, l05Fits_ok, trivial⟩) fun (x : List Nd × Int) (hx : okNds x.1) => (sNodeOk_vc  x).mpr (by
  have h1 : okNds x.1 := hx; have hl := h1.1
  by_cases hn : isNd x.1 x.2 = true
  case neg =>
    (repeat' first | with_reducible rfl | exact True.intro | refine inR_i64 ?_ ?_ | with_reducible refine And.intro ?_ ?_ | with_reducible refine bcase_dec (fun _ => ?_) (fun _ => ?_) | with_reducible refine bcase_bne (fun _ => ?_) (fun _ => ?_) | with_reducible refine bcase_beq (fun _ => ?_) (fun _ => ?_) | with_reducible refine bcase_not (fun _ => ?_) (fun _ => ?_) | refine bcase_intro (fun _ => ?_) (fun _ => ?_) | refine sl_eq ?_ | refine ex_flip () ?_ ?_ | (apply ex_flip6 <;> try dsimp only) | (apply ex_flip5 <;> try dsimp only) | (apply ex_flip4 <;> try dsimp only) | (apply ex_flip3 <;> try dsimp only) | (apply ex_flip2 <;> try dsimp only) | apply ex_flip | (refine Prod.forall.2 ?_; intro _; try dsimp only) | (intro _; try dsimp only))
    all_goals first
      | exact sn_nd (by assumption)
      | (have hh := (show inn x.2 0 (x.1.length - 1) = true by assumption); rw [isNd_inn] at hh; exact (hn hh).elim)
      | ((try simp only [i64max]); omega)
  case pos =>
  have hr := isNd_iff.1 hn
  obtain ⟨z, hz⟩ : ∃ z, x.1[x.2.toNat]? = some z := ⟨x.1[x.2.toNat], by simp⟩
  have hzo := h1.2 _ (memE hz)
  have hi : inn x.2 0 (x.1.length - 1) = true := by rw [isNd_inn]; exact hn
  simp only [hz, Option.some.injEq, forall_eq', ndAt_of hz]
  (repeat' first | with_reducible rfl | exact True.intro | refine inR_i64 ?_ ?_ | with_reducible refine And.intro ?_ ?_ | with_reducible refine bcase_dec (fun _ => ?_) (fun _ => ?_) | with_reducible refine bcase_bne (fun _ => ?_) (fun _ => ?_) | with_reducible refine bcase_beq (fun _ => ?_) (fun _ => ?_) | with_reducible refine bcase_not (fun _ => ?_) (fun _ => ?_) | refine bcase_intro (fun _ => ?_) (fun _ => ?_) | refine sl_eq ?_ | refine ex_flip () ?_ ?_ | (apply ex_flip6 <;> try dsimp only) | (apply ex_flip5 <;> try dsimp only) | (apply ex_flip4 <;> try dsimp only) | (apply ex_flip3 <;> try dsimp only) | (apply ex_flip2 <;> try dsimp only) | apply ex_flip | (refine Prod.forall.2 ?_; intro _; try dsimp only) | (intro _; try dsimp only))
  all_goals first
    | rfl
    | assumption
    | exact nkI_init
    | exact koI_init
    | exact djI_init (‹nkI _ _ _›.1)
    | exact sn_nd (by assumption)
    | exact ⟨by assumption, by assumption, by assumption, by simp [mayBlank_eq, *]⟩
    | exact sn_in hz hi (in_not (by assumption) (by assumption))
    | exact sn_dup hz hi (djI_eq (by assumption) (by assumption) (by assumption) (by assumption) (by assumption))
    | exact djI_next (by assumption) (by assumption) (by assumption) (by assumption) (by assumption)
    | exact djI_done (by assumption) (by assumption) (by assumption) (by assumption) (by assumption)
    | exact sn_kid hz hi (ko_not (‹koI _ _ _›.1) (by assumption) (ko1 (by assumption) (by assumption) (by assumption)))
    | exact sn_kid hz hi (ko_not (‹koI _ _ _›.1) (by assumption) (ko2 (by assumption) (by assumption) (by assumption) (by assumption)))
    | exact sn_kid hz hi (ko_not (‹koI _ _ _›.1) (by assumption) ((ko4 (by assumption) (by assumption)).trans (ko_fit hz (by assumption) (by assumption))))
    | exact sn_kid hz hi (ko_not (‹koI _ _ _›.1) (by assumption) ((ko3 (by assumption) (by assumption) (by assumption) (by assumption)).trans (ko_fit hz (by assumption) (by assumption))))
    | exact koI_next (by assumption) (by assumption) ((ko4 (by assumption) (by assumption)).trans (ko_fit hz (by assumption) (by assumption)))
    | exact koI_next (by assumption) (by assumption) ((ko3 (by assumption) (by assumption) (by assumption) (by assumption)).trans (ko_fit hz (by assumption) (by assumption)))
    | exact fitsP_of1 h1 hn hz (nkI_done (by assumption) (by assumption)).1 (by assumption) (by assumption) (by assumption) (by assumption) (by assumption)
    | exact fitsP_of2 h1 hn hz (nkI_done (by assumption) (by assumption)).1 (by assumption) (by assumption) (by assumption) (by assumption)
    | exact sn_yes hz hi (‹jI _›.1) (‹jI _›.2.1) (‹jI _›.2.2.1) (‹jI _›.2.2.2) (nkI_done (by assumption) (by assumption)) (koI_done (by assumption) (by assumption))
    | (rw [sn_of hz hi]; simp [mayBlank_eq, *]; done)
    | exact hzo.1
    | (have := nkI_at (by assumption) (by assumption) hr.2 (memE (show z.kids[_]? = some _ by assumption)); omega)
    | ((try simp only [i64max]); omega)
    | (have hko := (show koI _ _ _ by assumption); have hk2 := hzo.2; have := hko.1; have := hko.2.1; (try simp only [i64max]); omega)
    | (have hko := (show djI _ _ _ by assumption); have hk1 := (show nkI _ _ _ by assumption); have hk2 := hzo.2; have := hko.1; have := hko.2.1; have := hk1.1; have := hk1.2.1; (try simp only [i64max]); omega)
    | (have hk1 := (show nkI _ _ _ by assumption); have hk2 := hzo.2; have := hk1.1; have := hk1.2.1; (try simp only [i64max]); omega)
    | skip)

end Go.My
end
