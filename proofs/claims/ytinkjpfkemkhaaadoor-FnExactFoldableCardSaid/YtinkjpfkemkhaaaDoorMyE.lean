/- Nodes: calls among kids, what is right, depths, trees (the program's). -/
import Derived.Test.YtinkjpfkemkhaaaDoorMyD
set_option linter.unusedVariables false
set_option linter.unusedSimpArgs false
namespace Go.My
open Go.Eng Go.Proofs

def okNd (x : Nd) : Prop := x.text.length < 2 ^ 62 ∧ x.kids.length < 2 ^ 62
def okNds (l : List Nd) : Prop := l.length < 2 ^ 62 ∧ ∀ x ∈ l, okNd x
theorem okNds_at {l : List Nd} {n : Nat} {x : Nd} (hx : l[n]? = some x) (h : okNds l) : okNd x := h.2 x (memE hx)
theorem okNds_ndAt {l : List Nd} {k : Int} (h : okNds l) : okNd (ndAt l k) := by
  unfold ndAt
  rw [List.getD]
  cases hx : l[k.toNat]? with
  | none => simp [okNd]
  | some x => exact okNds_at hx h

def idxInt (v : Int) : List Int → Int → Int
  | [], _ => -1
  | c :: l, i => if v = c then i else idxInt v l (i + 1)
theorem idxInt_elem {v : Int} : ∀ {l : List Int} {i : Int}, 0 ≤ i → (0 ≤ idxInt v l i ↔ v ∈ l)
  | [], i, h => by simp [idxInt]
  | c :: l, i, h => by
    unfold idxInt
    by_cases e : v = c
    · simp [e, h]
    · rw [if_neg e, idxInt_elem (by omega)]; simp [e]
def s_ixInt  : Sig := { X := List Int × Int, args := fun x => [ints x.1, .int .i64 x.2], pre := fun x => x.1.length < 2 ^ 62, Y := Unit, post := fun x y => True, res := fun x y => .int .i64 (idxInt x.2 x.1 0), outs := fun x y => [.top, .top], keep := false }
theorem ixInt_vc (x : List Int × Int) : vcFun Go.Proofs.Tryd.prog (Γof []) (Eof []) false (Lof ([(2,{ ι := Int, inv := fun i => (0 ≤ i ∧ i ≤ x.1.length) ∧ idxInt x.2 (x.1.drop i.toNat) i = idxInt x.2 x.1 0, regs := fun i => [(0, ints x.1), (1, .int .i64 x.2), (7, .int .i64 x.1.length), (8, .int .i64 i)], als := [], meas := fun i => x.1.length - i.toNat })])) Go.Proofs.Tryd.f77.ntmps Go.Proofs.Tryd.f77.results.toList (Go.Proofs.Tryd.f77.body.getD .skip) s_ixInt x = ((∀ (y : Unit), True → True ∧ True ∧ True ∧ True) ∧ (∃ (i : Int), (((0 : Int) ≤ i ∧ i ≤ (↑(List.length x.fst) : Int)) ∧ idxInt x.snd (List.drop (Int.toNat i) x.fst) i = idxInt x.snd x.fst (0 : Int)) ∧ (AV.sl false (0 : Nat) (1 : Nat) Int intA x.fst = AV.sl false (0 : Nat) (1 : Nat) Int intA x.fst ∧ x.snd = x.snd ∧ (↑(List.length x.fst) : Int) = (↑(List.length x.fst) : Int) ∧ (0 : Int) = i ∧ True) ∧ True) ∧ ∀ (i : Int), ((0 : Int) ≤ i ∧ i ≤ (↑(List.length x.fst) : Int)) ∧ idxInt x.snd (List.drop (Int.toNat i) x.fst) i = idxInt x.snd x.fst (0 : Int) → bcase (decide (i < (↑(List.length x.fst) : Int))) (((0 : Int) ≤ i ∧ i < (↑(List.length x.fst) : Int)) ∧ ∀ (e : Int), x.fst[Int.toNat i]? = some e → bcase (x.snd == e) (∃ (y : Unit), True ∧ i = idxInt x.snd x.fst (0 : Int) ∧ True) (inR IntKind.i64 (i + (1 : Int)) ∧ ∃ (i' : Int), (((0 : Int) ≤ i' ∧ i' ≤ (↑(List.length x.fst) : Int)) ∧ idxInt x.snd (List.drop (Int.toNat i') x.fst) i' = idxInt x.snd x.fst (0 : Int)) ∧ List.length x.fst - Int.toNat i' < List.length x.fst - Int.toNat i ∧ (AV.sl false (0 : Nat) (1 : Nat) Int intA x.fst = AV.sl false (0 : Nat) (1 : Nat) Int intA x.fst ∧ x.snd = x.snd ∧ (↑(List.length x.fst) : Int) = (↑(List.length x.fst) : Int) ∧ i + (1 : Int) = i' ∧ True) ∧ True)) (∃ (y : Unit), True ∧ (-1 : Int) = idxInt x.snd x.fst (0 : Int) ∧ True)) := by kernel_rfl
theorem ixInt_ok  : Contract Tryd.prog 77 s_ixInt :=
  vcFun_ok (Γ := Γof []) (E := Eof []) (ov := false) (L := fun x => Lof ([(2,{ ι := Int, inv := fun i => (0 ≤ i ∧ i ≤ x.1.length) ∧ idxInt x.2 (x.1.drop i.toNat) i = idxInt x.2 x.1 0, regs := fun i => [(0, ints x.1), (1, .int .i64 x.2), (7, .int .i64 x.1.length), (8, .int .i64 i)], als := [], meas := fun i => x.1.length - i.toNat })])) Tryd.func77 rfl (by decide) (Γof_ok (l := []) trivial) fun (x : List Int × Int) (hx : x.1.length < 2 ^ 62) => (ixInt_vc  x).mpr (by
  have hx : x.1.length < 2 ^ 62 := hx
  (repeat' first | with_reducible rfl | exact True.intro | refine inR_i64 ?_ ?_ | with_reducible refine And.intro ?_ ?_ | with_reducible refine bcase_dec (fun _ => ?_) (fun _ => ?_) | with_reducible refine bcase_bne (fun _ => ?_) (fun _ => ?_) | with_reducible refine bcase_beq (fun _ => ?_) (fun _ => ?_) | with_reducible refine bcase_not (fun _ => ?_) (fun _ => ?_) | refine bcase_intro (fun _ => ?_) (fun _ => ?_) | refine sl_eq ?_ | refine ex_flip () ?_ ?_ | (apply ex_flip6 <;> try dsimp only) | (apply ex_flip5 <;> try dsimp only) | (apply ex_flip4 <;> try dsimp only) | (apply ex_flip3 <;> try dsimp only) | (apply ex_flip2 <;> try dsimp only) | apply ex_flip | (refine Prod.forall.2 ?_; intro _; try dsimp only) | (intro _; try dsimp only)) <;> (try dsimp only at *) <;> (try simp only [i64max, List.length_cons, List.length_nil]) <;> (try omega)
  all_goals first
    | (rename_i i hi hl e he h; rw [← hi.2, dropE he]; simp [idxInt, h]; done)
    | (rename_i i hi hl e he h; rw [← hi.2, dropE he, toNat1 hi.1.1]; simp [idxInt, h]; done)
    | rfl
    | (rename_i i hi hl; rw [← hi.2, List.drop_eq_nil_of_le (by omega)]; rfl)
    | skip)

def s_hasInt  : Sig := { X := List Int × Int, args := fun x => [ints x.1, .int .i64 x.2], pre := fun x => x.1.length < 2 ^ 62, Y := Unit, post := fun x y => True, res := fun x y => .bool (x.1.elem x.2), outs := fun x y => [.top, .top], keep := false }
theorem hasInt_vc (x : List Int × Int) : vcFun Go.Proofs.Tryd.prog (Γof [(77, 0, s_ixInt)]) (Eof []) false (Lof ([])) Go.Proofs.Tryd.f65.ntmps Go.Proofs.Tryd.f65.results.toList (Go.Proofs.Tryd.f65.body.getD .skip) s_hasInt x = ((∀ (y : Unit), True → True ∧ True ∧ True ∧ True) ∧ ∃ (x_1 : List Int × Int), List.length x_1.fst < (4611686018427387904 : Nat) ∧ AV.sl false (0 : Nat) (1 : Nat) Int intA x.fst = AV.sl false (0 : Nat) (1 : Nat) Int intA x_1.fst ∧ x.snd = x_1.snd ∧ ∀ (y : Unit), True → ∃ (y : Unit), True ∧ decide (idxInt x_1.snd x_1.fst (0 : Int) ≥ (0 : Int)) = List.elem x.snd x.fst ∧ True) := by kernel_rfl
theorem hasInt_ok  : Contract Tryd.prog 65 s_hasInt :=
  vcFun_ok (Γ := Γof [(77, 0, s_ixInt)]) (E := Eof []) (ov := false) (L := fun x => Lof ([])) Tryd.func65 rfl (by decide) (Γof_ok (l := [(77, 0, s_ixInt)]) ⟨ixInt_ok, trivial⟩) fun (x : List Int × Int) (hx : x.1.length < 2 ^ 62) => (hasInt_vc  x).mpr (by
  have hx : x.1.length < 2 ^ 62 := hx
  (repeat' first | with_reducible rfl | exact True.intro | refine inR_i64 ?_ ?_ | with_reducible refine And.intro ?_ ?_ | with_reducible refine bcase_dec (fun _ => ?_) (fun _ => ?_) | with_reducible refine bcase_bne (fun _ => ?_) (fun _ => ?_) | with_reducible refine bcase_beq (fun _ => ?_) (fun _ => ?_) | with_reducible refine bcase_not (fun _ => ?_) (fun _ => ?_) | refine bcase_intro (fun _ => ?_) (fun _ => ?_) | refine sl_eq ?_ | refine ex_flip () ?_ ?_ | (apply ex_flip6 <;> try dsimp only) | (apply ex_flip5 <;> try dsimp only) | (apply ex_flip4 <;> try dsimp only) | (apply ex_flip3 <;> try dsimp only) | (apply ex_flip2 <;> try dsimp only) | apply ex_flip | (refine Prod.forall.2 ?_; intro _; try dsimp only) | (intro _; try dsimp only)) <;> (try dsimp only at *) <;> (try simp only [i64max, List.length_cons, List.length_nil]) <;> (try omega)
  all_goals first | (rw [Bool.eq_iff_iff, decide_eq_true_iff, List.elem_iff]; exact idxInt_elem (by omega)) | skip)


theorem callsOk_iff {ns : List Nd} {x : Nd} : callsOk ns x = true ↔ ∀ (j : Nat) c, x.kids[j]? = some c → callOk ns x j c = true := by
  have e : callsOk ns x = allAt (fun i c => callOk ns x i.toNat c) x.kids 0 := by
    unfold callsOk
    have : (fun p : Int × Nat => callOk ns x p.2 p.1) = fun p : Int × Nat => (fun (i c : Int) => callOk ns x i.toNat c) p.2 p.1 := by funext p; simp
    rw [this]; exact allAt_zip (f := fun i c => callOk ns x i.toNat c) (i := 0)
  rw [e, allAt_iff]; simp
def cfI (ns : List Nd) (x : Nd) (i : Int) : Prop := 0 ≤ i ∧ i ≤ x.kids.length ∧ ∀ (j : Nat) c, (j : Int) < i → x.kids[j]? = some c → callOk ns x j c = true
theorem cfI_init {ns : List Nd} {x : Nd} : cfI ns x 0 := ⟨by omega, by omega, fun j c h => by omega⟩
theorem cfI_next {ns : List Nd} {x : Nd} {i c : Int} (h : cfI ns x i) (hc : x.kids[i.toNat]? = some c) (hk : callOk ns x i.toNat c = true) : cfI ns x (i + 1) := by
  obtain ⟨h1, h2, h3⟩ := h
  have := (getE hc).1
  refine ⟨by omega, by omega, fun j d hj hd => ?_⟩
  by_cases e : (j : Int) < i
  · exact h3 j d e hd
  · obtain rfl : j = i.toNat := by omega
    rw [hc] at hd; cases hd; exact hk
theorem cfI_done {ns : List Nd} {x : Nd} {i : Int} (h : cfI ns x i) (hl : ¬ i < x.kids.length) : true = callsOk ns x := by
  symm; rw [callsOk_iff]; intro j c hc
  exact h.2.2 j c (by have := (getE hc).1; omega) hc
theorem cf_not {ns : List Nd} {x : Nd} {i c : Int} (hc : x.kids[i.toNat]? = some c) (hk : callOk ns x i.toNat c = false) : false = callsOk ns x := by
  symm; rw [Bool.eq_false_iff]; intro h
  rw [callsOk_iff.1 h _ _ hc] at hk; cases hk
theorem callOk1 {ns : List Nd} {x y : Nd} {i c : Int} (hy : ns[c.toNat]? = some y) (h : y.kind ≠ 5) : callOk ns x i.toNat c = true := by
  simp [callOk, ndAt_of hy, h]
theorem callOk2 {ns : List Nd} {x y : Nd} {i c : Int} (hy : ns[c.toNat]? = some y) (h : y.kind = 5) (h0 : (y.kids.length : Int) = 0) : callOk ns x i.toNat c = false := by
  have h0 := List.length_eq_zero_iff.1 (show y.kids.length = 0 by omega)
  simp [callOk, ndAt_of hy, h, h0]
theorem callOk3 {ns : List Nd} {x y : Nd} {i c d : Int} (hy : ns[c.toNat]? = some y) (h : y.kind = 5) (hd : isNd ns d = false) (h0 : y.kids[0]? = some d) : callOk ns x i.toNat c = false := by
  match hk : y.kids with
  | [] => rw [hk] at h0; cases h0
  | e :: t => rw [hk] at h0; cases h0; simp [callOk, ndAt_of hy, h, hk, hd]
theorem callOk4 {ns : List Nd} {x y z : Nd} {i c d d' : Int} (hy : ns[c.toNat]? = some y) (h : y.kind = 5) (hd : isNd ns d = true) (h0 : y.kids[0]? = some d) (hz : ns[d'.toNat]? = some z) (h0' : y.kids[0]? = some d') (h10 : x.kind = 10) (hi : i > 0) (h1 : z.kind ≠ 1) : callOk ns x i.toNat c = false := by
  match hk : y.kids with
  | [] => rw [hk] at h0; cases h0
  | e :: t => rw [hk] at h0 h0'; cases h0; cases h0'; simp [callOk, ndAt_of hy, h, hk, hd, h10, kindAt, ndAt_of hz, h1]; omega
theorem callOk5 {ns : List Nd} {x y z : Nd} {i c d d' : Int} (hy : ns[c.toNat]? = some y) (h : y.kind = 5) (hd : isNd ns d = true) (h0 : y.kids[0]? = some d) (hz : ns[d'.toNat]? = some z) (h0' : y.kids[0]? = some d') (h1 : z.kind = 1) : callOk ns x i.toNat c = true := by
  match hk : y.kids with
  | [] => rw [hk] at h0; cases h0
  | e :: t => rw [hk] at h0 h0'; cases h0; cases h0'; simp [callOk, ndAt_of hy, h, hk, hd, kindAt, ndAt_of hz, h1]
theorem callOk6 {ns : List Nd} {x y : Nd} {i c d : Int} (hy : ns[c.toNat]? = some y) (h : y.kind = 5) (hd : isNd ns d = true) (h0 : y.kids[0]? = some d) (h1 : x.kind ≠ 10) : callOk ns x i.toNat c = true := by
  match hk : y.kids with
  | [] => rw [hk] at h0; cases h0
  | e :: t => rw [hk] at h0; cases h0; simp [callOk, ndAt_of hy, h, hk, hd, h1]
theorem callOk7 {ns : List Nd} {x y : Nd} {i c d : Int} (hy : ns[c.toNat]? = some y) (h : y.kind = 5) (hd : isNd ns d = true) (h0 : y.kids[0]? = some d) (h1 : ¬ i > 0) : callOk ns x i.toNat c = true := by
  have : i.toNat = 0 := by omega
  match hk : y.kids with
  | [] => rw [hk] at h0; cases h0
  | e :: t => rw [hk] at h0; cases h0; simp [callOk, ndAt_of hy, h, hk, hd, this]
theorem ndB {ns : List Nd} {l : List Int} {d d' : Int} (hd : isNd ns d = true) (h0 : l[0]? = some d) (h0' : l[0]? = some d') : 0 ≤ d' ∧ d' < ns.length := by
  rw [h0] at h0'; cases h0'; exact isNd_iff.1 hd
def s_callsFit  : Sig := { X := List Nd × Nd, args := fun x => [nds x.1, .agg (ndA false x.2)], pre := fun x => okNds x.1 ∧ okNd x.2 ∧ ∀ c ∈ x.2.kids, 0 ≤ c ∧ c < x.1.length, Y := Unit, post := fun x y => True, res := fun x y => .bool (callsOk x.1 x.2), outs := fun x y => [.top, .top], keep := false }
theorem callsFit_vc (x : List Nd × Nd) : vcFun Go.Proofs.Tryd.prog (Γof [(48, 0, s_isNode)]) (Eof []) false (Lof ([(2,{ ι := Int, inv := cfI x.1 x.2, regs := fun i => [(0, nds x.1), (3, .box 0 (ndA false x.2)), (9, ints x.2.kids), (10, .int .i64 x.2.kids.length), (11, .int .i64 i)], als := [], meas := fun i => x.2.kids.length - i.toNat })])) Go.Proofs.Tryd.f69.ntmps Go.Proofs.Tryd.f69.results.toList (Go.Proofs.Tryd.f69.body.getD .skip) s_callsFit x = ((∀ (y : Unit), True → True ∧ True ∧ True ∧ True) ∧ (∃ (i : Int), cfI x.fst x.snd i ∧ (AV.sl false (0 : Nat) (4 : Nat) Nd (ndA false) x.fst = AV.sl false (0 : Nat) (4 : Nat) Nd (ndA false) x.fst ∧ x.snd.kind = x.snd.kind ∧ x.snd.text = x.snd.text ∧ AV.sl false (0 : Nat) (1 : Nat) Int intA x.snd.kids = AV.sl false (0 : Nat) (1 : Nat) Int intA x.snd.kids ∧ x.snd.blank = x.snd.blank ∧ AV.sl false (0 : Nat) (1 : Nat) Int intA x.snd.kids = AV.sl false (0 : Nat) (1 : Nat) Int intA x.snd.kids ∧ (↑(List.length x.snd.kids) : Int) = (↑(List.length x.snd.kids) : Int) ∧ (0 : Int) = i ∧ True) ∧ True) ∧ ∀ (i : Int), cfI x.fst x.snd i → bcase (decide (i < (↑(List.length x.snd.kids) : Int))) (((0 : Int) ≤ i ∧ i < (↑(List.length x.snd.kids) : Int)) ∧ ∀ (e : Int), x.snd.kids[Int.toNat i]? = some e → ((0 : Int) ≤ e ∧ e < (↑(List.length x.fst) : Int)) ∧ ∀ (e_1 : Nd), x.fst[Int.toNat e]? = some e_1 → bcase (e_1.kind != (5 : Int)) (inR IntKind.i64 (i + (1 : Int)) ∧ ∃ (i' : Int), cfI x.fst x.snd i' ∧ List.length x.snd.kids - Int.toNat i' < List.length x.snd.kids - Int.toNat i ∧ (AV.sl false (0 : Nat) (4 : Nat) Nd (ndA false) x.fst = AV.sl false (0 : Nat) (4 : Nat) Nd (ndA false) x.fst ∧ x.snd.kind = x.snd.kind ∧ x.snd.text = x.snd.text ∧ AV.sl false (0 : Nat) (1 : Nat) Int intA x.snd.kids = AV.sl false (0 : Nat) (1 : Nat) Int intA x.snd.kids ∧ x.snd.blank = x.snd.blank ∧ AV.sl false (0 : Nat) (1 : Nat) Int intA x.snd.kids = AV.sl false (0 : Nat) (1 : Nat) Int intA x.snd.kids ∧ (↑(List.length x.snd.kids) : Int) = (↑(List.length x.snd.kids) : Int) ∧ i + (1 : Int) = i' ∧ True) ∧ True) (bcase ((↑(List.length e_1.kids) : Int) == (0 : Int)) (∃ (y : Unit), True ∧ false = callsOk x.fst x.snd ∧ True) (((0 : Int) ≤ (0 : Int) ∧ (0 : Int) < (↑(List.length e_1.kids) : Int)) ∧ ∀ (e : Int), e_1.kids[(0 : Nat)]? = some e → ∃ (x_1 : List Nd × Int), List.length x_1.fst < (4611686018427387904 : Nat) ∧ AV.sl false (0 : Nat) (4 : Nat) Nd (ndA false) x.fst = AV.sl false (0 : Nat) (4 : Nat) Nd (ndA false) x_1.fst ∧ e = x_1.snd ∧ ∀ (y : Unit), True → bcase (!isNd x_1.fst x_1.snd) (∃ (y : Unit), True ∧ false = callsOk x.fst x.snd ∧ True) (bcase (x.snd.kind == (10 : Int)) (bcase (decide (i > (0 : Int))) (((0 : Int) ≤ (0 : Int) ∧ (0 : Int) < (↑(List.length e_1.kids) : Int)) ∧ ∀ (e : Int), e_1.kids[(0 : Nat)]? = some e → ((0 : Int) ≤ e ∧ e < (↑(List.length x.fst) : Int)) ∧ ∀ (e_2 : Nd), x.fst[Int.toNat e]? = some e_2 → bcase (e_2.kind != (1 : Int)) (∃ (y : Unit), True ∧ false = callsOk x.fst x.snd ∧ True) (inR IntKind.i64 (i + (1 : Int)) ∧ ∃ (i' : Int), cfI x.fst x.snd i' ∧ List.length x.snd.kids - Int.toNat i' < List.length x.snd.kids - Int.toNat i ∧ (AV.sl false (0 : Nat) (4 : Nat) Nd (ndA false) x.fst = AV.sl false (0 : Nat) (4 : Nat) Nd (ndA false) x.fst ∧ x.snd.kind = x.snd.kind ∧ x.snd.text = x.snd.text ∧ AV.sl false (0 : Nat) (1 : Nat) Int intA x.snd.kids = AV.sl false (0 : Nat) (1 : Nat) Int intA x.snd.kids ∧ x.snd.blank = x.snd.blank ∧ AV.sl false (0 : Nat) (1 : Nat) Int intA x.snd.kids = AV.sl false (0 : Nat) (1 : Nat) Int intA x.snd.kids ∧ (↑(List.length x.snd.kids) : Int) = (↑(List.length x.snd.kids) : Int) ∧ i + (1 : Int) = i' ∧ True) ∧ True)) (inR IntKind.i64 (i + (1 : Int)) ∧ ∃ (i' : Int), cfI x.fst x.snd i' ∧ List.length x.snd.kids - Int.toNat i' < List.length x.snd.kids - Int.toNat i ∧ (AV.sl false (0 : Nat) (4 : Nat) Nd (ndA false) x.fst = AV.sl false (0 : Nat) (4 : Nat) Nd (ndA false) x.fst ∧ x.snd.kind = x.snd.kind ∧ x.snd.text = x.snd.text ∧ AV.sl false (0 : Nat) (1 : Nat) Int intA x.snd.kids = AV.sl false (0 : Nat) (1 : Nat) Int intA x.snd.kids ∧ x.snd.blank = x.snd.blank ∧ AV.sl false (0 : Nat) (1 : Nat) Int intA x.snd.kids = AV.sl false (0 : Nat) (1 : Nat) Int intA x.snd.kids ∧ (↑(List.length x.snd.kids) : Int) = (↑(List.length x.snd.kids) : Int) ∧ i + (1 : Int) = i' ∧ True) ∧ True)) (inR IntKind.i64 (i + (1 : Int)) ∧ ∃ (i' : Int), cfI x.fst x.snd i' ∧ List.length x.snd.kids - Int.toNat i' < List.length x.snd.kids - Int.toNat i ∧ (AV.sl false (0 : Nat) (4 : Nat) Nd (ndA false) x.fst = AV.sl false (0 : Nat) (4 : Nat) Nd (ndA false) x.fst ∧ x.snd.kind = x.snd.kind ∧ x.snd.text = x.snd.text ∧ AV.sl false (0 : Nat) (1 : Nat) Int intA x.snd.kids = AV.sl false (0 : Nat) (1 : Nat) Int intA x.snd.kids ∧ x.snd.blank = x.snd.blank ∧ AV.sl false (0 : Nat) (1 : Nat) Int intA x.snd.kids = AV.sl false (0 : Nat) (1 : Nat) Int intA x.snd.kids ∧ (↑(List.length x.snd.kids) : Int) = (↑(List.length x.snd.kids) : Int) ∧ i + (1 : Int) = i' ∧ True) ∧ True))))) (∃ (y : Unit), True ∧ true = callsOk x.fst x.snd ∧ True)) := by kernel_rfl
theorem callsFit_ok  : Contract Tryd.prog 69 s_callsFit :=
  vcFun_ok (Γ := Γof [(48, 0, s_isNode)]) (E := Eof []) (ov := false) (L := fun x => Lof ([(2,{ ι := Int, inv := cfI x.1 x.2, regs := fun i => [(0, nds x.1), (3, .box 0 (ndA false x.2)), (9, ints x.2.kids), (10, .int .i64 x.2.kids.length), (11, .int .i64 i)], als := [], meas := fun i => x.2.kids.length - i.toNat })])) Tryd.func69 rfl (by decide) (Γof_ok (l := [(48, 0, s_isNode)]) ⟨isNode_ok, trivial⟩) fun (x : List Nd × Nd) (hx : okNds x.1 ∧ okNd x.2 ∧ ∀ c ∈ x.2.kids, 0 ≤ c ∧ c < x.1.length) => (callsFit_vc  x).mpr (by
  obtain ⟨h1, h2, h3⟩ := hx; have hl := h1.1; have hk := h2.2
  (repeat' first | with_reducible rfl | exact True.intro | refine inR_i64 ?_ ?_ | with_reducible refine And.intro ?_ ?_ | with_reducible refine bcase_dec (fun _ => ?_) (fun _ => ?_) | with_reducible refine bcase_bne (fun _ => ?_) (fun _ => ?_) | with_reducible refine bcase_beq (fun _ => ?_) (fun _ => ?_) | with_reducible refine bcase_not (fun _ => ?_) (fun _ => ?_) | refine bcase_intro (fun _ => ?_) (fun _ => ?_) | refine sl_eq ?_ | refine ex_flip () ?_ ?_ | (apply ex_flip6 <;> try dsimp only) | (apply ex_flip5 <;> try dsimp only) | (apply ex_flip4 <;> try dsimp only) | (apply ex_flip3 <;> try dsimp only) | (apply ex_flip2 <;> try dsimp only) | apply ex_flip | (refine Prod.forall.2 ?_; intro _; try dsimp only) | (intro _; try dsimp only))
  all_goals first
    | exact cfI_init
    | exact cfI_done (by assumption) (by assumption)
    | exact cfI_next (by assumption) (by assumption) (callOk1 (by assumption) (by assumption))
    | exact cfI_next (by assumption) (by assumption) (callOk7 (by assumption) (by assumption) (by assumption) (by assumption) (by assumption))
    | exact cfI_next (by assumption) (by assumption) (callOk6 (by assumption) (by assumption) (by assumption) (by assumption) (by assumption))
    | exact cfI_next (by assumption) (by assumption) (callOk5 (by assumption) (by assumption) (by assumption) (by assumption) (by assumption) (by assumption) (by assumption))
    | exact cf_not (by assumption) (callOk2 (by assumption) (by assumption) (by assumption))
    | exact cf_not (by assumption) (callOk3 (by assumption) (by assumption) (by assumption) (by assumption))
    | exact cf_not (by assumption) (callOk4 (by assumption) (by assumption) (by assumption) (by assumption) (by assumption) (by assumption) (by assumption) (by assumption) (by assumption))
    | exact (h3 _ (memE (by assumption))).1
    | exact (h3 _ (memE (by assumption))).2
    | exact (ndB (by assumption) (by assumption) (by assumption)).1
    | exact (ndB (by assumption) (by assumption) (by assumption)).2
    | (obtain ⟨_, _, _⟩ := ‹cfI _ _ _›; (try simp only [i64max] at *); omega)
    | skip)

end Go.My
