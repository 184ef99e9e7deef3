/- A part of the proof: the engine and the contracts, joined. -/
import Derived.Test.YtlmpaancffikiaaGreatDoorQE
section
set_option linter.unusedVariables false
set_option linter.unusedSimpArgs false
namespace Go.My
open Go.Eng Go.Proofs
variable {G : GInv}
def okNd (x : Nd) : Prop := x.text.length < 2 ^ 62 ∧ x.kids.length < 2 ^ 62
def okNds (l : List Nd) : Prop := l.length < 2 ^ 62 ∧ ∀ x ∈ l, okNd x
theorem okNds_at {l : List Nd} {n : Nat} {x : Nd} (hx : l[n]? = some x) (h : okNds l) : okNd x := h.2 x (memE hx)
theorem okNds_ndAt {l : List Nd} {k : Int} (h : okNds l) : okNd (ndAt l k) := by
  unfold ndAt
  rw [List.getD]
  cases hx : l[k.toNat]? with
  | none => simp [okNd]
  | some x => exact okNds_at hx h
def idxInt (v : Int) : List Int → Int → Int
  | [], _ => -1
  | c :: l, i => if v = c then i else idxInt v l (i + 1)
theorem idxInt_elem {v : Int} : ∀ {l : List Int} {i : Int}, 0 ≤ i → (0 ≤ idxInt v l i ↔ v ∈ l)
  | [], i, h => by simp [idxInt]
  | c :: l, i, h => by
    unfold idxInt
    by_cases e : v = c
    · simp [e, h]
    · rw [if_neg e, idxInt_elem (by omega)]; simp [e]
def s_ixInt  : Sig := { X := List Int × Int, args := fun x => [ints x.1, .int .i64 x.2], pre := fun x => x.1.length < 2 ^ 62, Y := Unit, post := fun x y => True, res := fun x y => .int .i64 (idxInt x.2 x.1 0), outs := fun x y => [.top, .top], keep := false }
def i_ixInt  (x : List Int × Int) : LS := { ι := Int, inv := fun i => (0 ≤ i ∧ i ≤ x.1.length) ∧ idxInt x.2 (x.1.drop i.toNat) i = idxInt x.2 x.1 0, regs := fun i => [(0, ints x.1), (1, .int .i64 x.2), (7, .int .i64 x.1.length), (8, .int .i64 i)], als := [], meas := fun i => x.1.length - i.toNat }
theorem ixInt_ok  : Contract G Tryz.prog 124 s_ixInt :=
  vcFun_okP [] [] false (fun x => [(2, i_ixInt  x)]) Tryz.func124 rfl (by decide) trivial (fun (x : List Int × Int) => (∀ (y : Unit), True → True ∧ True ∧ True ∧ True) ∧ eA (i_ixInt x) [ints x.1, .int .i64 x.2, .int .i64 (↑(List.length x.1) : Int), .int .i64 (0 : Int)] ∧ ∀ (i : Int), ((0 : Int) ≤ i ∧ i ≤ (↑(List.length x.1) : Int)) ∧ idxInt x.2 (List.drop (Int.toNat i) x.1) i = idxInt x.2 x.1 (0 : Int) → bcase (decide (i < (↑(List.length x.1) : Int))) (((0 : Int) ≤ i ∧ i < (↑(List.length x.1) : Int)) ∧ ∀ (e : Int), x.1[Int.toNat i]? = some e → bcase (x.2 == e) (rA s_ixInt x [.int .i64 i, .top, .top]) (inR IntKind.i64 (i + (1 : Int)) ∧ eN (i_ixInt x) i [ints x.1, .int .i64 x.2, .int .i64 (↑(List.length x.1) : Int), .int .i64 (i + (1 : Int))])) (rA s_ixInt x [.int .i64 (-1 : Int), .top, .top])) (fun x => by kernel_rfl) fun (x : List Int × Int) (hx : x.1.length < 2 ^ 62) => (by
  dsimp only [eA, eN, i_ixInt, ints, rA, s_ixInt, hndL, hnd1, sndL]
  have hx : x.1.length < 2 ^ 62 := hx
  (repeat' first | (with_reducible first | rfl | exact True.intro | apply inR_i64 | apply And.intro | ((first | apply bcase_dec | apply bcase_bne | apply bcase_beq | apply bcase_not) <;> intro _)) | (apply bcase_intro <;> intro _) | apply sl_eq | refine ex_flip () ?_ ?_ | ((first | apply ex_flip10 | apply ex_flip9 | apply ex_flip8 | apply ex_flip7 | apply ex_flip6 | apply ex_flip5 | apply ex_flip4 | apply ex_flip3 | apply ex_flip2) <;> try dsimp only) | apply ex_flip | (refine Prod.forall.2 ?_; intro _; try dsimp only) | (intro _; try dsimp only)) <;> (try dsimp only at *) <;> (try simp only [i64max, List.length_cons, List.length_nil]) <;> (try omega)
  all_goals first
    | (rename_i i hi hl e he h; rw [← hi.2, dropE he]; simp [idxInt, h]; done)
    | (rename_i i hi hl e he h; rw [← hi.2, dropE he, toNat1 hi.1.1]; simp [idxInt, h]; done)
    | rfl
    | (rename_i i hi hl; rw [← hi.2, List.drop_eq_nil_of_le (by omega)]; rfl)
    | skip)
def s_hasInt  : Sig := { X := List Int × Int, args := fun x => [ints x.1, .int .i64 x.2], pre := fun x => x.1.length < 2 ^ 62, Y := Unit, post := fun x y => True, res := fun x y => .bool (x.1.elem x.2), outs := fun x y => [.top, .top], keep := false }
theorem hasInt_ok  : Contract G Tryz.prog 98 s_hasInt :=
  vcFun_okP [(124, 0, s_ixInt)] [] false (fun x => []) Tryz.func98 rfl (by decide) ⟨ixInt_ok, trivial⟩ (fun (x : List Int × Int) => (∀ (y : Unit), True → True ∧ True ∧ True ∧ True) ∧ cA s_ixInt [ints x.1, .int .i64 x.2] fun x_1 y => rA s_hasInt x [.bool (decide (idxInt x_1.2 x_1.1 (0 : Int) ≥ (0 : Int))), .top, .top]) (fun x => by kernel_rfl) fun (x : List Int × Int) (hx : x.1.length < 2 ^ 62) => (by
  dsimp only [cA, ints, rA, s_hasInt, s_ixInt, hndL, hnd1, mvL, lnL, mvE, lnE]
  have hx : x.1.length < 2 ^ 62 := hx
  (repeat' first | (with_reducible first | rfl | exact True.intro | apply inR_i64 | apply And.intro | ((first | apply bcase_dec | apply bcase_bne | apply bcase_beq | apply bcase_not) <;> intro _)) | (apply bcase_intro <;> intro _) | apply sl_eq | refine ex_flip () ?_ ?_ | ((first | apply ex_flip10 | apply ex_flip9 | apply ex_flip8 | apply ex_flip7 | apply ex_flip6 | apply ex_flip5 | apply ex_flip4 | apply ex_flip3 | apply ex_flip2) <;> try dsimp only) | apply ex_flip | (refine Prod.forall.2 ?_; intro _; try dsimp only) | (intro _; try dsimp only)) <;> (try dsimp only at *) <;> (try simp only [i64max, List.length_cons, List.length_nil]) <;> (try omega)
  all_goals first | (rw [Bool.eq_iff_iff, decide_eq_true_iff, List.elem_iff]; exact idxInt_elem (by omega)) | skip)
theorem callsOk_iff {ns : List Nd} {x : Nd} : callsOk ns x = true ↔ ∀ (j : Nat) c, x.kids[j]? = some c → callOk ns x j c = true := by
  have e : callsOk ns x = allAt (fun i c => callOk ns x i.toNat c) x.kids 0 := by
    unfold callsOk
    have : (fun p : Int × Nat => callOk ns x p.2 p.1) = fun p : Int × Nat => (fun (i c : Int) => callOk ns x i.toNat c) p.2 p.1 := by funext p; simp
    rw [this]; exact allAt_zip (f := fun i c => callOk ns x i.toNat c) (i := 0)
  rw [e, allAt_iff]; simp
def cfI (ns : List Nd) (x : Nd) (i : Int) : Prop := 0 ≤ i ∧ i ≤ x.kids.length ∧ ∀ (j : Nat) c, (j : Int) < i → x.kids[j]? = some c → callOk ns x j c = true
theorem cfI_init {ns : List Nd} {x : Nd} : cfI ns x 0 := ⟨by omega, by omega, fun j c h => by omega⟩
theorem cfI_next {ns : List Nd} {x : Nd} {i c : Int} (h : cfI ns x i) (hc : x.kids[i.toNat]? = some c) (hk : callOk ns x i.toNat c = true) : cfI ns x (i + 1) := by
  obtain ⟨h1, h2, h3⟩ := h
  have := (getE hc).1
  refine ⟨by omega, by omega, fun j d hj hd => ?_⟩
  by_cases e : (j : Int) < i
  · exact h3 j d e hd
  · obtain rfl : j = i.toNat := by omega
    rw [hc] at hd; cases hd; exact hk
theorem cfI_done {ns : List Nd} {x : Nd} {i : Int} (h : cfI ns x i) (hl : ¬ i < x.kids.length) : true = callsOk ns x := by
  symm; rw [callsOk_iff]; intro j c hc
  exact h.2.2 j c (by have := (getE hc).1; omega) hc
theorem cf_not {ns : List Nd} {x : Nd} {i c : Int} (hc : x.kids[i.toNat]? = some c) (hk : callOk ns x i.toNat c = false) : false = callsOk ns x := by
  symm; rw [Bool.eq_false_iff]; intro h
  rw [callsOk_iff.1 h _ _ hc] at hk; cases hk
theorem callOk1 {ns : List Nd} {x y : Nd} {i c : Int} (hy : ns[c.toNat]? = some y) (h : y.kind ≠ 5) : callOk ns x i.toNat c = true := by
  simp [callOk, ndAt_of hy, h]
theorem callOk2 {ns : List Nd} {x y : Nd} {i c : Int} (hy : ns[c.toNat]? = some y) (h : y.kind = 5) (h0 : (y.kids.length : Int) = 0) : callOk ns x i.toNat c = false := by
  have h0 := List.length_eq_zero_iff.1 (show y.kids.length = 0 by omega)
  simp [callOk, ndAt_of hy, h, h0]
theorem callOk3 {ns : List Nd} {x y : Nd} {i c d : Int} (hy : ns[c.toNat]? = some y) (h : y.kind = 5) (hd : isNd ns d = false) (h0 : y.kids[0]? = some d) : callOk ns x i.toNat c = false := by
  match hk : y.kids with
  | [] => rw [hk] at h0; cases h0
  | e :: t => rw [hk] at h0; cases h0; simp [callOk, ndAt_of hy, h, hk, hd]
theorem callOk4 {ns : List Nd} {x y z : Nd} {i c d d' : Int} (hy : ns[c.toNat]? = some y) (h : y.kind = 5) (hd : isNd ns d = true) (h0 : y.kids[0]? = some d) (hz : ns[d'.toNat]? = some z) (h0' : y.kids[0]? = some d') (h10 : x.kind = 10) (hi : i > 0) (h1 : z.kind ≠ 1) : callOk ns x i.toNat c = false := by
  match hk : y.kids with
  | [] => rw [hk] at h0; cases h0
  | e :: t => rw [hk] at h0 h0'; cases h0; cases h0'; simp [callOk, ndAt_of hy, h, hk, hd, h10, kindAt, ndAt_of hz, h1]; omega
theorem callOk5 {ns : List Nd} {x y z : Nd} {i c d d' : Int} (hy : ns[c.toNat]? = some y) (h : y.kind = 5) (hd : isNd ns d = true) (h0 : y.kids[0]? = some d) (hz : ns[d'.toNat]? = some z) (h0' : y.kids[0]? = some d') (h1 : z.kind = 1) : callOk ns x i.toNat c = true := by
  match hk : y.kids with
  | [] => rw [hk] at h0; cases h0
  | e :: t => rw [hk] at h0 h0'; cases h0; cases h0'; simp [callOk, ndAt_of hy, h, hk, hd, kindAt, ndAt_of hz, h1]
theorem callOk6 {ns : List Nd} {x y : Nd} {i c d : Int} (hy : ns[c.toNat]? = some y) (h : y.kind = 5) (hd : isNd ns d = true) (h0 : y.kids[0]? = some d) (h1 : x.kind ≠ 10) : callOk ns x i.toNat c = true := by
  match hk : y.kids with
  | [] => rw [hk] at h0; cases h0
  | e :: t => rw [hk] at h0; cases h0; simp [callOk, ndAt_of hy, h, hk, hd, h1]
theorem callOk7 {ns : List Nd} {x y : Nd} {i c d : Int} (hy : ns[c.toNat]? = some y) (h : y.kind = 5) (hd : isNd ns d = true) (h0 : y.kids[0]? = some d) (h1 : ¬ i > 0) : callOk ns x i.toNat c = true := by
  have : i.toNat = 0 := by omega
  match hk : y.kids with
  | [] => rw [hk] at h0; cases h0
  | e :: t => rw [hk] at h0; cases h0; simp [callOk, ndAt_of hy, h, hk, hd, this]
theorem ndB {ns : List Nd} {l : List Int} {d d' : Int} (hd : isNd ns d = true) (h0 : l[0]? = some d) (h0' : l[0]? = some d') : 0 ≤ d' ∧ d' < ns.length := by
  rw [h0] at h0'; cases h0'; exact isNd_iff.1 hd
def s_callsFit  : Sig := { X := List Nd × Nd, args := fun x => [nds x.1, .agg (ndA false x.2)], pre := fun x => okNds x.1 ∧ okNd x.2 ∧ ∀ c ∈ x.2.kids, 0 ≤ c ∧ c < x.1.length, Y := Unit, post := fun x y => True, res := fun x y => .bool (callsOk x.1 x.2), outs := fun x y => [.top, .top], keep := false }
def i_callsFit  (x : List Nd × Nd) : LS := { ι := Int, inv := cfI x.1 x.2, regs := fun i => [(0, nds x.1), (3, .box 0 (ndA false x.2)), (9, ints x.2.kids), (10, .int .i64 x.2.kids.length), (11, .int .i64 i)], als := [], meas := fun i => x.2.kids.length - i.toNat }
theorem callsFit_ok  : Contract G Tryz.prog 101 s_callsFit :=
  vcFun_okP [(56, 0, s_isNode)] [] false (fun x => [(2, i_callsFit  x)]) Tryz.func101 rfl (by decide) ⟨isNode_ok, trivial⟩ (fun (x : List Nd × Nd) => (∀ (y : Unit), True → True ∧ True ∧ True ∧ True) ∧ eA (i_callsFit x) [nds x.1, .box 0 [.int .i64 x.2.kind, .str x.2.text, ints x.2.kids, .bool x.2.blank], ints x.2.kids, .int .i64 (↑(List.length x.2.kids) : Int), .int .i64 (0 : Int)] ∧ ∀ (i : Int), cfI x.1 x.2 i → bcase (decide (i < (↑(List.length x.2.kids) : Int))) (((0 : Int) ≤ i ∧ i < (↑(List.length x.2.kids) : Int)) ∧ ∀ (e : Int), x.2.kids[Int.toNat i]? = some e → ((0 : Int) ≤ e ∧ e < (↑(List.length x.1) : Int)) ∧ ∀ (e_1 : Nd), x.1[Int.toNat e]? = some e_1 → bcase (e_1.kind != (5 : Int)) (inR IntKind.i64 (i + (1 : Int)) ∧ eN (i_callsFit x) i [nds x.1, .box 0 [.int .i64 x.2.kind, .str x.2.text, ints x.2.kids, .bool x.2.blank], ints x.2.kids, .int .i64 (↑(List.length x.2.kids) : Int), .int .i64 (i + (1 : Int))]) (bcase ((↑(List.length e_1.kids) : Int) == (0 : Int)) (rA s_callsFit x [.bool false, .top, .top]) (((0 : Int) ≤ (0 : Int) ∧ (0 : Int) < (↑(List.length e_1.kids) : Int)) ∧ ∀ (e : Int), e_1.kids[(0 : Nat)]? = some e → cA s_isNode [nds x.1, .int .i64 e] fun x_1 y => bcase (!isNd x_1.1 x_1.2) (rA s_callsFit x [.bool false, .top, .top]) (bcase (x.2.kind == (10 : Int)) (bcase (decide (i > (0 : Int))) (((0 : Int) ≤ (0 : Int) ∧ (0 : Int) < (↑(List.length e_1.kids) : Int)) ∧ ∀ (e : Int), e_1.kids[(0 : Nat)]? = some e → ((0 : Int) ≤ e ∧ e < (↑(List.length x.1) : Int)) ∧ ∀ (e_2 : Nd), x.1[Int.toNat e]? = some e_2 → bcase (e_2.kind != (1 : Int)) (rA s_callsFit x [.bool false, .top, .top]) (inR IntKind.i64 (i + (1 : Int)) ∧ eN (i_callsFit x) i [nds x.1, .box 0 [.int .i64 x.2.kind, .str x.2.text, ints x.2.kids, .bool x.2.blank], ints x.2.kids, .int .i64 (↑(List.length x.2.kids) : Int), .int .i64 (i + (1 : Int))])) (inR IntKind.i64 (i + (1 : Int)) ∧ eN (i_callsFit x) i [nds x.1, .box 0 [.int .i64 x.2.kind, .str x.2.text, ints x.2.kids, .bool x.2.blank], ints x.2.kids, .int .i64 (↑(List.length x.2.kids) : Int), .int .i64 (i + (1 : Int))])) (inR IntKind.i64 (i + (1 : Int)) ∧ eN (i_callsFit x) i [nds x.1, .box 0 [.int .i64 x.2.kind, .str x.2.text, ints x.2.kids, .bool x.2.blank], ints x.2.kids, .int .i64 (↑(List.length x.2.kids) : Int), .int .i64 (i + (1 : Int))]))))) (rA s_callsFit x [.bool true, .top, .top])) (fun x => by kernel_rfl) fun (x : List Nd × Nd) (hx : okNds x.1 ∧ okNd x.2 ∧ ∀ c ∈ x.2.kids, 0 ≤ c ∧ c < x.1.length) => (by
  dsimp only [cA, eA, eN, i_callsFit, ints, ndA_e, nds, rA, s_callsFit, s_isNode, hndL, hnd1, mvL, lnL, mvE, lnE, sndL]
  obtain ⟨h1, h2, h3⟩ := hx; have hl := h1.1; have hk := h2.2
  (repeat' first | (with_reducible first | rfl | exact True.intro | apply inR_i64 | apply And.intro | ((first | apply bcase_dec | apply bcase_bne | apply bcase_beq | apply bcase_not) <;> intro _)) | (apply bcase_intro <;> intro _) | apply sl_eq | refine ex_flip () ?_ ?_ | ((first | apply ex_flip10 | apply ex_flip9 | apply ex_flip8 | apply ex_flip7 | apply ex_flip6 | apply ex_flip5 | apply ex_flip4 | apply ex_flip3 | apply ex_flip2) <;> try dsimp only) | apply ex_flip | (refine Prod.forall.2 ?_; intro _; try dsimp only) | (intro _; try dsimp only))
  all_goals first
    | exact cfI_init
    | exact cfI_done (by assumption) (by assumption)
    | exact cfI_next (by assumption) (by assumption) (callOk1 (by assumption) (by assumption))
    | exact cfI_next (by assumption) (by assumption) (callOk7 (by assumption) (by assumption) (by assumption) (by assumption) (by assumption))
    | exact cfI_next (by assumption) (by assumption) (callOk6 (by assumption) (by assumption) (by assumption) (by assumption) (by assumption))
    | exact cfI_next (by assumption) (by assumption) (callOk5 (by assumption) (by assumption) (by assumption) (by assumption) (by assumption) (by assumption) (by assumption))
    | exact cf_not (by assumption) (callOk2 (by assumption) (by assumption) (by assumption))
    | exact cf_not (by assumption) (callOk3 (by assumption) (by assumption) (by assumption) (by assumption))
    | exact cf_not (by assumption) (callOk4 (by assumption) (by assumption) (by assumption) (by assumption) (by assumption) (by assumption) (by assumption) (by assumption) (by assumption))
    | exact (h3 _ (memE (by assumption))).1
    | exact (h3 _ (memE (by assumption))).2
    | exact (ndB (by assumption) (by assumption) (by assumption)).1
    | exact (ndB (by assumption) (by assumption) (by assumption)).2
    | (obtain ⟨_, _, _⟩ := ‹cfI _ _ _›; (try simp only [i64max] at *); omega)
    | skip)
end Go.My
end
section
set_option linter.unusedVariables false
set_option linter.unusedSimpArgs false
namespace Go.My
open Go.Eng Go.Proofs
variable {G : GInv}
def nkI (k : Int) (l : List Int) (i : Int) : Prop := 0 ≤ i ∧ i ≤ l.length ∧ (∀ c ∈ l.take i.toNat, 0 ≤ c ∧ c < k) ∧ (l.take i.toNat).Nodup
theorem nkI_init {k : Int} {l : List Int} : nkI k l 0 := ⟨by omega, by omega, by simp, by simp⟩
theorem nkI_next {k : Int} {l : List Int} {i c : Int} (h : nkI k l i) (hc : l[i.toNat]? = some c) (h1 : ¬ c < 0) (h2 : ¬ c ≥ k) (h3 : (l.take i.toNat).elem c = false) : nkI k l (i + 1) := by
  obtain ⟨ha, hb, hd, he⟩ := h
  have := (getE hc).1
  refine ⟨by omega, by omega, ?_, ?_⟩
  · rw [toNat1 ha, takeE hc]; intro d hd'
    rcases List.mem_append.1 hd' with hd' | hd'
    · exact hd d hd'
    · simp at hd'; subst hd'; omega
  · rw [toNat1 ha, takeE hc, List.nodup_append]
    refine ⟨he, by simp, ?_⟩
    intro a ha' b hb' hab
    simp at hb'; subst hb'; subst hab
    simp at h3; exact h3 ha'
theorem nkI_done {k : Int} {l : List Int} {i : Int} (h : nkI k l i) (hl : ¬ i < l.length) : kidsIn l k = true ∧ l.Nodup := by
  obtain ⟨ha, hb, hd, he⟩ := h
  rw [List.take_of_length_le (by omega)] at hd he
  exact ⟨by simpa [kidsIn] using hd, he⟩
theorem nk_lt {k : Int} {l : List Int} {n : Nat} {c : Int} (hc : l[n]? = some c) (h1 : c < 0) : kidsIn l k = false := by
  rw [Bool.eq_false_iff]; intro h; simp only [kidsIn, List.all_eq_true, Bool.and_eq_true, decide_eq_true_eq] at h
  have := h c (memE hc); omega
theorem nk_ge {k : Int} {l : List Int} {n : Nat} {c : Int} (hc : l[n]? = some c) (h1 : c ≥ k) : kidsIn l k = false := by
  rw [Bool.eq_false_iff]; intro h; simp only [kidsIn, List.all_eq_true, Bool.and_eq_true, decide_eq_true_eq] at h
  have := h c (memE hc); omega
theorem nk_dup {l : List Int} {n : Nat} {c : Int} (hc : l[n]? = some c) (h1 : (l.take n).elem c = true) : ¬ l.Nodup := by
  intro h
  have e : l = l.take n ++ l.drop n := (List.take_append_drop n l).symm
  rw [e, dropE hc, List.nodup_append] at h
  exact h.2.2 c (by simpa using h1) c (by simp) rfl
theorem no_nd {ns : List Nd} {k : Int} (h : isNd ns k = false) : false = nodeOk ns k := by simp [nodeOk, h]
theorem no_of {ns : List Nd} {k : Int} {x : Nd} (hx : ns[k.toNat]? = some x) (h : isNd ns k = true) : nodeOk ns k = nodeOk1 ns k x := by rw [nodeOk, h, ndAt_of hx]; rfl
theorem no_len {ns : List Nd} {k : Int} {x : Nd} (hx : ns[k.toNat]? = some x) (h : isNd ns k = true) (h1 : (x.kids.length : Int) > 12) : false = nodeOk ns k := by
  rw [no_of hx h, nodeOk1, decide_eq_false (by omega)]; rfl
theorem no_text {ns : List Nd} {k : Int} {x : Nd} (hx : ns[k.toNat]? = some x) (h : isNd ns k = true) (h1 : textOk x.kind x.text = false) : false = nodeOk ns k := by
  rw [no_of hx h, nodeOk1, h1]; simp
theorem no_in {ns : List Nd} {k : Int} {x : Nd} (hx : ns[k.toNat]? = some x) (h : isNd ns k = true) (h1 : kidsIn x.kids k = false) : false = nodeOk ns k := by
  rw [no_of hx h, nodeOk1, h1]; simp
theorem no_dup {ns : List Nd} {k : Int} {x : Nd} (hx : ns[k.toNat]? = some x) (h : isNd ns k = true) (h1 : ¬ x.kids.Nodup) : false = nodeOk ns k := by
  rw [no_of hx h, nodeOk1, decide_eq_false h1]; simp
theorem no_yes {ns : List Nd} {k i : Int} {x : Nd} (hx : ns[k.toNat]? = some x) (h : isNd ns k = true) (h1 : (x.kids.length : Int) ≤ 12) (h2 : textOk x.kind x.text = true) (h3 : nkI k x.kids i) (hl : ¬ i < x.kids.length) :
    nodeOk ns k = (kindsOk x.kind ((x.kids.take i.toNat).map (kindAt ns)) && (callsOk ns x && (mayBlank x.kind || !x.blank))) := by
  obtain ⟨ha, hb⟩ := nkI_done h3 hl
  rw [List.take_of_length_le (by have := h3.1; omega), no_of hx h, nodeOk1, h2, ha, decide_eq_true hb, decide_eq_true (by omega)]; simp
theorem nkI_at {k : Int} {l : List Int} {i c n : Int} (h : nkI k l i) (hl : ¬ i < l.length) (hk : k < n) (hc : c ∈ l) : 0 ≤ c ∧ c < n := by
  have := (nkI_done h hl).1
  simp only [kidsIn, List.all_eq_true, Bool.and_eq_true, decide_eq_true_eq] at this
  have := this c hc; omega
theorem kinds_next {ns : List Nd} {l : List Int} {i c : Int} {y : Nd} (h0 : 0 ≤ i) (hc : l[i.toNat]? = some c) (hy : ns[c.toNat]? = some y) : (l.take i.toNat).map (kindAt ns) ++ [y.kind] = (l.take (i + 1).toNat).map (kindAt ns) := by
  rw [toNat1 h0, takeE hc, List.map_append]; simp [kindAt, ndAt_of hy]
def lNode (x : List Nd × Int) : LS := {
  ι := Int, inv := nkI x.2 (ndAt x.1 x.2).kids,
  regs := fun i => [(0, nds x.1), (1, .int .i64 x.2), (5, .box 0 (ndA false (ndAt x.1 x.2))), (6, oints (((ndAt x.1 x.2).kids.take i.toNat).map (kindAt x.1))), (28, ints (ndAt x.1 x.2).kids), (29, .int .i64 (ndAt x.1 x.2).kids.length), (30, .int .i64 i)], als := [], meas := fun i => (ndAt x.1 x.2).kids.length - i.toNat }
def s_iNodeOk  : Sig := { X := List Nd × Int, args := fun x => [nds x.1, .int .i64 x.2], pre := fun x => okNds x.1, Y := Unit, post := fun x y => True, res := fun x y => .bool (nodeOk x.1 x.2), outs := fun x y => [.top, .top], keep := false }
theorem iNodeOk_ok  : Contract G Tryz.prog 57 s_iNodeOk :=
  vcFun_okP [(56, 0, s_isNode), (97, 0, s_textFits), (98, 0, s_hasInt), (34, 0, s_isStep), (99, 0, s_isMember), (100, 0, s_kindsFit), (101, 0, s_callsFit)] [(45, ⟨Int,intA⟩)] false (fun x => [(8, lNode x)]) Tryz.func57 rfl (by decide) ⟨isNode_ok, textFits_ok, hasInt_ok, isStep_ok, isMember_ok, kindsFit_ok, callsFit_ok, trivial⟩ (fun (x : List Nd × Int) => (∀ (y : Unit), True → True ∧ True ∧ True ∧ True) ∧ cA s_isNode [nds x.1, .int .i64 x.2] fun x_1 y => bcase (!isNd x_1.1 x_1.2) (rA s_iNodeOk x [.bool false, .top, .top]) (((0 : Int) ≤ x.2 ∧ x.2 < (↑(List.length x.1) : Int)) ∧ ∀ (e : Nd), x.1[Int.toNat x.2]? = some e → bcase (decide ((↑(List.length e.kids) : Int) > (12 : Int))) (rA s_iNodeOk x [.bool false, .top, .top]) (cA s_textFits [.agg [.int .i64 e.kind, .str e.text, ints e.kids, .bool e.blank]] fun x_2 y => bcase (!textOk x_2.kind x_2.text) (rA s_iNodeOk x [.bool false, .top, .top]) (eA (lNode x) [nds x.1, .int .i64 x.2, .box 0 [.int .i64 e.kind, .str e.text, ints e.kids, .bool e.blank], .nil, ints e.kids, .int .i64 (↑(List.length e.kids) : Int), .int .i64 (0 : Int)] ∧ ∀ (i : Int), nkI x.2 (ndAt x.1 x.2).kids i → bcase (decide (i < (↑(List.length (ndAt x.1 x.2).kids) : Int))) (((0 : Int) ≤ i ∧ i < (↑(List.length (ndAt x.1 x.2).kids) : Int)) ∧ ∀ (e : Int), (ndAt x.1 x.2).kids[Int.toNat i]? = some e → bcase (decide (e < (0 : Int))) (rA s_iNodeOk x [.bool false, .top, .top]) (bcase (decide (e ≥ x.2)) (rA s_iNodeOk x [.bool false, .top, .top]) (((0 : Int) ≤ (0 : Int) ∧ (0 : Int) ≤ i ∧ i ≤ (↑(List.length (ndAt x.1 x.2).kids) : Int)) ∧ cA s_hasInt [ints (List.take (Int.toNat i) (ndAt x.1 x.2).kids), .int .i64 e] fun x_3 y => bcase (List.elem x_3.2 x_3.1) (rA s_iNodeOk x [.bool false, .top, .top]) (((0 : Int) ≤ e ∧ e < (↑(List.length x.1) : Int)) ∧ ∀ (e_1 : Nd), x.1[Int.toNat e]? = some e_1 → ∃ (x_4 : Int), e_1.kind = x_4 ∧ ∃ (zs : List Int), oints [x_4] = oints zs ∧ leafy intA ∧ room (List.length (List.map (kindAt x.1) (List.take (Int.toNat i) (ndAt x.1 x.2).kids)) + List.length zs) (8 : Nat) ∧ inR IntKind.i64 (i + (1 : Int)) ∧ eN (lNode x) i [nds x.1, .int .i64 x.2, .box 0 [.int .i64 (ndAt x.1 x.2).kind, .str (ndAt x.1 x.2).text, ints (ndAt x.1 x.2).kids, .bool (ndAt x.1 x.2).blank], oints (List.map (kindAt x.1) (List.take (Int.toNat i) (ndAt x.1 x.2).kids) ++ zs), ints (ndAt x.1 x.2).kids, .int .i64 (↑(List.length (ndAt x.1 x.2).kids) : Int), .int .i64 (i + (1 : Int))])))) (cA s_isStep [.int .i64 (ndAt x.1 x.2).kind] fun x_3 y => bcase (isStep x_3) (cA s_kindsFit [.int .i64 (ndAt x.1 x.2).kind, oints (List.map (kindAt x.1) (List.take (Int.toNat i) (ndAt x.1 x.2).kids))] fun x_4 y => bcase (kindsOk x_4.1 x_4.2) (cA s_callsFit [nds x.1, .agg [.int .i64 (ndAt x.1 x.2).kind, .str (ndAt x.1 x.2).text, ints (ndAt x.1 x.2).kids, .bool (ndAt x.1 x.2).blank]] fun x_5 y => bcase (callsOk x_5.1 x_5.2) (rA s_iNodeOk x [.bool true, .top, .top]) (rA s_iNodeOk x [.bool false, .top, .top])) (rA s_iNodeOk x [.bool false, .top, .top])) (cA s_isMember [.int .i64 (ndAt x.1 x.2).kind] fun x_4 y => bcase (isMem x_4) (cA s_kindsFit [.int .i64 (ndAt x.1 x.2).kind, oints (List.map (kindAt x.1) (List.take (Int.toNat i) (ndAt x.1 x.2).kids))] fun x_5 y => bcase (kindsOk x_5.1 x_5.2) (cA s_callsFit [nds x.1, .agg [.int .i64 (ndAt x.1 x.2).kind, .str (ndAt x.1 x.2).text, ints (ndAt x.1 x.2).kids, .bool (ndAt x.1 x.2).blank]] fun x_6 y => bcase (callsOk x_6.1 x_6.2) (rA s_iNodeOk x [.bool true, .top, .top]) (rA s_iNodeOk x [.bool false, .top, .top])) (rA s_iNodeOk x [.bool false, .top, .top])) (cA s_kindsFit [.int .i64 (ndAt x.1 x.2).kind, oints (List.map (kindAt x.1) (List.take (Int.toNat i) (ndAt x.1 x.2).kids))] fun x_5 y => bcase (kindsOk x_5.1 x_5.2) (cA s_callsFit [nds x.1, .agg [.int .i64 (ndAt x.1 x.2).kind, .str (ndAt x.1 x.2).text, ints (ndAt x.1 x.2).kids, .bool (ndAt x.1 x.2).blank]] fun x_6 y => bcase (callsOk x_6.1 x_6.2) (bcase ((ndAt x.1 x.2).kind == (21 : Int)) (rA s_iNodeOk x [.bool true, .top, .top]) (rA s_iNodeOk x [.bool !(ndAt x.1 x.2).blank, .top, .top])) (rA s_iNodeOk x [.bool false, .top, .top])) (rA s_iNodeOk x [.bool false, .top, .top])))))))) (fun x => by kernel_rfl) fun (x : List Nd × Int) (hx : okNds x.1) => (by
  dsimp only [cA, eA, eN, ints, lNode, ndA_e, nds, oints, rA, s_callsFit, s_hasInt, s_iNodeOk, s_isMember, s_isNode, s_isStep, s_kindsFit, s_textFits, hndL, hnd1, mvL, lnL, mvE, lnE, sndL]
  have h1 : okNds x.1 := hx; have hl := h1.1
  (repeat' first | (with_reducible first | rfl | exact True.intro | apply inR_i64 | apply And.intro | ((first | apply bcase_dec | apply bcase_bne | apply bcase_beq | apply bcase_not) <;> intro _)) | (apply bcase_intro <;> intro _) | apply sl_eq | refine ex_flip () ?_ ?_ | ((first | apply ex_flip10 | apply ex_flip9 | apply ex_flip8 | apply ex_flip7 | apply ex_flip6 | apply ex_flip5 | apply ex_flip4 | apply ex_flip3 | apply ex_flip2) <;> try dsimp only) | apply ex_flip | (refine Prod.forall.2 ?_; intro _; try dsimp only) | (intro _; try dsimp only))
  all_goals try (simp only [ndAt_of (show x.1[x.2.toNat]? = some _ by assumption)] at *)
  all_goals first
    | rfl
    | exact nkI_init
    | exact (h1.2 _ (memE (by assumption))).1
    | exact (h1.2 _ (memE (by assumption))).2
    | exact okNds_at (by assumption) h1
    | exact (nkI_at (by assumption) (by assumption) (isNd_iff.1 ‹isNd _ _ = true›).2 (by assumption)).1
    | exact (nkI_at (by assumption) (by assumption) (isNd_iff.1 ‹isNd _ _ = true›).2 (by assumption)).2
    | exact no_nd (by assumption)
    | exact no_len (by assumption) (by assumption) (by assumption)
    | exact no_text (by assumption) (by assumption) (by assumption)
    | exact no_in (by assumption) (by assumption) (nk_lt (by assumption) (by assumption))
    | exact no_in (by assumption) (by assumption) (nk_ge (by assumption) (by assumption))
    | exact no_dup (by assumption) (by assumption) (nk_dup (by assumption) (by assumption))
    | exact nkI_next (by assumption) (by assumption) (by assumption) (by assumption) (by assumption)
    | exact kinds_next (‹nkI _ _ _›.1) (by assumption) (by assumption)
    | (refine Eq.trans ?_ (no_yes (show x.1[x.2.toNat]? = some _ by assumption) (by assumption) (by omega) (by assumption) (by assumption) (by assumption)).symm; simp [-List.map_take, mayBlank, beqI, *]; done)
    | omega
    | (have := isNd_iff.1 ‹isNd _ _ = true›; omega)
    | (have := isNd_iff.1 ‹isNd _ _ = true›; obtain ⟨_, _, _⟩ := ‹nkI _ _ _›; (try simp only [i64max, room, List.length_take, List.length_map, List.length_append, List.length_cons, List.length_nil] at *); omega)
    | (refine Eq.trans ?_ (no_yes (show x.1[x.2.toNat]? = some _ by assumption) (by assumption) (by omega) (by assumption) (by assumption) (by assumption)).symm; rw [‹kindsOk _ _ = true›, ‹callsOk _ _ = true›]; simp [mayBlank, *]))
end Go.My
end
section
set_option linter.unusedVariables false
set_option linter.unusedSimpArgs false
namespace Go.My
open Go.Eng Go.Proofs
variable {G : GInv}
def dl (k i : Int) (ds : List Int) : List Int := ds ++ List.replicate (k + 1 - i).toNat 0
def dI (ns : List Nd) (k i : Int) (ds : List Int) : Prop := isNd ns k = true ∧ 0 ≤ i ∧ i ≤ k + 1 ∧ deeps ns i.toNat = some ds
def dJ (ns : List Nd) (k i : Int) (ds : List Int) (j d : Int) : Prop := dI ns k i ds ∧ i ≤ k ∧ nodeOk ns i = true ∧ 0 ≤ j ∧ j ≤ (ndAt ns i).kids.length ∧ 0 ≤ d ∧ d ≤ 14 ∧ mx ds ((ndAt ns i).kids.drop j.toNat) d = mx ds (ndAt ns i).kids 0
theorem dI_init {ns : List Nd} {k : Int} (h : isNd ns k = true) : dI ns k 0 [] := ⟨h, by omega, by have := isNd_iff.1 h; omega, rfl⟩
theorem dl_init {k : Int} : List.replicate (k + 1).toNat 0 = dl k 0 [] := by simp [dl]
theorem dI_len {ns : List Nd} {k i : Int} {ds : List Int} (h : dI ns k i ds) : ((dl k i ds).length : Int) = k + 1 := by
  obtain ⟨h0, h1, h2, h3⟩ := h
  have := deeps_length h3
  rw [dl, List.length_append, List.length_replicate]; omega
theorem dI_bad {ns : List Nd} {k i : Int} {ds : List Int} (h : dI ns k i ds) (hl : i < k + 1) (hn : nodeOk ns i = false) : 0 = deepOf ns k := by
  obtain ⟨h0, h1, h2, h3⟩ := h
  have : deeps ns (i.toNat + 1) = none := by
    unfold deeps; rw [h3]; simp only
    rw [show ((i.toNat : Nat) : Int) = i by omega, hn]; rfl
  unfold deepOf; rw [if_pos h0, deeps_none_le this (by omega)]
theorem dJ_init {ns : List Nd} {k i : Int} {ds : List Int} (h : dI ns k i ds) (hl : i < k + 1) (hn : nodeOk ns i = true) : dJ ns k i ds 0 0 :=
  ⟨h, by omega, hn, by omega, by omega, by omega, by omega, by simp⟩
theorem dJ_kid {ns : List Nd} {k i : Int} {ds : List Int} {j d c : Int} (h : dJ ns k i ds j d) (hc : (ndAt ns i).kids[j.toNat]? = some c) : 0 ≤ c ∧ c < i := by
  exact (nodeOk_parts h.2.2.1).2.2.2.1 c (memE hc)
theorem dJ_in {ns : List Nd} {k i : Int} {ds : List Int} {j d c : Int} (h : dJ ns k i ds j d) (hc : (ndAt ns i).kids[j.toNat]? = some c) : 0 ≤ c ∧ c < (dl k i ds).length := by
  have := dJ_kid h hc; have := dI_len h.1; have := h.1.2.2; omega
theorem dJ_val {ns : List Nd} {k i : Int} {ds : List Int} {j d c v : Int} (h : dJ ns k i ds j d) (hc : (ndAt ns i).kids[j.toNat]? = some c) (hv : (dl k i ds)[c.toNat]? = some v) : ds.getD c.toNat 0 = v ∧ 1 ≤ v ∧ v ≤ 14 := by
  have h1 := dJ_kid h hc
  have h2 := deeps_length h.1.2.2.2
  rw [dl, List.getElem?_append_left (by omega)] at hv
  refine ⟨by simp [List.getD, hv], ?_⟩
  exact deeps_pos h.1.2.2.2 v (memE hv)
theorem dJ_next {ns : List Nd} {k i : Int} {ds : List Int} {j d c v : Int} (h : dJ ns k i ds j d) (hc : (ndAt ns i).kids[j.toNat]? = some c) (hv : (dl k i ds)[c.toNat]? = some v) : dJ ns k i ds (j + 1) (max d v) := by
  obtain ⟨hv1, hv2, hv3⟩ := dJ_val h hc hv
  obtain ⟨h1, h2, h3, h4, h5, h6, h7, h8⟩ := h
  have := (getE hc).1
  refine ⟨h1, h2, h3, by omega, by omega, by omega, by omega, ?_⟩
  rw [← h8, dropE hc, toNat1 h4]; simp only [mx, hv1]
theorem dJ_mx {ns : List Nd} {k i : Int} {ds : List Int} {j d : Int} (h : dJ ns k i ds j d) (hl : ¬ j < (ndAt ns i).kids.length) : d = mx ds (ndAt ns i).kids 0 := by
  obtain ⟨h1, h2, h3, h4, h5, h6, h7, h8⟩ := h
  rw [List.drop_eq_nil_of_le (by omega)] at h8; exact h8
theorem dJ_over {ns : List Nd} {k i : Int} {ds : List Int} {j d : Int} (h : dJ ns k i ds j d) (hl : ¬ j < (ndAt ns i).kids.length) (hd : d ≥ 14) : 0 = deepOf ns k := by
  have hm := dJ_mx h hl
  obtain ⟨⟨ha, hb, he, hf⟩, h2, h3, _⟩ := h
  have e : ((i.toNat : Nat) : Int) = i := by omega
  have : deeps ns (i.toNat + 1) = none := by
    unfold deeps; rw [hf]; simp only
    rw [e, h3, if_pos rfl, if_pos (by omega)]
  unfold deepOf; rw [if_pos ha, deeps_none_le this (by omega)]
theorem dJ_out {ns : List Nd} {k i : Int} {ds : List Int} {j d : Int} (h : dJ ns k i ds j d) (hl : ¬ j < (ndAt ns i).kids.length) (hd : ¬ d ≥ 14) : dI ns k (i + 1) (ds ++ [d + 1]) := by
  have hm := dJ_mx h hl
  obtain ⟨⟨ha, hb, he, hf⟩, h2, h3, _⟩ := h
  have e : ((i.toNat : Nat) : Int) = i := by omega
  refine ⟨ha, by omega, by omega, ?_⟩
  rw [toNat1 hb]; unfold deeps; rw [hf]; simp only
  rw [e, h3, if_pos rfl, if_neg (by omega), ← hm]
theorem dJ_set {ns : List Nd} {k i : Int} {ds : List Int} {j d : Int} (h : dJ ns k i ds j d) : (dl k i ds).set i.toNat (d + 1) = dl k (i + 1) (ds ++ [d + 1]) := by
  obtain ⟨⟨ha, hb, he, hf⟩, h2, h3, _⟩ := h
  have hl := deeps_length hf
  have e : (k + 1 - i).toNat = (k + 1 - (i + 1)).toNat + 1 := by omega
  unfold dl; rw [List.set_append_right _ _ (by omega), e, hl]; simp [List.replicate_succ]
theorem dI_end {ns : List Nd} {k i v : Int} {ds : List Int} (h : dI ns k i ds) (hl : ¬ i < k + 1) (hv : (dl k i ds)[k.toNat]? = some v) : v = deepOf ns k := by
  obtain ⟨h0, h1, h2, h3⟩ := h
  obtain rfl : i = k + 1 := by omega
  have := isNd_iff.1 h0
  rw [show (k + 1).toNat = k.toNat + 1 by omega] at h3
  unfold deepOf; rw [if_pos h0, h3]
  simp [dl] at hv
  simp [List.getD, hv]
theorem dp_no {ns : List Nd} {k : Int} (h : isNd ns k = false) : 0 = deepOf ns k := by simp [deepOf, h]
theorem dJ_len {ns : List Nd} {k i : Int} {ds : List Int} {j d : Int} (h : dJ ns k i ds j d) : ((ndAt ns i).kids.length : Int) ≤ 12 := by
  have := (nodeOk_parts h.2.2.1).2.1; omega
def lDeep2 (x : List Nd × Int) (o : Int × List Int) : LS := {
  ι := Int × Int, inv := fun i => dJ x.1 x.2 o.1 o.2 i.1 i.2,
  regs := fun i => [(0, nds x.1), (1, .int .i64 x.2), (5, oints (dl x.2 o.1 o.2)), (18, .int .i64 (x.2 + 1)), (19, .int .i64 o.1), (6, .int .i64 o.1), (7, .int .i64 i.2), (30, ints (ndAt x.1 o.1).kids), (31, .int .i64 (ndAt x.1 o.1).kids.length), (32, .int .i64 i.1)], als := [], meas := fun i => (ndAt x.1 o.1).kids.length - i.1.toNat }
def lDeep (x : List Nd × Int) : LS := {
  ι := Int × List Int, inv := fun i => dI x.1 x.2 i.1 i.2,
  regs := fun i => [(0, nds x.1), (1, .int .i64 x.2), (5, oints (dl x.2 i.1 i.2)), (18, .int .i64 (x.2 + 1)), (19, .int .i64 i.1)], als := [], meas := fun i => x.2.toNat + 1 - i.1.toNat,
  sub := fun i => [(11, lDeep2 x i)] }
def s_iDeepOf  : Sig := { X := List Nd × Int, args := fun x => [nds x.1, .int .i64 x.2], pre := fun x => okNds x.1 ∧ x.1.length ≤ 2 ^ 30, Y := Unit, post := fun x y => True, res := fun x y => .int .i64 (deepOf x.1 x.2), outs := fun x y => [.top, .top], keep := false }
theorem iDeepOf_ok  : Contract G Tryz.prog 33 s_iDeepOf :=
  vcFun_okP [(56, 0, s_isNode), (57, 0, s_iNodeOk)] [(45, ⟨Int,intA⟩)] false (fun x => [(5, lDeep x)]) Tryz.func33 rfl (by decide) ⟨isNode_ok, iNodeOk_ok, trivial⟩ (fun (x : List Nd × Int) => (∀ (y : Unit), True → True ∧ True ∧ True ∧ True) ∧ cA s_isNode [nds x.1, .int .i64 x.2] fun x_1 y => bcase (!isNd x_1.1 x_1.2) (rA s_iDeepOf x [.int .i64 (0 : Int), .top, .top]) (inR IntKind.i64 (x.2 + (1 : Int)) ∧ ((0 : Int) ≤ x.2 + (1 : Int) ∧ x.2 + (1 : Int) ≤ x.2 + (1 : Int) ∧ (↑(8 : Nat) : Int) * (x.2 + (1 : Int)) ≤ (2 : Int) ^ (46 : Nat) ∧ x.2 + (1 : Int) ≤ (2 : Int) ^ (46 : Nat)) ∧ ∃ (x_2 : Int), (0 : Int) = x_2 ∧ eA (lDeep x) [nds x.1, .int .i64 x.2, oints (List.replicate (Int.toNat (x.2 + (1 : Int))) x_2), .int .i64 (↑(List.length (List.replicate (Int.toNat (x.2 + (1 : Int))) x_2)) : Int), .int .i64 (0 : Int)] ∧ ∀ (i : Int × List Int), dI x.1 x.2 i.1 i.2 → bcase (decide (i.1 < x.2 + (1 : Int))) (cA s_iNodeOk [nds x.1, .int .i64 i.1] fun x_3 y => bcase (!nodeOk x_3.1 x_3.2) (rA s_iDeepOf x [.int .i64 (0 : Int), .top, .top]) (((0 : Int) ≤ i.1 ∧ i.1 < (↑(List.length x.1) : Int)) ∧ ∀ (e : Nd), x.1[Int.toNat i.1]? = some e → eA (lDeep2 x i) [nds x.1, .int .i64 x.2, oints (dl x.2 i.1 i.2), .int .i64 (x.2 + (1 : Int)), .int .i64 i.1, .int .i64 i.1, .int .i64 (0 : Int), ints e.kids, .int .i64 (↑(List.length e.kids) : Int), .int .i64 (0 : Int)] ∧ ∀ (i_1 : Int × Int), dJ x.1 x.2 i.1 i.2 i_1.1 i_1.2 → bcase (decide (i_1.1 < (↑(List.length (ndAt x.1 i.1).kids) : Int))) (((0 : Int) ≤ i_1.1 ∧ i_1.1 < (↑(List.length (ndAt x.1 i.1).kids) : Int)) ∧ ∀ (e : Int), (ndAt x.1 i.1).kids[Int.toNat i_1.1]? = some e → ((0 : Int) ≤ e ∧ e < (↑(List.length (dl x.2 i.1 i.2)) : Int)) ∧ Int.toNat e < List.length (dl x.2 i.1 i.2) ∧ ∀ (x_4 : Int), (dl x.2 i.1 i.2)[Int.toNat e]? = some x_4 → inR IntKind.i64 (i_1.1 + (1 : Int)) ∧ eN (lDeep2 x i) i_1 [nds x.1, .int .i64 x.2, oints (dl x.2 i.1 i.2), .int .i64 (x.2 + (1 : Int)), .int .i64 i.1, .int .i64 i.1, .int .i64 (max i_1.2 x_4), ints (ndAt x.1 i.1).kids, .int .i64 (↑(List.length (ndAt x.1 i.1).kids) : Int), .int .i64 (i_1.1 + (1 : Int))]) (bcase (decide (i_1.2 ≥ (14 : Int))) (rA s_iDeepOf x [.int .i64 (0 : Int), .top, .top]) (inR IntKind.i64 (i_1.2 + (1 : Int)) ∧ ((0 : Int) ≤ i.1 ∧ i.1 < (↑(List.length (dl x.2 i.1 i.2)) : Int)) ∧ Int.toNat i.1 < List.length (dl x.2 i.1 i.2) ∧ ∀ (x_4 : Int), (dl x.2 i.1 i.2)[Int.toNat i.1]? = some x_4 → ∃ (x' : Int), ((@List.nil AV) = [] ∧ (@List.nil AV) = []) ∧ i_1.2 + (1 : Int) = x' ∧ inR IntKind.i64 (i.1 + (1 : Int)) ∧ eN (lDeep x) i [nds x.1, .int .i64 x.2, oints (List.set (dl x.2 i.1 i.2) (Int.toNat i.1) x'), .int .i64 (x.2 + (1 : Int)), .int .i64 (i.1 + (1 : Int))])))) (((0 : Int) ≤ x.2 ∧ x.2 < (↑(List.length (dl x.2 i.1 i.2)) : Int)) ∧ Int.toNat x.2 < List.length (dl x.2 i.1 i.2) ∧ ∀ (x_3 : Int), (dl x.2 i.1 i.2)[Int.toNat x.2]? = some x_3 → rA s_iDeepOf x [.int .i64 x_3, .top, .top]))) (fun x => by kernel_rfl) fun (x : List Nd × Int) (hx : okNds x.1 ∧ x.1.length ≤ 2 ^ 30) => (by
  dsimp only [cA, eA, eN, ints, lDeep, lDeep2, ndA_e, nds, oints, rA, s_iDeepOf, s_iNodeOk, s_isNode, hndL, hnd1, mvL, lnL, mvE, lnE, sndL]
  obtain ⟨h1, h2⟩ := hx; have hl := h1.1
  (repeat' first | (with_reducible first | rfl | exact True.intro | apply inR_i64 | apply And.intro | ((first | apply bcase_dec | apply bcase_bne | apply bcase_beq | apply bcase_not) <;> intro _)) | (apply bcase_intro <;> intro _) | apply sl_eq | refine ex_flip () ?_ ?_ | ((first | apply ex_flip10 | apply ex_flip9 | apply ex_flip8 | apply ex_flip7 | apply ex_flip6 | apply ex_flip5 | apply ex_flip4 | apply ex_flip3 | apply ex_flip2) <;> try dsimp only) | apply ex_flip | (refine Prod.forall.2 ?_; intro _; try dsimp only) | (intro _; try dsimp only))
  all_goals try (have nd0 := isNd_iff.1 (show isNd x.1 x.2 = true by assumption))
  all_goals first
    | rfl
    | exact dp_no (by assumption)
    | exact dI_init (by assumption)
    | exact dl_init
    | exact dI_bad (by assumption) (by assumption) (by assumption)
    | exact dJ_init (by assumption) (by assumption) (by assumption)
    | exact (dJ_in (by assumption) (by assumption)).1
    | exact (dJ_in (by assumption) (by assumption)).2
    | exact dJ_next (by assumption) (by assumption) (by assumption)
    | exact dJ_over (by assumption) (by assumption) (by assumption)
    | exact dJ_out (by assumption) (by assumption) (by assumption)
    | exact dJ_set (by assumption)
    | exact dI_end (by assumption) (by assumption) (by assumption)
    | (rw [ndAt_of (by assumption)]; done)
    | (rw [List.length_replicate]; omega)
    | (have := dJ_len (by assumption); obtain ⟨⟨_, _, _, _⟩, _, _, _, _, _, _, _⟩ := ‹dJ _ _ _ _ _ _›; (try simp only [i64max, room] at *); omega)
    | (have := dI_len (by assumption); obtain ⟨_, _, _, _⟩ := ‹dI _ _ _ _›; (try simp only [i64max, room] at *); omega)
    | (have := dJ_in (by assumption) (by assumption); omega)
    | ((try simp only [i64max, room] at *); omega)
    | skip)
end Go.My
end
section
set_option linter.unusedVariables false
set_option linter.unusedSimpArgs false
namespace Go.My
open Go.Eng Go.Proofs
variable {G : GInv}
def cnt (n : Nat) (l : List Int) : List Int := (List.range n).map fun (c : Nat) => (l.count (c : Int) : Int)
theorem cnt_len {n : Nat} {l : List Int} : (cnt n l).length = n := by simp [cnt]
theorem cnt_at {n : Nat} {l : List Int} {c : Nat} (h : c < n) : (cnt n l)[c]? = some (l.count (c : Int) : Int) := by
  simp [cnt, List.getElem?_map, List.getElem?_range, h]
theorem cnt_nil {n : Nat} : List.replicate n 0 = cnt n [] := by
  apply List.ext_getElem?
  intro c
  by_cases h : c < n
  · rw [cnt_at h]; simp [h]
  · rw [List.getElem?_eq_none (by simp; omega), List.getElem?_eq_none (by simp [cnt]; omega)]
theorem cnt_inc {n : Nat} {l : List Int} {c v : Int} (h0 : 0 ≤ c) (h1 : c < n) (hv : (cnt n l)[c.toNat]? = some v) : (cnt n l).set c.toNat (v + 1) = cnt n (l ++ [c]) := by
  apply List.ext_getElem?
  intro d
  rw [List.getElem?_set]
  by_cases hd : d < n
  · rw [cnt_at hd, cnt_at hd, List.count_append]
    rw [cnt_at (by omega)] at hv
    by_cases e : c.toNat = d
    · subst e
      rw [if_pos rfl, if_pos (by rw [cnt_len]; omega)]
      have e2 : ((c.toNat : Nat) : Int) = c := by omega
      rw [e2] at hv ⊢
      simp at hv ⊢; omega
    · rw [if_neg e]
      have : ¬ c = (d : Int) := by omega
      simp [List.count_cons, this]
  · rw [if_neg (by omega), List.getElem?_eq_none (by rw [cnt_len]; omega), List.getElem?_eq_none (by rw [cnt_len]; omega)]
def tk (ns : List Nd) (i j : Int) : List Int := allKids (ns.take i.toNat) ++ (ndAt ns i).kids.take j.toNat
def tI (ns : List Nd) : Prop := 1 ≤ ns.length ∧ ns.length ≤ 300 ∧ kindAt ns (ns.length - 1) = 22 ∧ deepOf ns (ns.length - 1) ≠ 0
theorem tI_ok {ns : List Nd} {n : Nat} {y : Nd} (h : tI ns) (hy : ns[n]? = some y) : nodeOk ns n = true := by
  exact (deepOf_pos h.2.2.2).2.2 n (by have := (getE hy).1; omega)
theorem tI_kids {ns : List Nd} {n : Nat} {y : Nd} (h : tI ns) (hy : ns[n]? = some y) : y.kids.length ≤ 12 ∧ ∀ c ∈ y.kids, 0 ≤ c ∧ c < ns.length := by
  obtain ⟨h1, h2, h3, h4, h5⟩ := nodeOk_parts (tI_ok h hy)
  rw [ndAt_of (by simpa using hy)] at h2 h4
  exact ⟨h2, fun c hc => by have := h4 c hc; omega⟩
theorem allKids_len {l : List Nd} (h : ∀ y ∈ l, y.kids.length ≤ 12) : (allKids l).length ≤ 12 * l.length := by
  induction l with
  | nil => simp [allKids]
  | cons y l ih =>
    have h1 := h y (by simp)
    have h2 := ih fun z hz => h z (by simp [hz])
    simp only [allKids, List.flatMap_cons, List.length_append, List.length_cons] at h2 ⊢; omega
theorem tk_len {ns : List Nd} {i j : Int} (h : tI ns) : (allKids (ns.take i.toNat)).length ≤ 3600 := by
  have h1 : ∀ y ∈ ns.take i.toNat, y.kids.length ≤ 12 := by
    intro y hy
    obtain ⟨n, hn⟩ := List.mem_iff_getElem?.1 (List.mem_of_mem_take hy)
    exact (tI_kids h hn).1
  have := allKids_len h1
  have h2 : (ns.take i.toNat).length ≤ 300 := by have := h.2.1; simp; omega
  omega
theorem cnt_le {n : Nat} {l : List Int} {c : Nat} {v : Int} (hv : (cnt n l)[c]? = some v) : 0 ≤ v ∧ v ≤ l.length := by
  have h : c < n := by have := (getE hv).1; rwa [cnt_len] at this
  rw [cnt_at h] at hv; cases hv
  have := List.count_le_length (a := (c : Int)) (l := l)
  omega
theorem tk_init {ns : List Nd} {i : Int} : tk ns i 0 = allKids (ns.take i.toNat) := by simp [tk]
theorem tk_next {ns : List Nd} {i j c : Int} (h0 : 0 ≤ j) (hc : (ndAt ns i).kids[j.toNat]? = some c) : tk ns i (j + 1) = tk ns i j ++ [c] := by
  rw [tk, toNat1 h0, takeE hc, tk, List.append_assoc]
theorem tk_done {ns : List Nd} {i j : Int} {y : Nd} (h0 : 0 ≤ i) (hy : ns[i.toNat]? = some y) (hl : ¬ j < (ndAt ns i).kids.length) : tk ns i j = allKids (ns.take (i + 1).toNat) := by
  rw [tk, List.take_of_length_le (l := (ndAt ns i).kids) (by omega), toNat1 h0, takeE hy, ndAt_of hy]; simp [allKids]
def tE (ns : List Nd) (i : Int) : Prop := 0 ≤ i ∧ i ≤ ns.length - 1 ∧ ∀ c : Nat, (c : Int) < i → (allKids ns).count (c : Int) = 1
theorem tE_at {ns : List Nd} {i v : Int} (hv : (((cnt ns.length (allKids ns)).take (ns.length - 1 : Int).toNat)[i.toNat]?) = some v) (h0 : 0 ≤ i) (hl : i < (ns.length - 1 : Int)) : ((allKids ns).count i : Int) = v := by
  rw [List.getElem?_take_of_lt (by omega), cnt_at (by omega)] at hv
  have e2 : ((i.toNat : Nat) : Int) = i := by omega
  rw [e2] at hv; exact Option.some.inj hv
theorem treeOk_yes {ns : List Nd} {i : Int} (h : tI ns) (he : tE ns i) (hl : ¬ i < (ns.length - 1 : Int)) : true = treeOk ns := by
  symm; unfold treeOk
  have h1 : decide (1 ≤ ns.length) = true := decide_eq_true h.1
  have h2 : decide (ns.length ≤ 300) = true := decide_eq_true h.2.1
  have h3 : decide (kindAt ns (ns.length - 1) = 22) = true := decide_eq_true h.2.2.1
  have h4 : decide (deepOf ns (ns.length - 1) = 0) = false := decide_eq_false h.2.2.2
  rw [h1, h2, h3, h4]
  simp only [Bool.and_true, Bool.not_false, Bool.true_and, List.all_eq_true, decide_eq_true_eq, List.mem_range]
  exact fun c hc => he.2.2 c (by omega)
theorem treeOk_no {ns : List Nd} {i v : Int} (hv : (allKids ns).count i = v) (h0 : 0 ≤ i) (hl : i < (ns.length - 1 : Int)) (hne : v ≠ 1) : false = treeOk ns := by
  symm; rw [Bool.eq_false_iff]; intro h
  unfold treeOk at h
  simp only [Bool.and_eq_true, List.all_eq_true, decide_eq_true_eq, List.mem_range] at h
  have := h.2.2.2 i.toNat (by omega)
  have e2 : ((i.toNat : Nat) : Int) = i := by omega
  rw [e2] at this; omega
theorem treeOk_not {ns : List Nd} (h : ¬ tI ns) : false = treeOk ns := by
  symm; rw [Bool.eq_false_iff]; intro hh
  unfold treeOk at hh
  simp only [Bool.and_eq_true, decide_eq_true_eq, Bool.not_eq_true', decide_eq_false_iff_not] at hh
  exact h ⟨hh.1.1, hh.1.2, hh.2.1, hh.2.2.1⟩
theorem tI_kid {ns : List Nd} {i j c : Int} {y : Nd} (h : tI ns) (hc : (ndAt ns i).kids[j.toNat]? = some c) (hy : ns[i.toNat]? = some y) : 0 ≤ c ∧ c < ns.length := by
  rw [ndAt_of hy] at hc; exact (tI_kids h hy).2 c (memE hc)
theorem tI_len {ns : List Nd} {i : Int} {y : Nd} (h : tI ns) (hy : ns[i.toNat]? = some y) : (ndAt ns i).kids.length ≤ 12 := by
  rw [ndAt_of hy]; exact (tI_kids h hy).1
theorem tk_len2 {ns : List Nd} {i j : Int} {y : Nd} (h : tI ns) (hy : ns[i.toNat]? = some y) : (tk ns i j).length ≤ 3612 := by
  have h1 := @tk_len ns i j h; have h2 := tI_len h hy
  rw [tk, List.length_append, List.length_take]; omega
theorem tk_v {ns : List Nd} {i j v : Int} {c : Nat} {y : Nd} (h : tI ns) (hv : (cnt ns.length (tk ns i j))[c]? = some v) (hy : ns[i.toNat]? = some y) : 0 ≤ v ∧ v ≤ 3612 := by
  have h1 := cnt_le hv; have h2 := @tk_len2 ns i j y h hy; omega
theorem inn_iff {x a b : Int} : inn x a b = true ↔ a ≤ x ∧ x ≤ b := by simp [inn]
theorem tI_of {ns : List Nd} {y : Nd} (h : inn ns.length 1 300 = true) (hy : ns[(ns.length - 1 : Int).toNat]? = some y) (hk : y.kind = 22) (hd : deepOf ns (ns.length - 1) ≠ 0) : tI ns := by
  have := inn_iff.1 h
  exact ⟨by omega, by omega, by rw [kindAt, ndAt_of hy, hk], hd⟩
theorem tI_inn {ns : List Nd} (h : inn ns.length 1 300 = false) : ¬ tI ns := by
  intro hh; have : inn ns.length 1 300 = true := inn_iff.2 ⟨by have := hh.1; omega, by have := hh.2.1; omega⟩
  rw [h] at this; cases this
theorem tI_kind {ns : List Nd} {y : Nd} (hy : ns[(ns.length - 1 : Int).toNat]? = some y) (hk : y.kind ≠ 22) : ¬ tI ns := by
  intro hh; have := hh.2.2.1; rw [kindAt, ndAt_of hy] at this; exact hk this
theorem tk_full {ns : List Nd} {i : Int} (hl : ¬ i < ns.length) : allKids (ns.take i.toNat) = allKids ns := by rw [List.take_of_length_le (by omega)]
theorem tE_next {ns : List Nd} {i v : Int} (h : tE ns i) (hl : i < (ns.length - 1 : Int)) (hv : (((cnt ns.length (allKids ns)).take (ns.length - 1 : Int).toNat)[i.toNat]?) = some v) (h1 : v = 1) : tE ns (i + 1) := by
  have := tE_at hv h.1 hl
  refine ⟨by have := h.1; omega, by omega, fun c hc => ?_⟩
  by_cases e : (c : Int) < i
  · exact h.2.2 c e
  · have := h.1
    obtain rfl : i = (c : Int) := by omega
    omega
def lTree2 (x : List Nd) (o : Int) : LS := {
  ι := Int, inv := fun j => 0 ≤ j ∧ j ≤ (ndAt x o).kids.length,
  regs := fun j => [(0, nds x), (3, .int .i64 x.length), (4, oints (cnt x.length (tk x o j))), (34, nds x), (35, .int .i64 x.length), (36, .int .i64 o), (41, ints (ndAt x o).kids), (42, .int .i64 (ndAt x o).kids.length), (43, .int .i64 j)], als := [], meas := fun j => (ndAt x o).kids.length - j.toNat }
def lTree (x : List Nd) : LS := {
  ι := Int, inv := fun i => 0 ≤ i ∧ i ≤ x.length,
  regs := fun i => [(0, nds x), (3, .int .i64 x.length), (4, oints (cnt x.length (allKids (x.take i.toNat)))), (34, nds x), (35, .int .i64 x.length), (36, .int .i64 i)], als := [], meas := fun i => x.length - i.toNat,
  sub := fun i => [(9, lTree2 x i)] }
def lTree3 (x : List Nd) : LS := {
  ι := Int, inv := tE x,
  regs := fun i => [(58, oints ((cnt x.length (allKids x)).take (x.length - 1 : Int).toNat)), (59, .int .i64 (x.length - 1)), (60, .int .i64 i)], als := [], meas := fun i => x.length - 1 - i.toNat }
def s_iTreeOk  : Sig := { X := List Nd, args := fun x => [nds x], pre := fun x => okNds x ∧ x.length ≤ 2 ^ 30, Y := Unit, post := fun x y => True, res := fun x y => .bool (treeOk x), outs := fun x y => [.top], keep := false }
theorem iTreeOk_ok  : Contract G Tryz.prog 67 s_iTreeOk :=
  vcFun_okP [(58, 0, s_inRange), (33, 0, s_iDeepOf)] [(45, ⟨Int,intA⟩)] false (fun x => [(6, lTree x), (15, lTree3 x)]) Tryz.func67 rfl (by decide) ⟨inRange_ok, iDeepOf_ok, trivial⟩ (fun (x : List Nd) => (∀ (y : Unit), True → True ∧ True ∧ True) ∧ cA s_inRange [.int .i64 (↑(List.length x) : Int), .int .i64 (1 : Int), .int .i64 (300 : Int)] fun x_1 y => bcase (!inn x_1.1 x_1.2.1 x_1.2.2) (rA s_iTreeOk x [.bool false, .top]) (inR IntKind.i64 ((↑(List.length x) : Int) - (1 : Int)) ∧ ((0 : Int) ≤ (↑(List.length x) : Int) - (1 : Int) ∧ (↑(List.length x) : Int) - (1 : Int) < (↑(List.length x) : Int)) ∧ ∀ (e : Nd), x[Int.toNat ((↑(List.length x) : Int) - (1 : Int))]? = some e → bcase (e.kind != (22 : Int)) (rA s_iTreeOk x [.bool false, .top]) (inR IntKind.i64 ((↑(List.length x) : Int) - (1 : Int)) ∧ cA s_iDeepOf [nds x, .int .i64 ((↑(List.length x) : Int) - (1 : Int))] fun x_2 y => bcase (deepOf x_2.1 x_2.2 == (0 : Int)) (rA s_iTreeOk x [.bool false, .top]) (((0 : Int) ≤ (↑(List.length x) : Int) ∧ (↑(List.length x) : Int) ≤ (↑(List.length x) : Int) ∧ (↑(8 : Nat) : Int) * (↑(List.length x) : Int) ≤ (2 : Int) ^ (46 : Nat) ∧ (↑(List.length x) : Int) ≤ (2 : Int) ^ (46 : Nat)) ∧ ∃ (x_3 : Int), (0 : Int) = x_3 ∧ eA (lTree x) [nds x, .int .i64 (↑(List.length x) : Int), oints (List.replicate (Int.toNat (↑(List.length x) : Int)) x_3), nds x, .int .i64 (↑(List.length x) : Int), .int .i64 (0 : Int)] ∧ ∀ (i : Int), (0 : Int) ≤ i ∧ i ≤ (↑(List.length x) : Int) → bcase (decide (i < (↑(List.length x) : Int))) (((0 : Int) ≤ i ∧ i < (↑(List.length x) : Int)) ∧ ∀ (e : Nd), x[Int.toNat i]? = some e → eA (lTree2 x i) [nds x, .int .i64 (↑(List.length x) : Int), oints (cnt (List.length x) (allKids (List.take (Int.toNat i) x))), nds x, .int .i64 (↑(List.length x) : Int), .int .i64 i, ints e.kids, .int .i64 (↑(List.length e.kids) : Int), .int .i64 (0 : Int)] ∧ ∀ (i_1 : Int), (0 : Int) ≤ i_1 ∧ i_1 ≤ (↑(List.length (ndAt x i).kids) : Int) → bcase (decide (i_1 < (↑(List.length (ndAt x i).kids) : Int))) (((0 : Int) ≤ i_1 ∧ i_1 < (↑(List.length (ndAt x i).kids) : Int)) ∧ ∀ (e : Int), (ndAt x i).kids[Int.toNat i_1]? = some e → ((0 : Int) ≤ e ∧ e < (↑(List.length (cnt (List.length x) (tk x i i_1))) : Int)) ∧ Int.toNat e < List.length (cnt (List.length x) (tk x i i_1)) ∧ ∀ (x_4 : Int), (cnt (List.length x) (tk x i i_1))[Int.toNat e]? = some x_4 → inR IntKind.i64 (x_4 + (1 : Int)) ∧ ((0 : Int) ≤ e ∧ e < (↑(List.length (cnt (List.length x) (tk x i i_1))) : Int)) ∧ Int.toNat e < List.length (cnt (List.length x) (tk x i i_1)) ∧ ∀ (x_5 : Int), (cnt (List.length x) (tk x i i_1))[Int.toNat e]? = some x_5 → ∃ (x' : Int), ((@List.nil AV) = [] ∧ (@List.nil AV) = []) ∧ x_4 + (1 : Int) = x' ∧ inR IntKind.i64 (i_1 + (1 : Int)) ∧ eN (lTree2 x i) i_1 [nds x, .int .i64 (↑(List.length x) : Int), oints (List.set (cnt (List.length x) (tk x i i_1)) (Int.toNat e) x'), nds x, .int .i64 (↑(List.length x) : Int), .int .i64 i, ints (ndAt x i).kids, .int .i64 (↑(List.length (ndAt x i).kids) : Int), .int .i64 (i_1 + (1 : Int))]) (inR IntKind.i64 (i + (1 : Int)) ∧ eN (lTree x) i [nds x, .int .i64 (↑(List.length x) : Int), oints (cnt (List.length x) (tk x i i_1)), nds x, .int .i64 (↑(List.length x) : Int), .int .i64 (i + (1 : Int))])) (inR IntKind.i64 ((↑(List.length x) : Int) - (1 : Int)) ∧ ((0 : Int) ≤ (0 : Int) ∧ (0 : Int) ≤ (↑(List.length x) : Int) - (1 : Int) ∧ (↑(List.length x) : Int) - (1 : Int) ≤ (↑(List.length (cnt (List.length x) (allKids (List.take (Int.toNat i) x)))) : Int)) ∧ eA (lTree3 x) [oints (List.take (Int.toNat ((↑(List.length x) : Int) - (1 : Int))) (cnt (List.length x) (allKids (List.take (Int.toNat i) x)))), .int .i64 (↑(List.length (List.take (Int.toNat ((↑(List.length x) : Int) - (1 : Int))) (cnt (List.length x) (allKids (List.take (Int.toNat i) x))))) : Int), .int .i64 (0 : Int)] ∧ ∀ (i : Int), tE x i → bcase (decide (i < (↑(List.length x) : Int) - (1 : Int))) (((0 : Int) ≤ i ∧ i < (↑(List.length (List.take (Int.toNat ((↑(List.length x) : Int) - (1 : Int))) (cnt (List.length x) (allKids x)))) : Int)) ∧ Int.toNat i < List.length (List.take (Int.toNat ((↑(List.length x) : Int) - (1 : Int))) (cnt (List.length x) (allKids x))) ∧ ∀ (x_4 : Int), (List.take (Int.toNat ((↑(List.length x) : Int) - (1 : Int))) (cnt (List.length x) (allKids x)))[Int.toNat i]? = some x_4 → bcase (x_4 != (1 : Int)) (rA s_iTreeOk x [.bool false, .top]) (inR IntKind.i64 (i + (1 : Int)) ∧ eN (lTree3 x) i [oints (List.take (Int.toNat ((↑(List.length x) : Int) - (1 : Int))) (cnt (List.length x) (allKids x))), .int .i64 ((↑(List.length x) : Int) - (1 : Int)), .int .i64 (i + (1 : Int))])) (rA s_iTreeOk x [.bool true, .top])))))) (fun x => by kernel_rfl) fun (x : List Nd) (hx : okNds x ∧ x.length ≤ 2 ^ 30) => (by
  dsimp only [cA, eA, eN, ints, lTree, lTree2, lTree3, ndA_e, nds, oints, rA, s_iDeepOf, s_iTreeOk, s_inRange, hndL, hnd1, mvL, lnL, mvE, lnE, sndL]
  obtain ⟨h1, h2⟩ := hx; have hl := h1.1
  (repeat' first | (with_reducible first | rfl | exact True.intro | apply inR_i64 | apply And.intro | ((first | apply bcase_dec | apply bcase_bne | apply bcase_beq | apply bcase_not) <;> intro _)) | (apply bcase_intro <;> intro _) | apply sl_eq | refine ex_flip () ?_ ?_ | ((first | apply ex_flip10 | apply ex_flip9 | apply ex_flip8 | apply ex_flip7 | apply ex_flip6 | apply ex_flip5 | apply ex_flip4 | apply ex_flip3 | apply ex_flip2) <;> try dsimp only) | apply ex_flip | (refine Prod.forall.2 ?_; intro _; try dsimp only) | (intro _; try dsimp only))
  all_goals try (have t1 := inn_iff.1 (show inn x.length 1 300 = true by assumption))
  all_goals try (have t0 := tI_of (by assumption) (by assumption) (by assumption) (by assumption))
  all_goals first
    | rfl
    | exact treeOk_not (tI_inn (by assumption))
    | exact treeOk_not (tI_kind (by assumption) (by assumption))
    | exact treeOk_not (fun h => h.2.2.2 (by assumption))
    | exact cnt_nil
    | (rw [tk_init]; done)
    | (rw [ndAt_of (by assumption)]; done)
    | exact (tI_kid (by assumption) (by assumption) (by assumption)).1
    | (rw [cnt_len]; exact (tI_kid (by assumption) (by assumption) (by assumption)).2)
    | (have := tI_kid (by assumption) (show (ndAt x _).kids[_]? = some _ by assumption) (by assumption); rw [cnt_len]; omega)
    | (rw [tk_next (by omega) (by assumption)]; exact cnt_inc (tI_kid (by assumption) (by assumption) (by assumption)).1 (tI_kid (by assumption) (by assumption) (by assumption)).2 (by assumption))
    | (rw [tk_done (by omega) (by assumption) (by assumption)]; done)
    | (rw [tk_full (by assumption)]; done)
    | (have := tk_v (by assumption) (by assumption) (by assumption); omega)
    | (have := tI_len (by assumption) (by assumption); (try simp only [i64max] at *); omega)
    | exact treeOk_yes (by assumption) (by assumption) (by assumption)
    | exact treeOk_no (tE_at (by assumption) (‹tE _ _›.1) (by assumption)) (‹tE _ _›.1) (by assumption) (by assumption)
    | exact tE_next (by assumption) (by assumption) (by assumption) (by assumption)
    | exact ⟨by omega, by omega, fun c hc => by omega⟩
    | (rw [List.length_take, cnt_len]; omega)
    | ((try simp only [i64max, room, List.length_replicate, cnt_len] at *); omega)
    | (obtain ⟨_, _, _⟩ := ‹tE _ _›; (try rw [List.length_take, cnt_len]); (try simp only [i64max] at *); omega)
    | skip)
end Go.My
end
section
set_option linter.unusedVariables false
set_option linter.unusedSimpArgs false
namespace Go.My
open Go.Eng Go.Proofs
variable {G : GInv}
def s_l05Value  : Sig := { X := Int, args := fun x => [.int .i64 x], pre := fun x => True, Y := Unit, post := fun x y => True, res := fun x y => .bool (isVal x), outs := fun x y => [.top], keep := false }
theorem l05Value_ok  : Contract G Tryz.prog 155 s_l05Value :=
  vcFun_okP [(53, 0, s_l01In)] [] false (fun x => []) Tryz.func155 rfl (by decide) ⟨l01In_ok, trivial⟩ (fun (x : Int) => (∀ (y : Unit), True → True ∧ True ∧ True) ∧ cA s_l01In [.int .i64 x, .int .i64 (1 : Int), .int .i64 (11 : Int)] fun x_1 y => rA s_l05Value x [.bool (inn x_1.1 x_1.2.1 x_1.2.2), .top]) (fun x => by kernel_rfl) fun (x : Int) (hx : True) => (by
  dsimp only [cA, rA, s_l01In, s_l05Value, hndL, hnd1, mvL, lnL, mvE, lnE]
  (repeat' first | (with_reducible first | rfl | exact True.intro | apply inR_i64 | apply And.intro | ((first | apply bcase_dec | apply bcase_bne | apply bcase_beq | apply bcase_not) <;> intro _)) | (apply bcase_intro <;> intro _) | apply sl_eq | refine ex_flip () ?_ ?_ | ((first | apply ex_flip10 | apply ex_flip9 | apply ex_flip8 | apply ex_flip7 | apply ex_flip6 | apply ex_flip5 | apply ex_flip4 | apply ex_flip3 | apply ex_flip2) <;> try dsimp only) | apply ex_flip | (refine Prod.forall.2 ?_; intro _; try dsimp only) | (intro _; try dsimp only)) <;> (try dsimp only at *) <;> (try simp only [i64max, List.length_cons, List.length_nil]) <;> (try omega)
  all_goals simp [isVal, beqI, *])
def s_l05Statement  : Sig := { X := Int, args := fun x => [.int .i64 x], pre := fun x => True, Y := Unit, post := fun x y => True, res := fun x y => .bool (isSt x), outs := fun x y => [.top], keep := false }
theorem l05Statement_ok  : Contract G Tryz.prog 117 s_l05Statement :=
  vcFun_okP [(53, 0, s_l01In)] [] false (fun x => []) Tryz.func117 rfl (by decide) ⟨l01In_ok, trivial⟩ (fun (x : Int) => (∀ (y : Unit), True → True ∧ True ∧ True) ∧ cA s_l01In [.int .i64 x, .int .i64 (12 : Int), .int .i64 (17 : Int)] fun x_1 y => bcase (inn x_1.1 x_1.2.1 x_1.2.2) (rA s_l05Statement x [.bool true, .top]) (rA s_l05Statement x [.bool (x == (19 : Int)), .top])) (fun x => by kernel_rfl) fun (x : Int) (hx : True) => (by
  dsimp only [cA, rA, s_l01In, s_l05Statement, hndL, hnd1, mvL, lnL, mvE, lnE]
  (repeat' first | (with_reducible first | rfl | exact True.intro | apply inR_i64 | apply And.intro | ((first | apply bcase_dec | apply bcase_bne | apply bcase_beq | apply bcase_not) <;> intro _)) | (apply bcase_intro <;> intro _) | apply sl_eq | refine ex_flip () ?_ ?_ | ((first | apply ex_flip10 | apply ex_flip9 | apply ex_flip8 | apply ex_flip7 | apply ex_flip6 | apply ex_flip5 | apply ex_flip4 | apply ex_flip3 | apply ex_flip2) <;> try dsimp only) | apply ex_flip | (refine Prod.forall.2 ?_; intro _; try dsimp only) | (intro _; try dsimp only)) <;> (try dsimp only at *) <;> (try simp only [i64max, List.length_cons, List.length_nil]) <;> (try omega)
  all_goals simp [isSt, isStep, beqI, *])
def s_l05Count  : Sig := { X := Int, args := fun x => [.int .i64 x], pre := fun x => True, Y := Unit, post := fun x y => True, res := fun x y => .tup [.int .i64 (lohi x).1, .int .i64 (lohi x).2], outs := fun x y => [.top], keep := false }
theorem l05Count_ok  : Contract G Tryz.prog 115 s_l05Count :=
  vcFun_okP [] [] false (fun x => []) Tryz.func115 rfl (by decide) trivial (fun (x : Int) => (∀ (y : Unit), True → (True ∧ True ∧ True) ∧ True ∧ True) ∧ bcase (x == (4 : Int)) (rA s_l05Count x [.tup [.int .i64 (0 : Int), .int .i64 (12 : Int)], .top]) (bcase (x == (18 : Int)) (rA s_l05Count x [.tup [.int .i64 (0 : Int), .int .i64 (12 : Int)], .top]) (bcase (x == (21 : Int)) (rA s_l05Count x [.tup [.int .i64 (0 : Int), .int .i64 (12 : Int)], .top]) (bcase (x == (22 : Int)) (rA s_l05Count x [.tup [.int .i64 (0 : Int), .int .i64 (12 : Int)], .top]) (bcase (x == (5 : Int)) (rA s_l05Count x [.tup [.int .i64 (1 : Int), .int .i64 (12 : Int)], .top]) (bcase (x == (9 : Int)) (rA s_l05Count x [.tup [.int .i64 (1 : Int), .int .i64 (12 : Int)], .top]) (bcase (x == (20 : Int)) (rA s_l05Count x [.tup [.int .i64 (1 : Int), .int .i64 (12 : Int)], .top]) (bcase (x == (6 : Int)) (rA s_l05Count x [.tup [.int .i64 (1 : Int), .int .i64 (1 : Int)], .top]) (bcase (x == (11 : Int)) (rA s_l05Count x [.tup [.int .i64 (1 : Int), .int .i64 (1 : Int)], .top]) (bcase (x == (13 : Int)) (rA s_l05Count x [.tup [.int .i64 (1 : Int), .int .i64 (1 : Int)], .top]) (bcase (x == (14 : Int)) (rA s_l05Count x [.tup [.int .i64 (1 : Int), .int .i64 (1 : Int)], .top]) (bcase (x == (7 : Int)) (rA s_l05Count x [.tup [.int .i64 (2 : Int), .int .i64 (12 : Int)], .top]) (bcase (x == (10 : Int)) (rA s_l05Count x [.tup [.int .i64 (2 : Int), .int .i64 (12 : Int)], .top]) (bcase (x == (8 : Int)) (rA s_l05Count x [.tup [.int .i64 (3 : Int), .int .i64 (3 : Int)], .top]) (bcase (x == (12 : Int)) (rA s_l05Count x [.tup [.int .i64 (0 : Int), .int .i64 (1 : Int)], .top]) (bcase (x == (15 : Int)) (rA s_l05Count x [.tup [.int .i64 (0 : Int), .int .i64 (1 : Int)], .top]) (bcase (x == (16 : Int)) (rA s_l05Count x [.tup [.int .i64 (2 : Int), .int .i64 (3 : Int)], .top]) (bcase (x == (17 : Int)) (rA s_l05Count x [.tup [.int .i64 (2 : Int), .int .i64 (2 : Int)], .top]) (rA s_l05Count x [.tup [.int .i64 (0 : Int), .int .i64 (0 : Int)], .top]))))))))))))))))))) (fun x => by kernel_rfl) fun (x : Int) (hx : True) => (by
  dsimp only [rA, s_l05Count, hndL, hnd1]
  (repeat' first | (with_reducible first | rfl | exact True.intro | apply inR_i64 | apply And.intro | ((first | apply bcase_dec | apply bcase_bne | apply bcase_beq | apply bcase_not) <;> intro _)) | (apply bcase_intro <;> intro _) | apply sl_eq | refine ex_flip () ?_ ?_ | ((first | apply ex_flip10 | apply ex_flip9 | apply ex_flip8 | apply ex_flip7 | apply ex_flip6 | apply ex_flip5 | apply ex_flip4 | apply ex_flip3 | apply ex_flip2) <;> try dsimp only) | apply ex_flip | (refine Prod.forall.2 ?_; intro _; try dsimp only) | (intro _; try dsimp only)) <;> (try dsimp only at *) <;> (try simp only [i64max, List.length_cons, List.length_nil]) <;> (try omega)
  all_goals simp [lohi, *])
def fitsP (x : List Nd × Int × Int) : Prop := okNds x.1 ∧ isNd x.1 x.2.1 = true ∧ ((ndAt x.1 x.2.1).kind = 10 → ∀ c, (ndAt x.1 x.2.1).kids[x.2.2.toNat]? = some c → kindAt x.1 c = 5 → ∃ h t, (ndAt x.1 c).kids = h :: t ∧ isNd x.1 h = true) ∧
  (0 ≤ x.2.2 ∧ x.2.2 < (ndAt x.1 x.2.1).kids.length) ∧ ∀ c, (ndAt x.1 x.2.1).kids[x.2.2.toNat]? = some c → 0 ≤ c ∧ c < x.1.length
theorem fitsP1 {x : List Nd × Int × Int} {y : Nd} (h : fitsP x) (hy : x.1[x.2.1.toNat]? = some y) : 0 ≤ x.2.2 ∧ x.2.2 < y.kids.length := by
  have := h.2.2.2.1; rwa [ndAt_of hy] at this
theorem fitsP2 {x : List Nd × Int × Int} {y : Nd} {c : Int} (h : fitsP x) (hy : x.1[x.2.1.toNat]? = some y) (hc : y.kids[x.2.2.toNat]? = some c) : 0 ≤ c ∧ c < x.1.length := by
  have := h.2.2.2.2 c; rw [ndAt_of hy] at this; exact this hc
theorem fitsP3 {x : List Nd × Int × Int} {y z : Nd} {c : Int} (h : fitsP x) (hy : x.1[x.2.1.toNat]? = some y) (hc : y.kids[x.2.2.toNat]? = some c) (hz : x.1[c.toNat]? = some z) (hk : y.kind = 10) (hz5 : z.kind = 5) : ∃ h t, z.kids = h :: t ∧ isNd x.1 h = true := by
  have := h.2.2.1; rw [ndAt_of hy] at this
  have := this hk c hc; rw [kindAt, ndAt_of hz] at this; exact this hz5
theorem fitsP4 {x : List Nd × Int × Int} {y z : Nd} {c d : Int} (h : fitsP x) (hy : x.1[x.2.1.toNat]? = some y) (hc : y.kids[x.2.2.toNat]? = some c) (hz : x.1[c.toNat]? = some z) (hk : y.kind = 10) (hz5 : z.kind = 5) (hd : z.kids[0]? = some d) : (0 ≤ d ∧ d < x.1.length) ∧ z.kids.headD 0 = d := by
  obtain ⟨a, t, e, ha⟩ := fitsP3 h hy hc hz hk hz5
  rw [e] at hd ⊢; cases hd; exact ⟨isNd_iff.1 ha, rfl⟩
theorem fitsP5 {x : List Nd × Int × Int} {y z : Nd} {c : Int} (h : fitsP x) (hy : x.1[x.2.1.toNat]? = some y) (hc : y.kids[x.2.2.toNat]? = some c) (hz : x.1[c.toNat]? = some z) (hk : y.kind = 10) (hz5 : z.kind = 5) : 0 < z.kids.length := by
  obtain ⟨a, t, e, ha⟩ := fitsP3 h hy hc hz hk hz5
  rw [e]; simp
def fitR (x : List Nd × Int × Int) : Bool := fitK x.1 (ndAt x.1 x.2.1) x.2.2 ((ndAt x.1 x.2.1).kids.getD x.2.2.toNat 0)
theorem fitR_of {x : List Nd × Int × Int} {y z : Nd} {c : Int} (hy : x.1[x.2.1.toNat]? = some y) (hc : y.kids[x.2.2.toNat]? = some c) (hz : x.1[c.toNat]? = some z) :
    fitR x = (fitKind y.kind y.kids.length x.2.2 z.kind && (if y.kind = 10 ∧ 0 < x.2.2 then decide (kindAt x.1 (z.kids.headD 0) = 1) else true)) := by
  rw [fitR, ndAt_of hy, List.getD, hc, Option.getD_some, fitK, kindAt, ndAt_of hz]
def s_l05Fits  : Sig := { X := List Nd × Int × Int, args := fun x => [nds x.1, .int .i64 x.2.1, .int .i64 x.2.2], pre := fun x => fitsP x, Y := Unit, post := fun x y => True, res := fun x y => .bool (fitR x), outs := fun x y => [.top, .top, .top], keep := false }
theorem l05Fits_ok  : Contract G Tryz.prog 118 s_l05Fits :=
  vcFun_okP [(155, 0, s_l05Value), (117, 0, s_l05Statement)] [] false (fun x => []) Tryz.func118 rfl (by decide) ⟨l05Value_ok, l05Statement_ok, trivial⟩ (fun (x : List Nd × Int × Int) => (∀ (y : Unit), True → True ∧ True ∧ True ∧ True ∧ True) ∧ ((0 : Int) ≤ x.2.1 ∧ x.2.1 < (↑(List.length x.1) : Int)) ∧ ∀ (e : Nd), x.1[Int.toNat x.2.1]? = some e → ((0 : Int) ≤ x.2.2 ∧ x.2.2 < (↑(List.length e.kids) : Int)) ∧ ∀ (e_1 : Int), e.kids[Int.toNat x.2.2]? = some e_1 → ((0 : Int) ≤ e_1 ∧ e_1 < (↑(List.length x.1) : Int)) ∧ ∀ (e_2 : Nd), x.1[Int.toNat e_1]? = some e_2 → bcase (e.kind == (9 : Int)) (inR IntKind.i64 (x.2.2 + (1 : Int)) ∧ bcase (decide (x.2.2 + (1 : Int) < (↑(List.length e.kids) : Int))) (rA s_l05Fits x [.bool (e_2.kind == (1 : Int)), .top, .top, .top]) (cA s_l05Value [.int .i64 e_2.kind] fun x_1 y => rA s_l05Fits x [.bool (isVal x_1), .top, .top, .top])) (bcase (e.kind == (20 : Int)) (inR IntKind.i64 (x.2.2 + (1 : Int)) ∧ bcase (decide (x.2.2 + (1 : Int) < (↑(List.length e.kids) : Int))) (rA s_l05Fits x [.bool (e_2.kind == (1 : Int)), .top, .top, .top]) (rA s_l05Fits x [.bool (e_2.kind == (18 : Int)), .top, .top, .top])) (bcase (e.kind == (10 : Int)) (bcase (decide (x.2.2 > (0 : Int))) (bcase (e_2.kind == (5 : Int)) (((0 : Int) ≤ (0 : Int) ∧ (0 : Int) < (↑(List.length e_2.kids) : Int)) ∧ ∀ (e : Int), e_2.kids[(0 : Nat)]? = some e → ((0 : Int) ≤ e ∧ e < (↑(List.length x.1) : Int)) ∧ ∀ (e_3 : Nd), x.1[Int.toNat e]? = some e_3 → rA s_l05Fits x [.bool (e_3.kind == (1 : Int)), .top, .top, .top]) (rA s_l05Fits x [.bool false, .top, .top, .top])) (cA s_l05Value [.int .i64 e_2.kind] fun x_1 y => rA s_l05Fits x [.bool (isVal x_1), .top, .top, .top])) (bcase (e.kind == (16 : Int)) (bcase (decide (x.2.2 > (0 : Int))) (rA s_l05Fits x [.bool (e_2.kind == (18 : Int)), .top, .top, .top]) (cA s_l05Value [.int .i64 e_2.kind] fun x_1 y => rA s_l05Fits x [.bool (isVal x_1), .top, .top, .top])) (bcase (e.kind == (17 : Int)) (bcase (decide (x.2.2 > (0 : Int))) (rA s_l05Fits x [.bool (e_2.kind == (18 : Int)), .top, .top, .top]) (cA s_l05Value [.int .i64 e_2.kind] fun x_1 y => rA s_l05Fits x [.bool (isVal x_1), .top, .top, .top])) (bcase (e.kind == (18 : Int)) (cA s_l05Statement [.int .i64 e_2.kind] fun x_1 y => rA s_l05Fits x [.bool (isSt x_1), .top, .top, .top]) (bcase (e.kind == (21 : Int)) (bcase (e_2.kind == (12 : Int)) (rA s_l05Fits x [.bool true, .top, .top, .top]) (bcase (e_2.kind == (20 : Int)) (rA s_l05Fits x [.bool true, .top, .top, .top]) (rA s_l05Fits x [.bool (e_2.kind == (19 : Int)), .top, .top, .top]))) (bcase (e.kind == (22 : Int)) (bcase (e_2.kind == (21 : Int)) (rA s_l05Fits x [.bool true, .top, .top, .top]) (bcase (e_2.kind == (12 : Int)) (rA s_l05Fits x [.bool true, .top, .top, .top]) (bcase (e_2.kind == (20 : Int)) (rA s_l05Fits x [.bool true, .top, .top, .top]) (rA s_l05Fits x [.bool (e_2.kind == (19 : Int)), .top, .top, .top])))) (cA s_l05Value [.int .i64 e_2.kind] fun x_1 y => rA s_l05Fits x [.bool (isVal x_1), .top, .top, .top]))))))))) (fun x => by kernel_rfl) fun (x : List Nd × Int × Int) (hx : fitsP x) => (by
  dsimp only [cA, ndA_e, nds, rA, s_l05Fits, s_l05Statement, s_l05Value, hndL, hnd1, mvL, lnL, mvE, lnE]
  have h := hx; have h1 := h.1; have hl := h1.1; have hn := isNd_iff.1 h.2.1
  (repeat' first | (with_reducible first | rfl | exact True.intro | apply inR_i64 | apply And.intro | ((first | apply bcase_dec | apply bcase_bne | apply bcase_beq | apply bcase_not) <;> intro _)) | (apply bcase_intro <;> intro _) | apply sl_eq | refine ex_flip () ?_ ?_ | ((first | apply ex_flip10 | apply ex_flip9 | apply ex_flip8 | apply ex_flip7 | apply ex_flip6 | apply ex_flip5 | apply ex_flip4 | apply ex_flip3 | apply ex_flip2) <;> try dsimp only) | apply ex_flip | (refine Prod.forall.2 ?_; intro _; try dsimp only) | (intro _; try dsimp only))
  all_goals first
    | omega
    | exact (fitsP1 h (by assumption)).1
    | exact (fitsP1 h (by assumption)).2
    | exact (fitsP2 h (by assumption) (by assumption)).1
    | exact (fitsP2 h (by assumption) (by assumption)).2
    | exact fitsP5 h (by assumption) (by assumption) (by assumption) (by assumption) (by assumption)
    | (have := fitsP5 h (by assumption) (by assumption) (by assumption) (by assumption) (by assumption); omega)
    | (have := (fitsP4 h (by assumption) (by assumption) (by assumption) (by assumption) (by assumption) (by assumption)).1; omega)
    | (have hk := (h1.2 _ (memE (show x.1[x.2.1.toNat]? = some _ by assumption))).2; have := fitsP1 h (by assumption); (try simp only [i64max]); omega)
    | (rw [fitR_of (by assumption) (by assumption) (by assumption)]; simp [fitKind, isNm, isBlk, isMem, isTop, isCl, beqI, *]; done)
    | (rw [fitR_of (by assumption) (by assumption) (by assumption), (fitsP4 h (by assumption) (by assumption) (by assumption) (by assumption) (by assumption) (by assumption)).2, kindAt, ndAt_of (by assumption)]; simp [fitKind, isCl, beqI, *]; done)
    | skip)
end Go.My
end
section
set_option linter.unusedVariables false
set_option linter.unusedSimpArgs false
namespace Go.My
open Go.Eng Go.Proofs
variable {G : GInv}
def koI (ns : List Nd) (x : Nd) (i : Int) : Prop := 0 ≤ i ∧ i ≤ x.kids.length ∧ ∀ (j : Nat) c, (j : Int) < i → x.kids[j]? = some c → kidOkS ns x j c = true
theorem koI_init {ns : List Nd} {x : Nd} : koI ns x 0 := ⟨by omega, by omega, fun j c h => by omega⟩
theorem koI_next {ns : List Nd} {x : Nd} {i c : Int} (h : koI ns x i) (hc : x.kids[i.toNat]? = some c) (hk : kidOkS ns x i c = true) : koI ns x (i + 1) := by
  obtain ⟨h1, h2, h3⟩ := h
  have := (getE hc).1
  refine ⟨by omega, by omega, fun j d hj hd => ?_⟩
  by_cases e : (j : Int) < i
  · exact h3 j d e hd
  · obtain rfl : j = i.toNat := by omega
    rw [hc] at hd; cases hd
    rwa [show ((i.toNat : Nat) : Int) = i by omega]
theorem koI_done {ns : List Nd} {x : Nd} {i : Int} (h : koI ns x i) (hl : ¬ i < x.kids.length) : allAt (kidOkS ns x) x.kids 0 = true := by
  rw [allAt_iff]; intro j c hc
  exact h.2.2 j c (by have := (getE hc).1; omega) hc
theorem ko_not {ns : List Nd} {x : Nd} {i c : Int} (h0 : 0 ≤ i) (hc : x.kids[i.toNat]? = some c) (hk : kidOkS ns x i c = false) : allAt (kidOkS ns x) x.kids 0 = false := by
  rw [Bool.eq_false_iff]; intro h
  rw [allAt_iff] at h
  have := h _ _ hc
  rw [show ((i.toNat : Nat) : Int) = i by omega, hk] at this; cases this
theorem ko1 {ns : List Nd} {x y : Nd} {i c : Int} (hy : ns[c.toNat]? = some y) (h : y.kind = 5) (h0 : (y.kids.length : Int) = 0) : kidOkS ns x i c = false := by
  have h0 := List.length_eq_zero_iff.1 (show y.kids.length = 0 by omega)
  simp [kidOkS, kindAt, ndAt_of hy, h, h0]
theorem isNd_inn {ns : List Nd} {d : Int} : inn d 0 (ns.length - 1) = isNd ns d := by
  rw [Bool.eq_iff_iff]; simp only [inn, isNd, Bool.and_eq_true, decide_eq_true_eq]; omega
theorem ko2 {ns : List Nd} {x y : Nd} {i c d : Int} (hy : ns[c.toNat]? = some y) (h : y.kind = 5) (h0 : y.kids[0]? = some d) (hd : inn d 0 (ns.length - 1) = false) : kidOkS ns x i c = false := by
  rw [isNd_inn] at hd
  match hk : y.kids with
  | [] => rw [hk] at h0; cases h0
  | e :: t => rw [hk] at h0; cases h0; simp [kidOkS, kindAt, ndAt_of hy, h, hk, hd]
theorem ko3 {ns : List Nd} {x y : Nd} {i c d : Int} (hy : ns[c.toNat]? = some y) (h : y.kind = 5) (h0 : y.kids[0]? = some d) (hd : inn d 0 (ns.length - 1) = true) : kidOkS ns x i c = fitK ns x i c := by
  rw [isNd_inn] at hd
  match hk : y.kids with
  | [] => rw [hk] at h0; cases h0
  | e :: t => rw [hk] at h0; cases h0; simp [kidOkS, kindAt, ndAt_of hy, h, hk, hd]
theorem ko4 {ns : List Nd} {x y : Nd} {i c : Int} (hy : ns[c.toNat]? = some y) (h : y.kind ≠ 5) : kidOkS ns x i c = fitK ns x i c := by
  simp [kidOkS, kindAt, ndAt_of hy, h]
theorem ko_fit {ns : List Nd} {x : Nd} {k i c : Int} {b : Bool} (hx : ns[k.toNat]? = some x) (hc : x.kids[i.toNat]? = some c) (hb : fitR (ns, k, i) = b) : fitK ns x i c = b := by
  rw [← hb, fitR, ndAt_of hx, List.getD, hc, Option.getD_some]
theorem fitsP_of1 {ns : List Nd} {x y : Nd} {k i c d : Int} (h1 : okNds ns) (hn : isNd ns k = true) (hx : ns[k.toNat]? = some x) (hin : kidsIn x.kids k = true) (hi : koI ns x i) (hc : x.kids[i.toNat]? = some c) (hy : ns[c.toNat]? = some y) (h0 : y.kids[0]? = some d) (hd : inn d 0 (ns.length - 1) = true) : fitsP (ns, k, i) := by
  have hk := isNd_iff.1 hn
  have := (getE hc).1
  unfold fitsP; simp only [ndAt_of hx]
  refine ⟨h1, hn, fun h10 c' hc' h5 => ?_, ⟨hi.1, by omega⟩, fun c' hc' => ?_⟩
  · rw [hc] at hc'; cases hc'
    rw [ndAt_of hy]
    match hkk : y.kids with
    | [] => rw [hkk] at h0; cases h0
    | e :: t => rw [hkk] at h0; cases h0; exact ⟨_, _, rfl, by rw [← isNd_inn]; exact hd⟩
  · simp only [kidsIn, List.all_eq_true, Bool.and_eq_true, decide_eq_true_eq] at hin
    have := hin c' (memE hc'); omega
theorem fitsP_of2 {ns : List Nd} {x y : Nd} {k i c : Int} (h1 : okNds ns) (hn : isNd ns k = true) (hx : ns[k.toNat]? = some x) (hin : kidsIn x.kids k = true) (hi : koI ns x i) (hc : x.kids[i.toNat]? = some c) (hy : ns[c.toNat]? = some y) (h5 : y.kind ≠ 5) : fitsP (ns, k, i) := by
  have hk := isNd_iff.1 hn
  have := (getE hc).1
  unfold fitsP; simp only [ndAt_of hx]
  refine ⟨h1, hn, fun h10 c' hc' h5' => ?_, ⟨hi.1, by omega⟩, fun c' hc' => ?_⟩
  · rw [hc] at hc'; cases hc'
    rw [kindAt, ndAt_of hy] at h5'; exact (h5 h5').elim
  · simp only [kidsIn, List.all_eq_true, Bool.and_eq_true, decide_eq_true_eq] at hin
    have := hin c' (memE hc'); omega
theorem mayBlank_eq {k : Int} : mayBlank k = (isSt k || (decide (k = 20) || decide (k = 21))) := by
  rw [Bool.eq_iff_iff]
  simp only [mayBlank, isSt, isMem, isStep, inn, Bool.or_eq_true, Bool.and_eq_true, decide_eq_true_eq]; omega
theorem sn_nd {ns : List Nd} {k : Int} (h : inn k 0 (ns.length - 1) = false) : false = nodeOk ns k := by rw [isNd_inn] at h; exact no_nd h
theorem sn_of {ns : List Nd} {k : Int} {x : Nd} (hx : ns[k.toNat]? = some x) (h : inn k 0 (ns.length - 1) = true) : nodeOk ns k = (inn x.kind 1 22 && (inn x.kids.length (lohi x.kind).1 (lohi x.kind).2 && (textOk x.kind x.text && ((mayBlank x.kind || !x.blank) && ((kidsIn x.kids k && decide x.kids.Nodup) && allAt (kidOkS ns x) x.kids 0))))) := by
  rw [isNd_inn] at h; rw [no_of hx h, node_bridge]
theorem sn_in {ns : List Nd} {k : Int} {x : Nd} (hx : ns[k.toNat]? = some x) (h : inn k 0 (ns.length - 1) = true) (h1 : kidsIn x.kids k = false) : false = nodeOk ns k := by
  rw [sn_of hx h, h1]; simp
theorem sn_dup {ns : List Nd} {k : Int} {x : Nd} (hx : ns[k.toNat]? = some x) (h : inn k 0 (ns.length - 1) = true) (h1 : ¬ x.kids.Nodup) : false = nodeOk ns k := by
  rw [sn_of hx h, decide_eq_false h1]; simp
theorem sn_kid {ns : List Nd} {k : Int} {x : Nd} (hx : ns[k.toNat]? = some x) (h : inn k 0 (ns.length - 1) = true) (h1 : allAt (kidOkS ns x) x.kids 0 = false) : false = nodeOk ns k := by
  rw [sn_of hx h, h1]; simp
theorem sn_yes {ns : List Nd} {k : Int} {x : Nd} (hx : ns[k.toNat]? = some x) (h : inn k 0 (ns.length - 1) = true) (h1 : inn x.kind 1 22 = true) (h2 : inn x.kids.length (lohi x.kind).1 (lohi x.kind).2 = true) (h3 : textOk x.kind x.text = true) (h4 : (mayBlank x.kind || !x.blank) = true)
    (h5 : kidsIn x.kids k = true ∧ x.kids.Nodup) (h6 : allAt (kidOkS ns x) x.kids 0 = true) : true = nodeOk ns k := by
  rw [sn_of hx h, h1, h2, h3, h4, h5.1, h6, decide_eq_true h5.2]; rfl
theorem in_not {k c : Int} {l : List Int} {n : Nat} (hc : l[n]? = some c) (h : inn c 0 (k - 1) = false) : kidsIn l k = false := by
  rw [Bool.eq_false_iff]; intro hh; simp only [kidsIn, List.all_eq_true, Bool.and_eq_true, decide_eq_true_eq] at hh
  have := hh c (memE hc)
  have : inn c 0 (k - 1) = true := inn_iff.2 (by omega)
  rw [h] at this; cases this
def djI (l : List Int) (i j : Int) : Prop := 0 ≤ j ∧ j ≤ i ∧ ∀ c, l[i.toNat]? = some c → (l.take j.toNat).elem c = false
theorem djI_init {l : List Int} {i : Int} (h : 0 ≤ i) : djI l i 0 := ⟨by omega, h, by simp⟩
theorem djI_next {l : List Int} {i j c d : Int} (h : djI l i j) (hl : j < i) (hc : l[i.toNat]? = some c) (hd : l[j.toNat]? = some d) (hne : c ≠ d) : djI l i (j + 1) := by
  refine ⟨by have := h.1; omega, by omega, fun c' hc' => ?_⟩
  have h3 := h.2.2 c' hc'
  rw [hc] at hc'; cases hc'
  rw [toNat1 h.1, takeE hd]
  simp at h3 ⊢
  exact ⟨h3, hne⟩
theorem djI_eq {l : List Int} {i j c d : Int} (h0 : djI l i j) (hl : j < i) (hc : l[i.toNat]? = some c) (hd : l[j.toNat]? = some d) (he : c = d) : ¬ l.Nodup := by
  refine nk_dup hc ?_
  subst he
  rw [List.elem_iff]
  rw [List.mem_take_iff_getElem]
  obtain ⟨hj, e⟩ := getE hd
  have := h0.1
  exact ⟨j.toNat, by omega, e⟩
theorem djI_done {k : Int} {l : List Int} {i j c : Int} (h : nkI k l i) (hd : djI l i j) (hl : ¬ j < i) (hc : l[i.toNat]? = some c) (hin : inn c 0 (k - 1) = true) : nkI k l (i + 1) := by
  have := inn_iff.1 hin
  have h3 := hd.2.2 c hc
  obtain rfl : j = i := by have := hd.2.1; omega
  exact nkI_next h hc (by omega) (by omega) h3
def lsNode2 (x : List Nd × Int) (i : Int) : LS := {
  ι := Int, inv := djI (ndAt x.1 x.2).kids i,
  regs := fun j => [(0, nds x.1), (1, .int .i64 x.2), (5, .box 0 (ndA false (ndAt x.1 x.2))), (8, .int .i64 i), (9, .int .i64 j)], als := [], meas := fun j => i.toNat - j.toNat }
def lsNode (x : List Nd × Int) : LS := {
  ι := Int, inv := nkI x.2 (ndAt x.1 x.2).kids,
  regs := fun i => [(0, nds x.1), (1, .int .i64 x.2), (5, .box 0 (ndA false (ndAt x.1 x.2))), (8, .int .i64 i)], als := [], meas := fun i => (ndAt x.1 x.2).kids.length - i.toNat, sub := fun i => [(15, lsNode2 x i)] }
def lsNode3 (x : List Nd × Int) : LS := {
  ι := Int, inv := koI x.1 (ndAt x.1 x.2),
  regs := fun i => [(0, nds x.1), (1, .int .i64 x.2), (5, .box 0 (ndA false (ndAt x.1 x.2))), (10, .int .i64 i)], als := [], meas := fun i => (ndAt x.1 x.2).kids.length - i.toNat }
def jI (x : Nd) : Prop := inn x.kind 1 22 = true ∧ inn x.kids.length (lohi x.kind).1 (lohi x.kind).2 = true ∧ textOk x.kind x.text = true ∧ (mayBlank x.kind || !x.blank) = true
def lsJoin (x : List Nd × Int) : LS := {
  ι := Unit, inv := fun _ => jI (ndAt x.1 x.2),
  regs := fun _ => [(0, nds x.1), (1, .int .i64 x.2), (5, .box 0 (ndA false (ndAt x.1 x.2)))], als := [], meas := fun _ => 0 }
def s_sNodeOk  : Sig := { X := List Nd × Int, args := fun x => [nds x.1, .int .i64 x.2], pre := fun x => okNds x.1, Y := Unit, post := fun x y => True, res := fun x y => .bool (nodeOk x.1 x.2), outs := fun x y => [.top, .top], keep := false }
set_option maxHeartbeats 4000000 in
theorem sNodeOk_ok  : Contract G Tryz.prog 95 s_sNodeOk :=
  vcFun_okP [(53, 0, s_l01In), (115, 0, s_l05Count), (116, 0, s_l05Text), (117, 0, s_l05Statement), (118, 0, s_l05Fits)] [] false (fun x => [(10, lsNode x), (20, lsNode3 x), (200009, lsJoin x)]) Tryz.func95 rfl (by decide) ⟨l01In_ok, l05Count_ok, l05Text_ok, l05Statement_ok, l05Fits_ok, trivial⟩ (fun (x : List Nd × Int) => (∀ (y : Unit), True → True ∧ True ∧ True ∧ True) ∧ inR IntKind.i64 ((↑(List.length x.1) : Int) - (1 : Int)) ∧ cA s_l01In [.int .i64 x.2, .int .i64 (0 : Int), .int .i64 ((↑(List.length x.1) : Int) - (1 : Int))] fun x_1 y => bcase (!inn x_1.1 x_1.2.1 x_1.2.2) (rA s_sNodeOk x [.bool false, .top, .top]) (((0 : Int) ≤ x.2 ∧ x.2 < (↑(List.length x.1) : Int)) ∧ ∀ (e : Nd), x.1[Int.toNat x.2]? = some e → cA s_l01In [.int .i64 e.kind, .int .i64 (1 : Int), .int .i64 (22 : Int)] fun x_2 y => bcase (!inn x_2.1 x_2.2.1 x_2.2.2) (rA s_sNodeOk x [.bool false, .top, .top]) (((0 : Int) ≤ x.2 ∧ x.2 < (↑(List.length x.1) : Int)) ∧ ∀ (e : Nd), x.1[Int.toNat x.2]? = some e → cA s_l05Count [.int .i64 e.kind] fun x_3 y => cA s_l01In [.int .i64 (↑(List.length e.kids) : Int), .int .i64 (lohi x_3).1, .int .i64 (lohi x_3).2] fun x_4 y => bcase (!inn x_4.1 x_4.2.1 x_4.2.2) (rA s_sNodeOk x [.bool false, .top, .top]) (cA s_l05Text [.int .i64 e.kind, .str e.text] fun x_5 y => bcase (!textOk x_5.1 x_5.2) (rA s_sNodeOk x [.bool false, .top, .top]) (bcase e.blank (cA s_l05Statement [.int .i64 e.kind] fun x_6 y => bcase (!isSt x_6) (bcase (e.kind != (20 : Int)) (bcase (e.kind != (21 : Int)) (rA s_sNodeOk x [.bool false, .top, .top]) (eA (lsJoin x) [nds x.1, .int .i64 x.2, .box 0 [.int .i64 e.kind, .str e.text, ints e.kids, .bool e.blank]])) (eA (lsJoin x) [nds x.1, .int .i64 x.2, .box 0 [.int .i64 e.kind, .str e.text, ints e.kids, .bool e.blank]])) (eA (lsJoin x) [nds x.1, .int .i64 x.2, .box 0 [.int .i64 e.kind, .str e.text, ints e.kids, .bool e.blank]])) (eA (lsJoin x) [nds x.1, .int .i64 x.2, .box 0 [.int .i64 e.kind, .str e.text, ints e.kids, .bool e.blank]]) ∧ ∀ (i : Unit), jI (ndAt x.1 x.2) → eA (lsNode x) [nds x.1, .int .i64 x.2, .box 0 [.int .i64 (ndAt x.1 x.2).kind, .str (ndAt x.1 x.2).text, ints (ndAt x.1 x.2).kids, .bool (ndAt x.1 x.2).blank], .int .i64 (0 : Int)] ∧ ∀ (i : Int), nkI x.2 (ndAt x.1 x.2).kids i → bcase (decide (i < (↑(List.length (ndAt x.1 x.2).kids) : Int))) (((0 : Int) ≤ i ∧ i < (↑(List.length (ndAt x.1 x.2).kids) : Int)) ∧ ∀ (e : Int), (ndAt x.1 x.2).kids[Int.toNat i]? = some e → inR IntKind.i64 (x.2 - (1 : Int)) ∧ cA s_l01In [.int .i64 e, .int .i64 (0 : Int), .int .i64 (x.2 - (1 : Int))] fun x_6 y => bcase (!inn x_6.1 x_6.2.1 x_6.2.2) (rA s_sNodeOk x [.bool false, .top, .top]) (eA (lsNode2 x i) [nds x.1, .int .i64 x.2, .box 0 [.int .i64 (ndAt x.1 x.2).kind, .str (ndAt x.1 x.2).text, ints (ndAt x.1 x.2).kids, .bool (ndAt x.1 x.2).blank], .int .i64 i, .int .i64 (0 : Int)] ∧ ∀ (i_1 : Int), djI (ndAt x.1 x.2).kids i i_1 → bcase (decide (i_1 < i)) (true = true ∧ true = true ∧ ((0 : Int) ≤ i ∧ i < (↑(List.length (ndAt x.1 x.2).kids) : Int)) ∧ ∀ (e : Int), (ndAt x.1 x.2).kids[Int.toNat i]? = some e → ((0 : Int) ≤ i_1 ∧ i_1 < (↑(List.length (ndAt x.1 x.2).kids) : Int)) ∧ ∀ (e_1 : Int), (ndAt x.1 x.2).kids[Int.toNat i_1]? = some e_1 → bcase (e == e_1) (rA s_sNodeOk x [.bool false, .top, .top]) (inR IntKind.i64 (i_1 + (1 : Int)) ∧ eN (lsNode2 x i) i_1 [nds x.1, .int .i64 x.2, .box 0 [.int .i64 (ndAt x.1 x.2).kind, .str (ndAt x.1 x.2).text, ints (ndAt x.1 x.2).kids, .bool (ndAt x.1 x.2).blank], .int .i64 i, .int .i64 (i_1 + (1 : Int))])) (inR IntKind.i64 (i + (1 : Int)) ∧ eN (lsNode x) i [nds x.1, .int .i64 x.2, .box 0 [.int .i64 (ndAt x.1 x.2).kind, .str (ndAt x.1 x.2).text, ints (ndAt x.1 x.2).kids, .bool (ndAt x.1 x.2).blank], .int .i64 (i + (1 : Int))]))) (eA (lsNode3 x) [nds x.1, .int .i64 x.2, .box 0 [.int .i64 (ndAt x.1 x.2).kind, .str (ndAt x.1 x.2).text, ints (ndAt x.1 x.2).kids, .bool (ndAt x.1 x.2).blank], .int .i64 (0 : Int)] ∧ ∀ (i : Int), koI x.1 (ndAt x.1 x.2) i → bcase (decide (i < (↑(List.length (ndAt x.1 x.2).kids) : Int))) (((0 : Int) ≤ i ∧ i < (↑(List.length (ndAt x.1 x.2).kids) : Int)) ∧ ∀ (e : Int), (ndAt x.1 x.2).kids[Int.toNat i]? = some e → ((0 : Int) ≤ e ∧ e < (↑(List.length x.1) : Int)) ∧ ∀ (e_1 : Nd), x.1[Int.toNat e]? = some e_1 → bcase (e_1.kind == (5 : Int)) (bcase ((↑(List.length e_1.kids) : Int) == (0 : Int)) (rA s_sNodeOk x [.bool false, .top, .top]) (((0 : Int) ≤ (0 : Int) ∧ (0 : Int) < (↑(List.length e_1.kids) : Int)) ∧ ∀ (e : Int), e_1.kids[(0 : Nat)]? = some e → inR IntKind.i64 ((↑(List.length x.1) : Int) - (1 : Int)) ∧ cA s_l01In [.int .i64 e, .int .i64 (0 : Int), .int .i64 ((↑(List.length x.1) : Int) - (1 : Int))] fun x_6 y => bcase (!inn x_6.1 x_6.2.1 x_6.2.2) (rA s_sNodeOk x [.bool false, .top, .top]) (cA s_l05Fits [nds x.1, .int .i64 x.2, .int .i64 i] fun x_7 y => bcase (!fitR x_7) (rA s_sNodeOk x [.bool false, .top, .top]) (inR IntKind.i64 (i + (1 : Int)) ∧ eN (lsNode3 x) i [nds x.1, .int .i64 x.2, .box 0 [.int .i64 (ndAt x.1 x.2).kind, .str (ndAt x.1 x.2).text, ints (ndAt x.1 x.2).kids, .bool (ndAt x.1 x.2).blank], .int .i64 (i + (1 : Int))])))) (cA s_l05Fits [nds x.1, .int .i64 x.2, .int .i64 i] fun x_6 y => bcase (!fitR x_6) (rA s_sNodeOk x [.bool false, .top, .top]) (inR IntKind.i64 (i + (1 : Int)) ∧ eN (lsNode3 x) i [nds x.1, .int .i64 x.2, .box 0 [.int .i64 (ndAt x.1 x.2).kind, .str (ndAt x.1 x.2).text, ints (ndAt x.1 x.2).kids, .bool (ndAt x.1 x.2).blank], .int .i64 (i + (1 : Int))]))) (rA s_sNodeOk x [.bool true, .top, .top]))))))) (fun x => by kernel_rfl) fun (x : List Nd × Int) (hx : okNds x.1) => (by
  dsimp only [cA, eA, eN, ints, lsJoin, lsNode, lsNode2, lsNode3, ndA_e, nds, rA, s_l01In, s_l05Count, s_l05Fits, s_l05Statement, s_l05Text, s_sNodeOk, hndL, hnd1, mvL, lnL, mvE, lnE, sndL]
  have h1 : okNds x.1 := hx; have hl := h1.1
  by_cases hn : isNd x.1 x.2 = true
  case neg =>
    (repeat' first | (with_reducible first | rfl | exact True.intro | apply inR_i64 | apply And.intro | ((first | apply bcase_dec | apply bcase_bne | apply bcase_beq | apply bcase_not) <;> intro _)) | (apply bcase_intro <;> intro _) | apply sl_eq | refine ex_flip () ?_ ?_ | ((first | apply ex_flip10 | apply ex_flip9 | apply ex_flip8 | apply ex_flip7 | apply ex_flip6 | apply ex_flip5 | apply ex_flip4 | apply ex_flip3 | apply ex_flip2) <;> try dsimp only) | apply ex_flip | (refine Prod.forall.2 ?_; intro _; try dsimp only) | (intro _; try dsimp only))
    all_goals first
      | exact sn_nd (by assumption)
      | (have hh := (show inn x.2 0 (x.1.length - 1) = true by assumption); rw [isNd_inn] at hh; exact (hn hh).elim)
      | ((try simp only [i64max]); omega)
  case pos =>
  have hr := isNd_iff.1 hn
  obtain ⟨z, hz⟩ : ∃ z, x.1[x.2.toNat]? = some z := ⟨x.1[x.2.toNat], by simp⟩
  have hzo := h1.2 _ (memE hz)
  have hi : inn x.2 0 (x.1.length - 1) = true := by rw [isNd_inn]; exact hn
  simp only [hz, Option.some.injEq, forall_eq', ndAt_of hz]
  (repeat' first | (with_reducible first | rfl | exact True.intro | apply inR_i64 | apply And.intro | ((first | apply bcase_dec | apply bcase_bne | apply bcase_beq | apply bcase_not) <;> intro _)) | (apply bcase_intro <;> intro _) | apply sl_eq | refine ex_flip () ?_ ?_ | ((first | apply ex_flip10 | apply ex_flip9 | apply ex_flip8 | apply ex_flip7 | apply ex_flip6 | apply ex_flip5 | apply ex_flip4 | apply ex_flip3 | apply ex_flip2) <;> try dsimp only) | apply ex_flip | (refine Prod.forall.2 ?_; intro _; try dsimp only) | (intro _; try dsimp only))
  all_goals first
    | rfl
    | assumption
    | exact nkI_init
    | exact koI_init
    | exact djI_init (‹nkI _ _ _›.1)
    | exact sn_nd (by assumption)
    | exact ⟨by assumption, by assumption, by assumption, by simp [mayBlank_eq, *]⟩
    | exact sn_in hz hi (in_not (by assumption) (by assumption))
    | exact sn_dup hz hi (djI_eq (by assumption) (by assumption) (by assumption) (by assumption) (by assumption))
    | exact djI_next (by assumption) (by assumption) (by assumption) (by assumption) (by assumption)
    | exact djI_done (by assumption) (by assumption) (by assumption) (by assumption) (by assumption)
    | exact sn_kid hz hi (ko_not (‹koI _ _ _›.1) (by assumption) (ko1 (by assumption) (by assumption) (by assumption)))
    | exact sn_kid hz hi (ko_not (‹koI _ _ _›.1) (by assumption) (ko2 (by assumption) (by assumption) (by assumption) (by assumption)))
    | exact sn_kid hz hi (ko_not (‹koI _ _ _›.1) (by assumption) ((ko4 (by assumption) (by assumption)).trans (ko_fit hz (by assumption) (by assumption))))
    | exact sn_kid hz hi (ko_not (‹koI _ _ _›.1) (by assumption) ((ko3 (by assumption) (by assumption) (by assumption) (by assumption)).trans (ko_fit hz (by assumption) (by assumption))))
    | exact koI_next (by assumption) (by assumption) ((ko4 (by assumption) (by assumption)).trans (ko_fit hz (by assumption) (by assumption)))
    | exact koI_next (by assumption) (by assumption) ((ko3 (by assumption) (by assumption) (by assumption) (by assumption)).trans (ko_fit hz (by assumption) (by assumption)))
    | exact fitsP_of1 h1 hn hz (nkI_done (by assumption) (by assumption)).1 (by assumption) (by assumption) (by assumption) (by assumption) (by assumption)
    | exact fitsP_of2 h1 hn hz (nkI_done (by assumption) (by assumption)).1 (by assumption) (by assumption) (by assumption) (by assumption)
    | exact sn_yes hz hi (‹jI _›.1) (‹jI _›.2.1) (‹jI _›.2.2.1) (‹jI _›.2.2.2) (nkI_done (by assumption) (by assumption)) (koI_done (by assumption) (by assumption))
    | (rw [sn_of hz hi]; simp [mayBlank_eq, *]; done)
    | exact hzo.1
    | (have := nkI_at (by assumption) (by assumption) hr.2 (memE (show z.kids[_]? = some _ by assumption)); omega)
    | ((try simp only [i64max]); omega)
    | (have hko := (show koI _ _ _ by assumption); have hk2 := hzo.2; have := hko.1; have := hko.2.1; (try simp only [i64max]); omega)
    | (have hko := (show djI _ _ _ by assumption); have hk1 := (show nkI _ _ _ by assumption); have hk2 := hzo.2; have := hko.1; have := hko.2.1; have := hk1.1; have := hk1.2.1; (try simp only [i64max]); omega)
    | (have hk1 := (show nkI _ _ _ by assumption); have hk2 := hzo.2; have := hk1.1; have := hk1.2.1; (try simp only [i64max]); omega)
    | skip)
end Go.My
end
section
set_option linter.unusedVariables false
set_option linter.unusedSimpArgs false
namespace Go.My
open Go.Eng Go.Proofs
variable {G : GInv}
def sdp (ns : List Nd) (i : Nat) (ds : List Int) : Int :=
  if nodeOk ns i = true ∧ (i = 0 ∨ ds.getD (i - 1) 0 ≠ 0) then (if 14 ≤ mx ds (ndAt ns i).kids 0 then 0 else mx ds (ndAt ns i).kids 0 + 1) else 0
def sds (ns : List Nd) : Nat → List Int
  | 0 => []
  | n + 1 => sds ns n ++ [sdp ns n (sds ns n)]
theorem sds_len {ns : List Nd} : ∀ {n : Nat}, (sds ns n).length = n
  | 0 => rfl
  | n + 1 => by rw [sds, List.length_append, sds_len]; rfl
theorem sds_deeps {ns : List Nd} : ∀ {n : Nat}, (match deeps ns n with | some ds => sds ns n = ds | none => 0 < n ∧ (sds ns n).getD (n - 1) 0 = 0)
  | 0 => by simp [deeps, sds]
  | n + 1 => by
    have ih := @sds_deeps ns n
    unfold deeps
    cases hd : deeps ns n with
    | none =>
      rw [hd] at ih
      simp only
      refine ⟨by omega, ?_⟩
      have hz : sdp ns n (sds ns n) = 0 := by
        unfold sdp; rw [if_neg]; rintro ⟨_, h | h⟩
        · omega
        · exact h ih.2
      rw [sds, hz, List.getD, List.getElem?_append_right (by rw [sds_len]; omega), sds_len]; simp
    | some ds =>
      rw [hd] at ih
      simp only at ih ⊢
      by_cases hn : nodeOk ns n = true
      · rw [if_pos hn]
        have hprev : n = 0 ∨ (sds ns n).getD (n - 1) 0 ≠ 0 := by
          by_cases e : n = 0
          · exact .inl e
          · right
            rw [ih, List.getD]
            have hl := deeps_length hd
            have : ds[n - 1]? = some ds[n - 1] := by simp
            rw [this]; have := deeps_pos hd ds[n - 1] (by simp); simp; omega
        have hs : sdp ns n (sds ns n) = if 14 ≤ mx ds (ndAt ns n).kids 0 then 0 else mx ds (ndAt ns n).kids 0 + 1 := by
          unfold sdp; rw [if_pos ⟨hn, hprev⟩, ih]
        by_cases hm : 14 ≤ mx ds (ndAt ns n).kids 0
        · rw [if_pos hm]; simp only
          refine ⟨by omega, ?_⟩
          rw [sds, hs, if_pos hm, List.getD, List.getElem?_append_right (by rw [sds_len]; omega), sds_len]; simp
        · rw [if_neg hm]; simp only
          rw [sds, hs, if_neg hm, ih]
      · rw [if_neg hn]; simp only
        refine ⟨by omega, ?_⟩
        have hz : sdp ns n (sds ns n) = 0 := by unfold sdp; rw [if_neg (fun h => hn h.1)]
        rw [sds, hz, List.getD, List.getElem?_append_right (by rw [sds_len]; omega), sds_len]; simp
theorem sds_deepOf {ns : List Nd} {k : Int} {v : Int} (h : isNd ns k = true) (hv : (sds ns (k.toNat + 1))[k.toNat]? = some v) : v = deepOf ns k := by
  have ih := @sds_deeps ns (k.toNat + 1)
  unfold deepOf; rw [if_pos h]
  cases hd : deeps ns (k.toNat + 1) with
  | none => rw [hd] at ih; simp only at ih ⊢; have := ih.2; rw [List.getD] at this; simp [hv] at this; exact this
  | some ds => rw [hd] at ih; simp only at ih ⊢; rw [← ih, List.getD, hv]; rfl
theorem sds_rng {ns : List Nd} : ∀ {n : Nat}, ∀ d ∈ sds ns n, 0 ≤ d ∧ d ≤ 14
  | 0, d, h => by simp [sds] at h
  | n + 1, d, h => by
    rw [sds] at h
    rcases List.mem_append.1 h with h | h
    · exact sds_rng d h
    · simp at h; subst h
      have := mx_ge (sds ns n) (ndAt ns n).kids 0
      unfold sdp; split
      · split <;> omega
      · omega
def okB (ns : List Nd) (i : Int) : Bool := nodeOk ns i && (decide (i = 0) || !decide ((sds ns i.toNat).getD (i.toNat - 1) 0 = 0))
theorem sdp_of {ns : List Nd} {i : Int} (h : 0 ≤ i) : sdp ns i.toNat (sds ns i.toNat) = if okB ns i then (if 14 ≤ mx (sds ns i.toNat) (ndAt ns i).kids 0 then 0 else mx (sds ns i.toNat) (ndAt ns i).kids 0 + 1) else 0 := by
  have e : ((i.toNat : Nat) : Int) = i := by omega
  unfold sdp; rw [e]
  have hb : okB ns i = true ↔ nodeOk ns i = true ∧ (i.toNat = 0 ∨ (sds ns i.toNat).getD (i.toNat - 1) 0 ≠ 0) := by
    unfold okB
    simp only [Bool.and_eq_true, Bool.or_eq_true, decide_eq_true_eq, Bool.not_eq_true', decide_eq_false_iff_not]
    constructor
    · rintro ⟨h1, h2⟩; exact ⟨h1, h2.imp (fun h => by omega) id⟩
    · rintro ⟨h1, h2⟩; exact ⟨h1, h2.imp (fun h => by omega) id⟩
  by_cases h1 : okB ns i = true
  · rw [if_pos h1, if_pos (hb.1 h1)]
  · rw [if_neg h1, if_neg (fun h2 => h1 (hb.2 h2))]
def eI (ns : List Nd) (i j d : Int) : Prop := (okB ns i = true → j ≤ (ndAt ns i).kids.length ∧ 1 ≤ d ∧ d ≤ 15 ∧ mx (sds ns i.toNat) ((ndAt ns i).kids.drop j.toNat) (d - 1) = mx (sds ns i.toNat) (ndAt ns i).kids 0) ∧ 0 ≤ j ∧ (okB ns i = false → d = 0)
theorem eI_init {ns : List Nd} {i : Int} : eI ns i 0 (if okB ns i then 1 else 0) := by
  refine ⟨fun h => ?_, by omega, fun h => ?_⟩
  · rw [if_pos h]; refine ⟨by omega, by omega, by omega, by simp⟩
  · rw [h]; rfl
theorem eI_ok {ns : List Nd} {i j d : Int} (h : eI ns i j d) (hd : d > 0) : okB ns i = true := by
  cases hb : okB ns i
  · have := h.2.2 hb; omega
  · rfl
theorem okB_ok {ns : List Nd} {i : Int} (h : okB ns i = true) : nodeOk ns i = true := by
  simp only [okB, Bool.and_eq_true] at h; exact h.1
theorem eI_kid {ns : List Nd} {i j d c : Int} {y : Nd} (h : eI ns i j d) (hd : d > 0) (hy : ns[i.toNat]? = some y) (hc : y.kids[j.toNat]? = some c) : 0 ≤ c ∧ c < i := by
  have := (nodeOk_parts (okB_ok (eI_ok h hd))).2.2.2.1
  rw [ndAt_of hy] at this; exact this c (memE hc)
theorem eI_len {ns : List Nd} {i j d : Int} {y : Nd} (h : eI ns i j d) (hd : d > 0) (hy : ns[i.toNat]? = some y) : y.kids.length ≤ 12 := by
  have := (nodeOk_parts (okB_ok (eI_ok h hd))).2.1
  rwa [ndAt_of hy] at this
theorem eI_next {ns : List Nd} {i j d c v d' : Int} {y : Nd} (h : eI ns i j d) (hd : d > 0) (hy : ns[i.toNat]? = some y) (hc : y.kids[j.toNat]? = some c) (hv : (sds ns i.toNat)[c.toNat]? = some v) (hd' : d' - 1 = max (d - 1) v) : eI ns i (j + 1) d' := by
  have hb := eI_ok h hd
  obtain ⟨h1, h2, h3, h4⟩ := h.1 hb
  have h0 := h.2.1
  have hr := sds_rng v (memE hv)
  rw [ndAt_of hy] at h4 h1
  have := (getE hc).1
  refine ⟨fun _ => ?_, by omega, fun hh => by rw [hb] at hh; cases hh⟩
  rw [ndAt_of hy]
  refine ⟨by omega, by omega, by omega, ?_⟩
  rw [← h4, dropE hc, toNat1 h0, mx, List.getD, hv, Option.getD_some, hd']
theorem eI_v {ns : List Nd} {i : Int} {c : Nat} {v : Int} (hv : (sds ns i.toNat)[c]? = some v) : 0 ≤ v ∧ v ≤ 14 := sds_rng v (memE hv)
theorem eI_done {ns : List Nd} {i j d : Int} {y : Nd} (hi : 0 ≤ i) (h : eI ns i j d) (hd : d > 0) (hy : ns[i.toNat]? = some y) (hl : ¬ j < y.kids.length) : sds ns i.toNat ++ [if d > 14 then 0 else d] = sds ns (i + 1).toNat := by
  have hb := eI_ok h hd
  obtain ⟨h1, h2, h3, h4⟩ := h.1 hb
  rw [ndAt_of hy, List.drop_eq_nil_of_le (by omega), mx] at h4
  rw [toNat1 hi, sds, sdp_of hi, if_pos hb, ndAt_of hy, ← h4]
  congr 2
  by_cases h5 : d > 14
  · rw [if_pos h5, if_pos (by omega)]
  · rw [if_neg h5, if_neg (by omega)]; omega
theorem eI_zero {ns : List Nd} {i j d : Int} (hi : 0 ≤ i) (h : eI ns i j d) (hd : ¬ d > 0) : sds ns i.toNat ++ [d] = sds ns (i + 1).toNat := by
  have hb : okB ns i = false := by
    cases hb : okB ns i
    · rfl
    · have := (h.1 hb).2.1; omega
  rw [toNat1 hi, sds, sdp_of hi, hb, h.2.2 hb]; rfl
theorem okB0a {ns : List Nd} {i : Int} (h : nodeOk ns i = false) : 0 = if okB ns i = true then (1 : Int) else 0 := by simp [okB, h]
theorem okB0b {ns : List Nd} {i v : Int} (h : i > 0) (hv : (sds ns i.toNat)[(i - 1).toNat]? = some v) (h0 : v = 0) : 0 = if okB ns i = true then (1 : Int) else 0 := by
  have e : (i - 1).toNat = i.toNat - 1 := by omega
  rw [e] at hv; subst h0
  have : (sds ns i.toNat).getD (i.toNat - 1) 0 = 0 := by rw [List.getD, hv]; rfl
  simp only [okB, this, decide_true, Bool.not_true, Bool.or_false]
  rw [decide_eq_false (by omega)]; simp
theorem okB1a {ns : List Nd} {i : Int} (h : nodeOk ns i = true) (h0 : 0 ≤ i) (h1 : ¬ i > 0) : 1 = if okB ns i = true then (1 : Int) else 0 := by
  obtain rfl : i = 0 := by omega
  simp [okB, h]
theorem okB1b {ns : List Nd} {i v : Int} (h : nodeOk ns i = true) (h0 : i > 0) (hv : (sds ns i.toNat)[(i - 1).toNat]? = some v) (h1 : v ≠ 0) : 1 = if okB ns i = true then (1 : Int) else 0 := by
  have e : (i - 1).toNat = i.toNat - 1 := by omega
  rw [e] at hv
  have : (sds ns i.toNat).getD (i.toNat - 1) 0 ≠ 0 := by rw [List.getD, hv]; exact h1
  simp only [okB, h, this, decide_false, Bool.not_false, Bool.or_true, Bool.and_true, if_true]
def lDs2 (x : List Nd × Int) (o : Int) : LS := {
  ι := Int × Int, inv := fun i => eI x.1 o i.1 i.2,
  regs := fun i => [(0, nds x.1), (1, .int .i64 x.2), (5, oints (sds x.1 o.toNat)), (6, .int .i64 o), (7, .int .i64 i.2), (8, .int .i64 i.1)], als := [], meas := fun i => (ndAt x.1 o).kids.length - i.1.toNat }
def lDsJ (x : List Nd × Int) (o : Int) : LS := {
  ι := Unit, inv := fun _ => True,
  regs := fun i => [(0, nds x.1), (1, .int .i64 x.2), (5, oints (sds x.1 o.toNat)), (6, .int .i64 o), (7, .int .i64 (if okB x.1 o then 1 else 0))], als := [], meas := fun i => 0 }
def lDs (x : List Nd × Int) : LS := {
  ι := Int, inv := fun i => 0 ≤ i ∧ i ≤ x.2 + 1,
  regs := fun i => [(0, nds x.1), (1, .int .i64 x.2), (5, oints (sds x.1 i.toNat)), (6, .int .i64 i)], als := [], meas := fun i => (x.2 + 1 - i).toNat, sub := fun i => [(9, lDs2 x i), (200008, lDsJ x i)] }
def s_l05Deeps  : Sig := { X := List Nd × Int, args := fun x => [nds x.1, .int .i64 x.2], pre := fun x => okNds x.1 ∧ x.1.length ≤ 2 ^ 30 ∧ isNd x.1 x.2 = true, Y := Unit, post := fun x y => True, res := fun x y => oints (sds x.1 (x.2.toNat + 1)), outs := fun x y => [.top, .top], keep := false }
theorem l05Deeps_ok  : Contract G Tryz.prog 54 s_l05Deeps :=
  vcFun_okP [(95, 0, s_sNodeOk)] [(45, ⟨Int,intA⟩)] false (fun x => [(3, lDs x)]) Tryz.func54 rfl (by decide) ⟨sNodeOk_ok, trivial⟩ (fun (x : List Nd × Int) => (∀ (y : Unit), True → (∀ (x : Int), True ∧ True) ∧ True ∧ True ∧ True) ∧ eA (lDs x) [nds x.1, .int .i64 x.2, oints [], .int .i64 (0 : Int)] ∧ ∀ (i : Int), (0 : Int) ≤ i ∧ i ≤ x.2 + (1 : Int) → bcase (decide (i ≤ x.2)) (bcase (decide (i < (↑(List.length x.1) : Int))) ((cA s_sNodeOk [nds x.1, .int .i64 i] fun x_1 y => bcase (!nodeOk x_1.1 x_1.2) (eA (lDsJ x i) [nds x.1, .int .i64 x.2, oints (sds x.1 (Int.toNat i)), .int .i64 i, .int .i64 (0 : Int)]) (bcase (decide (i > (0 : Int))) (inR IntKind.i64 (i - (1 : Int)) ∧ ((0 : Int) ≤ i - (1 : Int) ∧ i - (1 : Int) < (↑(List.length (sds x.1 (Int.toNat i))) : Int)) ∧ Int.toNat (i - (1 : Int)) < List.length (sds x.1 (Int.toNat i)) ∧ ∀ (x_2 : Int), (sds x.1 (Int.toNat i))[Int.toNat (i - (1 : Int))]? = some x_2 → bcase (x_2 == (0 : Int)) (eA (lDsJ x i) [nds x.1, .int .i64 x.2, oints (sds x.1 (Int.toNat i)), .int .i64 i, .int .i64 (0 : Int)]) (eA (lDsJ x i) [nds x.1, .int .i64 x.2, oints (sds x.1 (Int.toNat i)), .int .i64 i, .int .i64 (1 : Int)])) (eA (lDsJ x i) [nds x.1, .int .i64 x.2, oints (sds x.1 (Int.toNat i)), .int .i64 i, .int .i64 (1 : Int)]))) ∧ ∀ (i_1 : Unit), True → eA (lDs2 x i) [nds x.1, .int .i64 x.2, oints (sds x.1 (Int.toNat i)), .int .i64 i, .int .i64 (if okB x.1 i = true then (1 : Int) else (0 : Int)), .int .i64 (0 : Int)] ∧ ∀ (i_2 : Int × Int), eI x.1 i i_2.1 i_2.2 → bcase (decide (i_2.2 > (0 : Int))) (((0 : Int) ≤ i ∧ i < (↑(List.length x.1) : Int)) ∧ ∀ (e : Nd), x.1[Int.toNat i]? = some e → bcase (decide (i_2.1 < (↑(List.length e.kids) : Int))) (((0 : Int) ≤ i ∧ i < (↑(List.length x.1) : Int)) ∧ ∀ (e : Nd), x.1[Int.toNat i]? = some e → ((0 : Int) ≤ i_2.1 ∧ i_2.1 < (↑(List.length e.kids) : Int)) ∧ ∀ (e_1 : Int), e.kids[Int.toNat i_2.1]? = some e_1 → ((0 : Int) ≤ e_1 ∧ e_1 < (↑(List.length (sds x.1 (Int.toNat i))) : Int)) ∧ Int.toNat e_1 < List.length (sds x.1 (Int.toNat i)) ∧ ∀ (x_1 : Int), (sds x.1 (Int.toNat i))[Int.toNat e_1]? = some x_1 → inR IntKind.i64 (x_1 + (1 : Int)) ∧ bcase (decide (x_1 + (1 : Int) > i_2.2)) (((0 : Int) ≤ i ∧ i < (↑(List.length x.1) : Int)) ∧ ∀ (e : Nd), x.1[Int.toNat i]? = some e → ((0 : Int) ≤ i_2.1 ∧ i_2.1 < (↑(List.length e.kids) : Int)) ∧ ∀ (e_2 : Int), e.kids[Int.toNat i_2.1]? = some e_2 → ((0 : Int) ≤ e_2 ∧ e_2 < (↑(List.length (sds x.1 (Int.toNat i))) : Int)) ∧ Int.toNat e_2 < List.length (sds x.1 (Int.toNat i)) ∧ ∀ (x_2 : Int), (sds x.1 (Int.toNat i))[Int.toNat e_2]? = some x_2 → inR IntKind.i64 (x_2 + (1 : Int)) ∧ inR IntKind.i64 (i_2.1 + (1 : Int)) ∧ eN (lDs2 x i) i_2 [nds x.1, .int .i64 x.2, oints (sds x.1 (Int.toNat i)), .int .i64 i, .int .i64 (x_2 + (1 : Int)), .int .i64 (i_2.1 + (1 : Int))]) (inR IntKind.i64 (i_2.1 + (1 : Int)) ∧ eN (lDs2 x i) i_2 [nds x.1, .int .i64 x.2, oints (sds x.1 (Int.toNat i)), .int .i64 i, .int .i64 i_2.2, .int .i64 (i_2.1 + (1 : Int))])) (bcase (decide (i_2.2 > (14 : Int))) (∃ (x_1 : Int), (0 : Int) = x_1 ∧ ∃ (zs : List Int), oints [x_1] = oints zs ∧ leafy intA ∧ room (List.length (sds x.1 (Int.toNat i)) + List.length zs) (8 : Nat) ∧ inR IntKind.i64 (i + (1 : Int)) ∧ eN (lDs x) i [nds x.1, .int .i64 x.2, oints (sds x.1 (Int.toNat i) ++ zs), .int .i64 (i + (1 : Int))]) (∃ (x_1 : Int), i_2.2 = x_1 ∧ ∃ (zs : List Int), oints [x_1] = oints zs ∧ leafy intA ∧ room (List.length (sds x.1 (Int.toNat i)) + List.length zs) (8 : Nat) ∧ inR IntKind.i64 (i + (1 : Int)) ∧ eN (lDs x) i [nds x.1, .int .i64 x.2, oints (sds x.1 (Int.toNat i) ++ zs), .int .i64 (i + (1 : Int))]))) (bcase (decide (i_2.2 > (14 : Int))) (∃ (x_1 : Int), (0 : Int) = x_1 ∧ ∃ (zs : List Int), oints [x_1] = oints zs ∧ leafy intA ∧ room (List.length (sds x.1 (Int.toNat i)) + List.length zs) (8 : Nat) ∧ inR IntKind.i64 (i + (1 : Int)) ∧ eN (lDs x) i [nds x.1, .int .i64 x.2, oints (sds x.1 (Int.toNat i) ++ zs), .int .i64 (i + (1 : Int))]) (∃ (x_1 : Int), i_2.2 = x_1 ∧ ∃ (zs : List Int), oints [x_1] = oints zs ∧ leafy intA ∧ room (List.length (sds x.1 (Int.toNat i)) + List.length zs) (8 : Nat) ∧ inR IntKind.i64 (i + (1 : Int)) ∧ eN (lDs x) i [nds x.1, .int .i64 x.2, oints (sds x.1 (Int.toNat i) ++ zs), .int .i64 (i + (1 : Int))]))) (rA s_l05Deeps x [oints (sds x.1 (Int.toNat i)), .top, .top])) (rA s_l05Deeps x [oints (sds x.1 (Int.toNat i)), .top, .top])) (fun x => by kernel_rfl) fun (x : List Nd × Int) (hx : okNds x.1 ∧ x.1.length ≤ 2 ^ 30 ∧ isNd x.1 x.2 = true) => (by
  dsimp only [cA, eA, eN, lDs, lDs2, lDsJ, ndA_e, nds, oints, rA, s_l05Deeps, s_sNodeOk, hndL, hnd1, mvL, lnL, mvE, lnE, sndL]
  obtain ⟨h1, h2, h3⟩ := hx; have hl := h1.1; have hn := isNd_iff.1 h3
  (repeat' first | (with_reducible first | rfl | exact True.intro | apply inR_i64 | apply And.intro | ((first | apply bcase_dec | apply bcase_bne | apply bcase_beq | apply bcase_not) <;> intro _)) | (apply bcase_intro <;> intro _) | apply sl_eq | refine ex_flip () ?_ ?_ | ((first | apply ex_flip10 | apply ex_flip9 | apply ex_flip8 | apply ex_flip7 | apply ex_flip6 | apply ex_flip5 | apply ex_flip4 | apply ex_flip3 | apply ex_flip2) <;> try dsimp only) | apply ex_flip | (refine Prod.forall.2 ?_; intro _; try dsimp only) | (intro _; try dsimp only))
  all_goals first
    | rfl
    | omega
    | exact okB0a (by assumption)
    | exact okB0b (by assumption) (by assumption) (by assumption)
    | exact okB1a (by assumption) (by omega) (by assumption)
    | exact okB1b (by assumption) (by assumption) (by assumption) (by assumption)
    | exact eI_init
    | (rw [sds_len]; omega)
    | skip
  all_goals try (repeat (rename x.1[Int.toNat _]? = some _ => hq; revert hq; rename x.1[Int.toNat _]? = some _ => hr; intro hq; rw [hr] at hq; cases hq))
  all_goals try (repeat (rename (Nd.kids _)[Int.toNat _]? = some _ => hq; revert hq; rename (Nd.kids _)[Int.toNat _]? = some _ => hr; intro hq; rw [hr] at hq; cases hq))
  all_goals try (rename (sds x.1 _)[Int.toNat _]? = some _ => hq; revert hq; rename (sds x.1 _)[Int.toNat _]? = some _ => hr2; intro hq; have hqq := hr2.symm.trans hq; simp only [Option.some.injEq] at hqq; subst hqq)
  all_goals try (have hke := eI_kid (by assumption) (by assumption) (by assumption) (by assumption))
  all_goals try (have hle := eI_len (by assumption) (by assumption) (by assumption))
  all_goals try (have hve := eI_v (by assumption))
  all_goals try (have hse := (show eI _ _ _ _ by assumption).2.1)
  all_goals first
    | omega
    | (rw [sds_len]; omega)
    | ((try simp only [i64max]); omega)
    | exact eI_next (by assumption) (by assumption) (by assumption) (by assumption) (by assumption) (by omega)
    | (rw [← eI_done (by omega) (by assumption) (by assumption) (by assumption) (by assumption)]; simp [*]; done)
    | exact eI_zero (by omega) (by assumption) (by assumption)
    | (rw [ndAt_of (by assumption)]; omega)
    | (congr 1; omega)
    | (simp only [room, sds_len, List.length_cons, List.length_nil]; omega)
    | skip)
def s_sDeepOf  : Sig := { X := List Nd × Int, args := fun x => [nds x.1, .int .i64 x.2], pre := fun x => okNds x.1 ∧ x.1.length ≤ 2 ^ 30, Y := Unit, post := fun x y => True, res := fun x y => .int .i64 (deepOf x.1 x.2), outs := fun x y => [.top, .top], keep := false }
theorem sDeepOf_ok  : Contract G Tryz.prog 30 s_sDeepOf :=
  vcFun_okP [(53, 0, s_l01In), (54, 0, s_l05Deeps)] [] false (fun x => []) Tryz.func30 rfl (by decide) ⟨l01In_ok, l05Deeps_ok, trivial⟩ (fun (x : List Nd × Int) => (∀ (y : Unit), True → True ∧ True ∧ True ∧ True) ∧ inR IntKind.i64 ((↑(List.length x.1) : Int) - (1 : Int)) ∧ cA s_l01In [.int .i64 x.2, .int .i64 (0 : Int), .int .i64 ((↑(List.length x.1) : Int) - (1 : Int))] fun x_1 y => bcase (!inn x_1.1 x_1.2.1 x_1.2.2) (rA s_sDeepOf x [.int .i64 (0 : Int), .top, .top]) (cA s_l05Deeps [nds x.1, .int .i64 x.2] fun x_2 y => ((0 : Int) ≤ x.2 ∧ x.2 < (↑(List.length (sds x_2.1 (Int.toNat x_2.2 + (1 : Nat)))) : Int)) ∧ Int.toNat x.2 < List.length (sds x_2.1 (Int.toNat x_2.2 + (1 : Nat))) ∧ ∀ (x_3 : Int), (sds x_2.1 (Int.toNat x_2.2 + (1 : Nat)))[Int.toNat x.2]? = some x_3 → rA s_sDeepOf x [.int .i64 x_3, .top, .top])) (fun x => by kernel_rfl) fun (x : List Nd × Int) (hx : okNds x.1 ∧ x.1.length ≤ 2 ^ 30) => (by
  dsimp only [cA, ndA_e, nds, oints, rA, s_l01In, s_l05Deeps, s_sDeepOf, hndL, hnd1, mvL, lnL, mvE, lnE]
  obtain ⟨h1, h2⟩ := hx; have hl := h1.1
  (repeat' first | (with_reducible first | rfl | exact True.intro | apply inR_i64 | apply And.intro | ((first | apply bcase_dec | apply bcase_bne | apply bcase_beq | apply bcase_not) <;> intro _)) | (apply bcase_intro <;> intro _) | apply sl_eq | refine ex_flip () ?_ ?_ | ((first | apply ex_flip10 | apply ex_flip9 | apply ex_flip8 | apply ex_flip7 | apply ex_flip6 | apply ex_flip5 | apply ex_flip4 | apply ex_flip3 | apply ex_flip2) <;> try dsimp only) | apply ex_flip | (refine Prod.forall.2 ?_; intro _; try dsimp only) | (intro _; try dsimp only))
  all_goals first
    | exact h1
    | exact h2
    | ((try simp only [i64max]); omega)
    | (rw [isNd_inn] at *; exact dp_no (by assumption))
    | (have hh := (show inn x.2 0 (x.1.length - 1) = true by assumption); rw [isNd_inn] at hh; have := isNd_iff.1 hh; first | exact hh | omega | exact sds_deepOf hh (by assumption) | (rw [sds_len]; omega))
    | skip)
theorem tE_at2 {ns : List Nd} {i v : Int} (hv : (cnt ns.length (allKids ns))[i.toNat]? = some v) (h0 : 0 ≤ i) : ((allKids ns).count i : Int) = v := by
  have h : i.toNat < ns.length := by have := (getE hv).1; rwa [cnt_len] at this
  rw [cnt_at h] at hv
  have e2 : ((i.toNat : Nat) : Int) = i := by omega
  rw [e2] at hv; exact Option.some.inj hv
theorem tE_next2 {ns : List Nd} {i v : Int} (h : tE ns i) (hl : i + 1 < (ns.length : Int)) (hv : (cnt ns.length (allKids ns))[i.toNat]? = some v) (h1 : v = 1) : tE ns (i + 1) := by
  have := tE_at2 hv h.1
  refine ⟨by have := h.1; omega, by omega, fun c hc => ?_⟩
  by_cases e : (c : Int) < i
  · exact h.2.2 c e
  · have := h.1
    obtain rfl : i = (c : Int) := by omega
    omega
theorem yI_kid {ns : List Nd} {i j c : Int} {y : Nd} (h : tI ns) (hy : ns[i.toNat]? = some y) (hc : y.kids[j.toNat]? = some c) : 0 ≤ c ∧ c < ns.length := (tI_kids h hy).2 c (memE hc)
theorem yI_len {ns : List Nd} {i : Int} {y : Nd} (h : tI ns) (hy : ns[i.toNat]? = some y) : y.kids.length ≤ 12 := (tI_kids h hy).1
theorem yk_next {ns : List Nd} {i j c : Int} {y : Nd} (h0 : 0 ≤ j) (hy : ns[i.toNat]? = some y) (hc : y.kids[j.toNat]? = some c) : tk ns i (j + 1) = tk ns i j ++ [c] := tk_next h0 (by rw [ndAt_of hy]; exact hc)
theorem yk_done {ns : List Nd} {i j : Int} {y : Nd} (h0 : 0 ≤ i) (hy : ns[i.toNat]? = some y) (hl : ¬ j < y.kids.length) : tk ns i j = allKids (ns.take (i + 1).toNat) := tk_done h0 hy (by rw [ndAt_of hy]; exact hl)
def lsTree2 (x : List Nd) (o : Int) : LS := {
  ι := Int, inv := fun j => 0 ≤ j ∧ j ≤ (ndAt x o).kids.length,
  regs := fun j => [(0, nds x), (3, .int .i64 x.length), (4, oints (cnt x.length (tk x o j))), (5, .int .i64 o), (6, .int .i64 j)], als := [], meas := fun j => (ndAt x o).kids.length - j.toNat }
def lsTree (x : List Nd) : LS := {
  ι := Int, inv := fun i => 0 ≤ i ∧ i ≤ x.length,
  regs := fun i => [(0, nds x), (3, .int .i64 x.length), (4, oints (cnt x.length (allKids (x.take i.toNat)))), (5, .int .i64 i)], als := [], meas := fun i => x.length - i.toNat,
  sub := fun i => [(9, lsTree2 x i)] }
def lsTree3 (x : List Nd) : LS := {
  ι := Int, inv := tE x,
  regs := fun i => [(3, .int .i64 x.length), (4, oints (cnt x.length (allKids x))), (7, .int .i64 i)], als := [], meas := fun i => x.length - i.toNat }
def s_sTreeOk  : Sig := { X := List Nd, args := fun x => [nds x], pre := fun x => okNds x ∧ x.length ≤ 2 ^ 30, Y := Unit, post := fun x y => True, res := fun x y => .bool (treeOk x), outs := fun x y => [.top], keep := false }
theorem sTreeOk_ok  : Contract G Tryz.prog 44 s_sTreeOk :=
  vcFun_okP [(53, 0, s_l01In), (30, 0, s_sDeepOf)] [(45, ⟨Int,intA⟩)] false (fun x => [(6, lsTree x), (13, lsTree3 x)]) Tryz.func44 rfl (by decide) ⟨l01In_ok, sDeepOf_ok, trivial⟩ (fun (x : List Nd) => (∀ (y : Unit), True → True ∧ True ∧ True) ∧ cA s_l01In [.int .i64 (↑(List.length x) : Int), .int .i64 (1 : Int), .int .i64 (300 : Int)] fun x_1 y => bcase (!inn x_1.1 x_1.2.1 x_1.2.2) (rA s_sTreeOk x [.bool false, .top]) (inR IntKind.i64 ((↑(List.length x) : Int) - (1 : Int)) ∧ ((0 : Int) ≤ (↑(List.length x) : Int) - (1 : Int) ∧ (↑(List.length x) : Int) - (1 : Int) < (↑(List.length x) : Int)) ∧ ∀ (e : Nd), x[Int.toNat ((↑(List.length x) : Int) - (1 : Int))]? = some e → bcase (e.kind != (22 : Int)) (rA s_sTreeOk x [.bool false, .top]) (inR IntKind.i64 ((↑(List.length x) : Int) - (1 : Int)) ∧ cA s_sDeepOf [nds x, .int .i64 ((↑(List.length x) : Int) - (1 : Int))] fun x_2 y => bcase (deepOf x_2.1 x_2.2 == (0 : Int)) (rA s_sTreeOk x [.bool false, .top]) (((0 : Int) ≤ (↑(List.length x) : Int) ∧ (↑(List.length x) : Int) ≤ (↑(List.length x) : Int) ∧ (↑(8 : Nat) : Int) * (↑(List.length x) : Int) ≤ (2 : Int) ^ (46 : Nat) ∧ (↑(List.length x) : Int) ≤ (2 : Int) ^ (46 : Nat)) ∧ ∃ (x_3 : Int), (0 : Int) = x_3 ∧ eA (lsTree x) [nds x, .int .i64 (↑(List.length x) : Int), oints (List.replicate (Int.toNat (↑(List.length x) : Int)) x_3), .int .i64 (0 : Int)] ∧ ∀ (i : Int), (0 : Int) ≤ i ∧ i ≤ (↑(List.length x) : Int) → bcase (decide (i < (↑(List.length x) : Int))) (eA (lsTree2 x i) [nds x, .int .i64 (↑(List.length x) : Int), oints (cnt (List.length x) (allKids (List.take (Int.toNat i) x))), .int .i64 i, .int .i64 (0 : Int)] ∧ ∀ (i_1 : Int), (0 : Int) ≤ i_1 ∧ i_1 ≤ (↑(List.length (ndAt x i).kids) : Int) → ((0 : Int) ≤ i ∧ i < (↑(List.length x) : Int)) ∧ ∀ (e : Nd), x[Int.toNat i]? = some e → bcase (decide (i_1 < (↑(List.length e.kids) : Int))) (((0 : Int) ≤ i ∧ i < (↑(List.length x) : Int)) ∧ ∀ (e : Nd), x[Int.toNat i]? = some e → ((0 : Int) ≤ i_1 ∧ i_1 < (↑(List.length e.kids) : Int)) ∧ ∀ (e_1 : Int), e.kids[Int.toNat i_1]? = some e_1 → ((0 : Int) ≤ e_1 ∧ e_1 < (↑(List.length (cnt (List.length x) (tk x i i_1))) : Int)) ∧ Int.toNat e_1 < List.length (cnt (List.length x) (tk x i i_1)) ∧ ∀ (x_4 : Int), (cnt (List.length x) (tk x i i_1))[Int.toNat e_1]? = some x_4 → inR IntKind.i64 (x_4 + (1 : Int)) ∧ ((0 : Int) ≤ e_1 ∧ e_1 < (↑(List.length (cnt (List.length x) (tk x i i_1))) : Int)) ∧ Int.toNat e_1 < List.length (cnt (List.length x) (tk x i i_1)) ∧ ∀ (x_5 : Int), (cnt (List.length x) (tk x i i_1))[Int.toNat e_1]? = some x_5 → ∃ (x' : Int), ((@List.nil AV) = [] ∧ (@List.nil AV) = []) ∧ x_4 + (1 : Int) = x' ∧ inR IntKind.i64 (i_1 + (1 : Int)) ∧ eN (lsTree2 x i) i_1 [nds x, .int .i64 (↑(List.length x) : Int), oints (List.set (cnt (List.length x) (tk x i i_1)) (Int.toNat e_1) x'), .int .i64 i, .int .i64 (i_1 + (1 : Int))]) (inR IntKind.i64 (i + (1 : Int)) ∧ eN (lsTree x) i [nds x, .int .i64 (↑(List.length x) : Int), oints (cnt (List.length x) (tk x i i_1)), .int .i64 (i + (1 : Int))])) (eA (lsTree3 x) [.int .i64 (↑(List.length x) : Int), oints (cnt (List.length x) (allKids (List.take (Int.toNat i) x))), .int .i64 (0 : Int)] ∧ ∀ (i : Int), tE x i → inR IntKind.i64 (i + (1 : Int)) ∧ bcase (decide (i + (1 : Int) < (↑(List.length x) : Int))) (((0 : Int) ≤ i ∧ i < (↑(List.length (cnt (List.length x) (allKids x))) : Int)) ∧ Int.toNat i < List.length (cnt (List.length x) (allKids x)) ∧ ∀ (x_4 : Int), (cnt (List.length x) (allKids x))[Int.toNat i]? = some x_4 → bcase (x_4 != (1 : Int)) (rA s_sTreeOk x [.bool false, .top]) (inR IntKind.i64 (i + (1 : Int)) ∧ eN (lsTree3 x) i [.int .i64 (↑(List.length x) : Int), oints (cnt (List.length x) (allKids x)), .int .i64 (i + (1 : Int))])) (rA s_sTreeOk x [.bool true, .top])))))) (fun x => by kernel_rfl) fun (x : List Nd) (hx : okNds x ∧ x.length ≤ 2 ^ 30) => (by
  dsimp only [cA, eA, eN, lsTree, lsTree2, lsTree3, ndA_e, nds, oints, rA, s_l01In, s_sDeepOf, s_sTreeOk, hndL, hnd1, mvL, lnL, mvE, lnE, sndL]
  obtain ⟨h1, h2⟩ := hx; have hl := h1.1
  (repeat' first | (with_reducible first | rfl | exact True.intro | apply inR_i64 | apply And.intro | ((first | apply bcase_dec | apply bcase_bne | apply bcase_beq | apply bcase_not) <;> intro _)) | (apply bcase_intro <;> intro _) | apply sl_eq | refine ex_flip () ?_ ?_ | ((first | apply ex_flip10 | apply ex_flip9 | apply ex_flip8 | apply ex_flip7 | apply ex_flip6 | apply ex_flip5 | apply ex_flip4 | apply ex_flip3 | apply ex_flip2) <;> try dsimp only) | apply ex_flip | (refine Prod.forall.2 ?_; intro _; try dsimp only) | (intro _; try dsimp only))
  all_goals try (have t1 := inn_iff.1 (show inn x.length 1 300 = true by assumption))
  all_goals try (have t0 := tI_of (by assumption) (by assumption) (by assumption) (by assumption))
  all_goals try (repeat (rename x[Int.toNat _]? = some _ => hq; revert hq; rename x[Int.toNat _]? = some _ => hr; intro hq; rw [hr] at hq; cases hq))
  all_goals try (repeat (rename (Nd.kids _)[Int.toNat _]? = some _ => hq; revert hq; rename (Nd.kids _)[Int.toNat _]? = some _ => hr; intro hq; rw [hr] at hq; cases hq))
  all_goals try (simp only [ndAt_of (show x[Int.toNat _]? = some _ by assumption)] at *)
  all_goals first
    | rfl
    | exact treeOk_not (tI_inn (by assumption))
    | exact treeOk_not (tI_kind (by assumption) (by assumption))
    | exact treeOk_not (fun h => h.2.2.2 (by assumption))
    | exact cnt_nil
    | (rw [tk_init]; done)
    | (have := yI_kid (by assumption) (by assumption) (show (Nd.kids _)[Int.toNat _]? = some _ by assumption); (try rw [cnt_len]); omega)
    | (rw [yk_next (by omega) (by assumption) (by assumption)]; exact cnt_inc (yI_kid (by assumption) (by assumption) (by assumption)).1 (yI_kid (by assumption) (by assumption) (by assumption)).2 (by assumption))
    | (rw [yk_done (by omega) (by assumption) (by assumption)]; done)
    | (rw [tk_full (by assumption)]; done)
    | (have := tk_v (by assumption) (by assumption) (by assumption); omega)
    | exact treeOk_yes (by assumption) (by assumption) (by omega)
    | exact treeOk_no (tE_at2 (by assumption) (‹tE _ _›.1)) (‹tE _ _›.1) (by omega) (by assumption)
    | exact tE_next2 (by assumption) (by assumption) (by assumption) (by assumption)
    | exact ⟨by omega, by omega, fun c hc => by omega⟩
    | ((try simp only [i64max, room, List.length_replicate, cnt_len] at *); omega)
    | (have := yI_len (by assumption) (by assumption); (try simp only [i64max] at *); omega)
    | (have hte := (show tE x _ by assumption); have := hte.1; have := hte.2.1; (try rw [cnt_len]); (try simp only [i64max] at *); omega)
    | skip)
end Go.My
end
section
set_option linter.unusedVariables false
set_option linter.unusedSimpArgs false
namespace Go.My
open Go.Eng
end Go.My
end
section
set_option linter.unusedVariables false
set_option linter.unusedSimpArgs false
namespace Go.My
open Go.Eng
end Go.My
end
section
set_option linter.unusedVariables false
set_option linter.unusedSimpArgs false
namespace Go.My
open Go.Eng
structure Sg where
  kind : Int
  text : List UInt8
  pos : Int
  blank : Bool
def sgA : Sg → List AV := fun s => [.int .i64 s.kind, .str s.text, .int .i64 s.pos, .bool s.blank]
theorem sgA_e (s : Sg) : sgA s = [.int .i64 s.kind, .str s.text, .int .i64 s.pos, .bool s.blank] := rfl
def sgs (l : List Sg) : AV := .sl false 0 4 Sg sgA l
def osgs (l : List Sg) : AV := .sl true 0 4 Sg sgA l
end Go.My
end
section
set_option linter.unusedVariables false
set_option linter.unusedSimpArgs false
namespace Go.My
open Go.Eng
def sgnF (t : List UInt8) : Nat → Int → Int → Option (List Sg)
  | 0, _, _ => none
  | n + 1, at_, br => match t[at_.toNat]? with
    | none => some []
    | some c => if c.toNat = 32 then sgnF t n (at_ + 1) br
      else if c.toNat = 10 then sgnF t n (at_ + 1) (br + 1)
      else if (sgAt (t.drop at_.toNat)).ok then (sgnF t n (at_ + (sgAt (t.drop at_.toNat)).size) 0).map (⟨(sgAt (t.drop at_.toNat)).kind, (sgAt (t.drop at_.toNat)).text, at_, decide (br > 1)⟩ :: ·)
      else none
def sgnsOf (t : List UInt8) : Option (List Sg) := if 3000 < t.length then none else sgnF t (t.length + 1) 0 0
structure Ps where
  pos : Int
  deep : Int
  nodes : List Nd
abbrev PR := Option (Int × Ps)
abbrev PL := Option (List Int × Ps)
def sg00 : Sg := ⟨0, [], 0, false⟩
def sgO (sg : List Sg) (i : Int) : Sg := sg.getD i.toNat sg00
def isT (sg : List Sg) (s : Ps) (k : Int) (t : List UInt8) : Bool := decide ((sgO sg s.pos).kind = k) && ((sgO sg s.pos).text == t)
def isM (sg : List Sg) (s : Ps) (t : List UInt8) : Bool := isT sg s 4 t
def isW (sg : List Sg) (s : Ps) (t : List UInt8) : Bool := isT sg s 1 t
def nmAt (sg : List Sg) (i : Int) : Bool := decide ((sgO sg i).kind = 1) && !kw (sgO sg i).text
def adv (s : Ps) : Ps := ⟨s.pos + 1, s.deep, s.nodes⟩
def dp (s : Ps) (d : Int) : Ps := ⟨s.pos, s.deep + d, s.nodes⟩
def wantM (sg : List Sg) (t : List UInt8) (s : Ps) : Option Ps := if isM sg s t then some (adv s) else none
def putR (x : Nd) (s : Ps) : PR := if 300 ≤ s.nodes.length then none else some (s.nodes.length, ⟨s.pos, s.deep, s.nodes ++ [x]⟩)
def advR (r : PR) : PR := r.map fun p => (p.1, adv p.2)
def leafR (sg : List Sg) (k : Int) (b : Bool) (s : Ps) : PR := advR (putR ⟨k, (sgO sg s.pos).text, [], b⟩ s)
def nameR (sg : List Sg) (s : Ps) : PR := if nmAt sg s.pos then leafR sg 1 false s else none
def nameT (sg : List Sg) (s : Ps) : Option (List UInt8 × Ps) := if nmAt sg s.pos then some ((sgO sg s.pos).text, adv s) else none
def closeR (sg : List Sg) (m : List UInt8) (x : Nd) (s : Ps) : PR := if isM sg s m then advR (putR x s) else none
def listR (sg : List Sg) (one : Ps → PR) (m : List UInt8) : Nat → List Int → Ps → PL
  | 0, _, _ => none
  | n + 1, ks, s => if isM sg s m then some (ks, s) else (one s).bind fun p => if isM sg p.2 [44] then listR sg one m n (ks ++ [p.1]) (adv p.2) else some (ks ++ [p.1], p.2)
def arrF (sg : List Sg) : Nat → Int → Int
  | 0, i => i
  | n + 1, i => if nmAt sg i then (if (sgO sg (i + 1)).text = [44] then arrF sg n (i + 2) else i + 1) else i
def arrow (sg : List Sg) (s : Ps) : Bool := ((sgO sg (arrF sg (sg.length + 1) (s.pos + 1))).text == [41]) && ((sgO sg (arrF sg (sg.length + 1) (s.pos + 1) + 1)).text == [61, 62])
def marksAt (l : Nat) : List (List UInt8) := match l with
  | 0 => [[124, 124]]
  | 1 => [[38, 38]]
  | 2 => [[61, 61]]
  | 3 => [[60]]
  | 4 => [[43], [45]]
  | _ => [[42]]
def chMark (sg : List Sg) (l : Nat) (s : Ps) : List UInt8 := ((marksAt l).find? fun m => isM sg s m).getD []
def chnR (sg : List Sg) (l : Nat) (one : Ps → PR) : Nat → List UInt8 → List Int → Ps → PR
  | 0, _, _, _ => none
  | n + 1, t, ks, s =>
    if t ≠ [] ∧ chMark sg l s ≠ t then (putR ⟨7, t, ks, false⟩ s).bind fun p => chnR sg l one n [] [p.1] p.2
    else if chMark sg l s = [] then some (ks.headD 0, s)
    else (one (adv s)).bind fun p => chnR sg l one n (chMark sg l s) (ks ++ [p.1]) p.2
def callR (sg : List Sg) (val : Ps → PR) (k : Int) (s : Ps) : PR := (wantM sg [40] s).bind fun s => (listR sg val [41] (sg.length + 1) [k] s).bind fun p => closeR sg [41] ⟨5, [], p.1, false⟩ p.2
def endR (sg : List Sg) (val : Ps → PR) : Nat → Int → Ps → PR
  | 0, _, _ => none
  | n + 1, k, s =>
    if isM sg s [40] then (callR sg val k s).bind fun p => endR sg val n p.1 p.2
    else if isM sg s [46] then (if nmAt sg (s.pos + 1) then (advR (putR ⟨6, (sgO sg (s.pos + 1)).text, [k], false⟩ (adv s))).bind fun p => endR sg val n p.1 p.2 else none)
    else some (k, s)
def casR (sg : List Sg) (val : Ps → PR) : Nat → List Int → Ps → PL
  | 0, _, _ => none
  | n + 1, ks, s => if isM sg s [46, 46] then (nameR sg (adv s)).bind fun p => (callR sg val p.1 p.2).bind fun q => casR sg val n (ks ++ [q.1]) q.2 else some (ks, s)
inductive NT where
  | value | pick | chain (l : Nat) | fin | base
def pE (sg : List Sg) : Nat → NT → Ps → PR
  | 0, _, _ => none
  | n + 1, .value, s => (pE sg n .pick s).bind fun p => if isM sg p.2 [46, 46] then (casR sg (pE sg n .value) (sg.length + 1) [p.1] p.2).bind fun q => putR ⟨10, [], q.1, false⟩ q.2 else some p
  | n + 1, .pick, s => if 20 ≤ s.deep then none else (pE sg n (.chain 0) (dp s 1)).bind fun p =>
      if isM sg p.2 [63] then (pE sg n .pick (adv p.2)).bind fun a => (wantM sg [58] a.2).bind fun s1 => (pE sg n .pick s1).bind fun b => (putR ⟨8, [], [p.1, a.1, b.1], false⟩ b.2).map fun q => (q.1, dp q.2 (-1))
      else some (p.1, dp p.2 (-1))
  | n + 1, .chain l, s => if l = 6 then pE sg n .fin s else (pE sg n (.chain (l + 1)) s).bind fun p => chnR sg l (pE sg n (.chain (l + 1))) (2 * sg.length + 4) [] [p.1] p.2
  | n + 1, .fin, s => (pE sg n .base s).bind fun p => endR sg (pE sg n .value) (sg.length + 1) p.1 p.2
  | n + 1, .base, s =>
    if (sgO sg s.pos).kind = 1 then nameR sg s
    else if (sgO sg s.pos).kind = 2 then leafR sg 2 false s
    else if (sgO sg s.pos).kind = 3 then leafR sg 3 false s
    else if isM sg s [91] then (listR sg (pE sg n .value) [93] (sg.length + 1) [] (adv s)).bind fun p => closeR sg [93] ⟨4, [], p.1, false⟩ p.2
    else if isM sg s [40] && arrow sg s then (listR sg (nameR sg) [41] (sg.length + 1) [] (adv s)).bind fun p => (wantM sg [41] p.2).bind fun s1 => (wantM sg [61, 62] s1).bind fun s2 => (pE sg n .pick s2).bind fun q => putR ⟨9, [], p.1 ++ [q.1], false⟩ q.2
    else if isM sg s [40] then (pE sg n .value (adv s)).bind fun p => closeR sg [41] ⟨11, [], [p.1], false⟩ p.2
    else none
def peN : Nat := 40000
def valR (sg : List Sg) : Ps → PR := pE sg peN .value
def varR (sg : List Sg) (b : Bool) (s : Ps) : PR := (nameT sg s).bind fun p =>
  if isM sg p.2 [61] then (valR sg (adv p.2)).bind fun q => closeR sg [59] ⟨12, p.1, [q.1], b⟩ q.2 else closeR sg [59] ⟨12, p.1, [], b⟩ p.2
def condR (sg : List Sg) (s : Ps) : PR := (wantM sg [40] s).bind fun s1 => (valR sg s1).bind fun p => (wantM sg [41] p.2).map fun s2 => (p.1, s2)
def manyR (sg : List Sg) (one : Bool → Ps → PR) (m : List UInt8) : Nat → List Int → Ps → PL
  | 0, _, _ => none
  | n + 1, ks, s => if isM sg s m then some (ks, s) else (one ((sgO sg s.pos).blank && decide (0 < ks.length)) s).bind fun p => manyR sg one m n (ks ++ [p.1]) p.2
def blkR (sg : List Sg) (one : Bool → Ps → PR) (s : Ps) : PR := if 20 ≤ s.deep then none else (wantM sg [123] (dp s 1)).bind fun s1 => (manyR sg one [125] (sg.length + 1) [] s1).bind fun p => (closeR sg [125] ⟨18, [], p.1, false⟩ p.2).map fun q => (q.1, dp q.2 (-1))
def stR (sg : List Sg) : Nat → Bool → Ps → PR
  | 0, _, _ => none
  | n + 1, b, s =>
    if (sgO sg s.pos).kind = 5 then leafR sg 19 b s
    else if isW sg s [118, 97, 114] then varR sg b (adv s)
    else if isW sg s [114, 101, 116, 117, 114, 110] then (if isM sg (adv s) [59] then closeR sg [59] ⟨15, [], [], b⟩ (adv s) else (valR sg (adv s)).bind fun p => closeR sg [59] ⟨15, [], [p.1], b⟩ p.2)
    else if isW sg s [105, 102] then (condR sg (adv s)).bind fun p => (blkR sg (stR sg n) p.2).bind fun q =>
      if isW sg q.2 [101, 108, 115, 101] then (blkR sg (stR sg n) (adv q.2)).bind fun r => putR ⟨16, [], [p.1, q.1, r.1], b⟩ r.2 else putR ⟨16, [], [p.1, q.1], b⟩ q.2
    else if isW sg s [119, 104, 105, 108, 101] then (condR sg (adv s)).bind fun p => (blkR sg (stR sg n) p.2).bind fun q => putR ⟨17, [], [p.1, q.1], b⟩ q.2
    else if nmAt sg s.pos && isM sg (adv s) [61] then (valR sg (adv (adv s))).bind fun p => closeR sg [59] ⟨13, (sgO sg s.pos).text, [p.1], b⟩ p.2
    else (valR sg s).bind fun p => closeR sg [59] ⟨14, [], [p.1], b⟩ p.2
def stN : Nat := 30
def blockR (sg : List Sg) : Ps → PR := blkR sg (stR sg stN)
def methR (sg : List Sg) (b : Bool) (s : Ps) : PR := (nameT sg s).bind fun p => (wantM sg [40] p.2).bind fun s1 => (listR sg (nameR sg) [41] (sg.length + 1) [] s1).bind fun q => (wantM sg [41] q.2).bind fun s2 => (blockR sg s2).bind fun r => putR ⟨20, p.1, q.1 ++ [r.1], b⟩ r.2
def mem0R (sg : List Sg) (b : Bool) (s : Ps) : PR :=
  if (sgO sg s.pos).kind = 5 then leafR sg 19 b s else if isW sg s [118, 97, 114] then varR sg b (adv s) else methR sg b s
def clsR (sg : List Sg) (b : Bool) (s : Ps) : PR := (nameT sg s).bind fun p => (wantM sg [123] p.2).bind fun s1 => (manyR sg (mem0R sg) [125] (sg.length + 1) [] s1).bind fun q => closeR sg [125] ⟨21, p.1, q.1, b⟩ q.2
def memR (sg : List Sg) (b : Bool) (s : Ps) : PR :=
  if (sgO sg s.pos).kind = 5 then leafR sg 19 b s else if isW sg s [118, 97, 114] then varR sg b (adv s) else if isW sg s [99, 108, 97, 115, 115] then clsR sg b (adv s) else methR sg b s
def fileR (sg : List Sg) : Nat → List Int → List (Int × Int) → Ps → Option ((List Int × List (Int × Int)) × Ps)
  | 0, _, _, _ => none
  | n + 1, ks, ms, s => if s.pos < sg.length then (memR sg ((sgO sg s.pos).blank && decide (0 < ks.length)) s).bind fun p => fileR sg n (ks ++ [p.1]) (ms ++ [(s.pos, p.2.pos)]) p.2 else some ((ks, ms), s)
def ps0 : Ps := ⟨0, 0, []⟩
def readR (sg : List Sg) : Option (List (Int × Int) × List Nd) := (fileR sg (sg.length + 1) [] [] ps0).bind fun p => (putR ⟨22, [], p.1.1, false⟩ p.2).bind fun q => if treeOk q.2.nodes then some (p.1.2, q.2.nodes) else none
def readT (t : List UInt8) : Option (List Nd) := (sgnsOf t).bind fun sg => (readR sg).map (·.2)
end Go.My
end
section
set_option linter.unusedVariables false
set_option linter.unusedSimpArgs false
namespace Go.My
open Go.Eng
structure Gs where
  pos : Int
  deep : Int
  bad : Bool
  nodes : List Nd
def nodB (x : Nd) : Prop := x.text.length ≤ 3000 ∧ x.kids.length ≤ 4000
def sgB (sg : List Sg) : Prop := sg.length ≤ 3000 ∧ ∀ e ∈ sg, e.text.length ≤ 3000
def gsOk (sg : List Sg) (g : Gs) : Prop := (0 ≤ g.pos ∧ g.pos ≤ sg.length) ∧ (0 ≤ g.deep ∧ g.deep ≤ 21) ∧ g.nodes.length ≤ 300 ∧ ∀ x ∈ g.nodes, nodB x
def pur (g : Gs) : Option Ps := if g.bad then none else some ⟨g.pos, g.deep, g.nodes⟩
theorem pur_t {g : Gs} (h : g.bad = true) : pur g = none := by simp [pur, h]
theorem pur_f {g : Gs} (h : g.bad = false) : pur g = some ⟨g.pos, g.deep, g.nodes⟩ := by simp [pur, h]
theorem pur_none {g : Gs} : pur g = none ↔ g.bad = true := by
  cases h : g.bad <;> simp [pur, h]
theorem pur_some {g : Gs} {s : Ps} : pur g = some s ↔ g.bad = false ∧ s = ⟨g.pos, g.deep, g.nodes⟩ := by
  cases h : g.bad <;> simp [pur, h, eq_comm]
def stepP (sg : List Sg) (x : Gs) (f : Ps → Option Ps) (y : Gs) : Prop := gsOk sg y ∧ y.deep = x.deep ∧ x.pos ≤ y.pos ∧ pur y = (pur x).bind f
def resP {α : Type} (sg : List Sg) (x : Gs) (f : Ps → Option (α × Ps)) (y : α × Gs) : Prop :=
  gsOk sg y.2 ∧ y.2.deep = x.deep ∧ x.pos ≤ y.2.pos ∧ pur y.2 = ((pur x).bind f).map (·.2) ∧ ∀ p, (pur x).bind f = some p → y.1 = p.1
def nodP {α : Type} (sg : List Sg) (x : Gs) (f : Ps → Option (α × Ps)) (y : α × Gs) : Prop := resP sg x f y ∧ (y.2.bad = false → x.pos < y.2.pos)
def pkG (sg : List Sg) (g : Gs) (n : Int) : Sg := if g.bad = true ∨ (sg.length : Int) ≤ g.pos + n then sg00 else sgO sg (g.pos + n)
theorem sgO_out {sg : List Sg} {i : Int} (h : (sg.length : Int) ≤ i) : sgO sg i = sg00 := by
  unfold sgO; rw [List.getD_eq_getElem?_getD, List.getElem?_eq_none (by omega)]; rfl
theorem sgO_at {sg : List Sg} {i : Int} {e : Sg} (h : sg[i.toNat]? = some e) : sgO sg i = e := by simp [sgO, List.getD, h]
theorem pkG_f {sg : List Sg} {g : Gs} {n : Int} (h : g.bad = false) : pkG sg g n = sgO sg (g.pos + n) := by
  unfold pkG
  split
  · rename_i hh
    rcases hh with hh | hh
    · rw [h] at hh; cases hh
    · exact (sgO_out hh).symm
  · rfl
theorem pkG_t {sg : List Sg} {g : Gs} {n : Int} (h : g.bad = true) : pkG sg g n = sg00 := by unfold pkG; rw [if_pos (.inl h)]
def isG (sg : List Sg) (g : Gs) (k : Int) (t : List UInt8) : Bool := decide ((pkG sg g 0).kind = k) && ((pkG sg g 0).text == t)
def nmG (sg : List Sg) (g : Gs) (n : Int) : Bool := decide ((pkG sg g n).kind = 1) && !kw (pkG sg g n).text
theorem isG_f {sg : List Sg} {g : Gs} {s : Ps} {k : Int} {t : List UInt8} (h : pur g = some s) : isG sg g k t = isT sg s k t := by
  obtain ⟨h1, rfl⟩ := pur_some.1 h
  simp [isG, isT, pkG_f h1]
theorem isG_t {sg : List Sg} {g : Gs} {k : Int} {t : List UInt8} (h : pur g = none) (hk : k ≠ 0) : isG sg g k t = false := by
  simp [isG, pkG_t (pur_none.1 h), sg00, Ne.symm hk]
theorem nmG_f {sg : List Sg} {g : Gs} {s : Ps} {n : Int} (h : pur g = some s) : nmG sg g n = nmAt sg (s.pos + n) := by
  obtain ⟨h1, rfl⟩ := pur_some.1 h
  simp [nmG, nmAt, pkG_f h1]
theorem isG_lt {sg : List Sg} {g : Gs} {k : Int} {t : List UInt8} (h : isG sg g k t = true) (hk : k ≠ 0) : g.bad = false ∧ g.pos < sg.length := by
  unfold isG pkG at h
  split at h
  · simp [sg00, Ne.symm hk] at h
  · rename_i hh
    simp only [Int.add_zero] at hh
    exact ⟨by cases hb : g.bad <;> simp_all, by omega⟩
theorem nmG_lt {sg : List Sg} {g : Gs} {n : Int} (h : nmG sg g n = true) : g.bad = false ∧ g.pos + n < sg.length := by
  unfold nmG pkG at h
  split at h
  · simp [sg00] at h
  · rename_i hh; exact ⟨by cases hb : g.bad <;> simp_all, by omega⟩
end Go.My
end
