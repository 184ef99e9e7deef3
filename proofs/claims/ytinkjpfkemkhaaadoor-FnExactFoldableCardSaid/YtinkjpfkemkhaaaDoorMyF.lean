/- Nodes: right ones, depths, trees: the program's functions. -/
import Derived.Test.YtinkjpfkemkhaaaDoorMyE
set_option linter.unusedVariables false
set_option linter.unusedSimpArgs false
namespace Go.My
open Go.Eng Go.Proofs

def nkI (k : Int) (l : List Int) (i : Int) : Prop := 0 ≤ i ∧ i ≤ l.length ∧ (∀ c ∈ l.take i.toNat, 0 ≤ c ∧ c < k) ∧ (l.take i.toNat).Nodup
theorem nkI_init {k : Int} {l : List Int} : nkI k l 0 := ⟨by omega, by omega, by simp, by simp⟩
theorem nkI_next {k : Int} {l : List Int} {i c : Int} (h : nkI k l i) (hc : l[i.toNat]? = some c) (h1 : ¬ c < 0) (h2 : ¬ c ≥ k) (h3 : (l.take i.toNat).elem c = false) : nkI k l (i + 1) := by
  obtain ⟨ha, hb, hd, he⟩ := h
  have := (getE hc).1
  refine ⟨by omega, by omega, ?_, ?_⟩
  · rw [toNat1 ha, takeE hc]; intro d hd'
    rcases List.mem_append.1 hd' with hd' | hd'
    · exact hd d hd'
    · simp at hd'; subst hd'; omega
  · rw [toNat1 ha, takeE hc, List.nodup_append]
    refine ⟨he, by simp, ?_⟩
    intro a ha' b hb' hab
    simp at hb'; subst hb'; subst hab
    simp at h3; exact h3 ha'
theorem nkI_done {k : Int} {l : List Int} {i : Int} (h : nkI k l i) (hl : ¬ i < l.length) : kidsIn l k = true ∧ l.Nodup := by
  obtain ⟨ha, hb, hd, he⟩ := h
  rw [List.take_of_length_le (by omega)] at hd he
  exact ⟨by simpa [kidsIn] using hd, he⟩
theorem nk_lt {k : Int} {l : List Int} {n : Nat} {c : Int} (hc : l[n]? = some c) (h1 : c < 0) : kidsIn l k = false := by
  rw [Bool.eq_false_iff]; intro h; simp only [kidsIn, List.all_eq_true, Bool.and_eq_true, decide_eq_true_eq] at h
  have := h c (memE hc); omega
theorem nk_ge {k : Int} {l : List Int} {n : Nat} {c : Int} (hc : l[n]? = some c) (h1 : c ≥ k) : kidsIn l k = false := by
  rw [Bool.eq_false_iff]; intro h; simp only [kidsIn, List.all_eq_true, Bool.and_eq_true, decide_eq_true_eq] at h
  have := h c (memE hc); omega
theorem nk_dup {l : List Int} {n : Nat} {c : Int} (hc : l[n]? = some c) (h1 : (l.take n).elem c = true) : ¬ l.Nodup := by
  intro h
  have e : l = l.take n ++ l.drop n := (List.take_append_drop n l).symm
  rw [e, dropE hc, List.nodup_append] at h
  exact h.2.2 c (by simpa using h1) c (by simp) rfl
theorem no_nd {ns : List Nd} {k : Int} (h : isNd ns k = false) : false = nodeOk ns k := by simp [nodeOk, h]
theorem no_of {ns : List Nd} {k : Int} {x : Nd} (hx : ns[k.toNat]? = some x) (h : isNd ns k = true) : nodeOk ns k = nodeOk1 ns k x := by rw [nodeOk, h, ndAt_of hx]; rfl
theorem no_len {ns : List Nd} {k : Int} {x : Nd} (hx : ns[k.toNat]? = some x) (h : isNd ns k = true) (h1 : (x.kids.length : Int) > 12) : false = nodeOk ns k := by
  rw [no_of hx h, nodeOk1, decide_eq_false (by omega)]; rfl
theorem no_text {ns : List Nd} {k : Int} {x : Nd} (hx : ns[k.toNat]? = some x) (h : isNd ns k = true) (h1 : textOk x.kind x.text = false) : false = nodeOk ns k := by
  rw [no_of hx h, nodeOk1, h1]; simp
theorem no_in {ns : List Nd} {k : Int} {x : Nd} (hx : ns[k.toNat]? = some x) (h : isNd ns k = true) (h1 : kidsIn x.kids k = false) : false = nodeOk ns k := by
  rw [no_of hx h, nodeOk1, h1]; simp
theorem no_dup {ns : List Nd} {k : Int} {x : Nd} (hx : ns[k.toNat]? = some x) (h : isNd ns k = true) (h1 : ¬ x.kids.Nodup) : false = nodeOk ns k := by
  rw [no_of hx h, nodeOk1, decide_eq_false h1]; simp
theorem no_yes {ns : List Nd} {k i : Int} {x : Nd} (hx : ns[k.toNat]? = some x) (h : isNd ns k = true) (h1 : (x.kids.length : Int) ≤ 12) (h2 : textOk x.kind x.text = true) (h3 : nkI k x.kids i) (hl : ¬ i < x.kids.length) :
    nodeOk ns k = (kindsOk x.kind ((x.kids.take i.toNat).map (kindAt ns)) && (callsOk ns x && (mayBlank x.kind || !x.blank))) := by
  obtain ⟨ha, hb⟩ := nkI_done h3 hl
  rw [List.take_of_length_le (by have := h3.1; omega), no_of hx h, nodeOk1, h2, ha, decide_eq_true hb, decide_eq_true (by omega)]; simp
theorem nkI_at {k : Int} {l : List Int} {i c n : Int} (h : nkI k l i) (hl : ¬ i < l.length) (hk : k < n) (hc : c ∈ l) : 0 ≤ c ∧ c < n := by
  have := (nkI_done h hl).1
  simp only [kidsIn, List.all_eq_true, Bool.and_eq_true, decide_eq_true_eq] at this
  have := this c hc; omega
theorem kinds_next {ns : List Nd} {l : List Int} {i c : Int} {y : Nd} (h0 : 0 ≤ i) (hc : l[i.toNat]? = some c) (hy : ns[c.toNat]? = some y) : (l.take i.toNat).map (kindAt ns) ++ [y.kind] = (l.take (i + 1).toNat).map (kindAt ns) := by
  rw [toNat1 h0, takeE hc, List.map_append]; simp [kindAt, ndAt_of hy]
def lNode (x : List Nd × Int) : LS := {
  ι := Int, inv := nkI x.2 (ndAt x.1 x.2).kids,
  regs := fun i => [(0, nds x.1), (1, .int .i64 x.2), (5, .box 0 (ndA false (ndAt x.1 x.2))), (6, oints (((ndAt x.1 x.2).kids.take i.toNat).map (kindAt x.1))), (28, ints (ndAt x.1 x.2).kids), (29, .int .i64 (ndAt x.1 x.2).kids.length), (30, .int .i64 i)], als := [], meas := fun i => (ndAt x.1 x.2).kids.length - i.toNat }
def s_iNodeOk  : Sig := { X := List Nd × Int, args := fun x => [nds x.1, .int .i64 x.2], pre := fun x => okNds x.1, Y := Unit, post := fun x y => True, res := fun x y => .bool (nodeOk x.1 x.2), outs := fun x y => [.top, .top], keep := false }
theorem iNodeOk_vc (x : List Nd × Int) : vcFun Go.Proofs.Tryd.prog (Γof [(48, 0, s_isNode), (64, 0, s_textFits), (65, 0, s_hasInt), (66, 0, s_isStep), (67, 0, s_isMember), (68, 0, s_kindsFit), (69, 0, s_callsFit)]) (Eof [(39, ⟨Int,intA⟩)]) false (Lof ([(8,lNode x)])) Go.Proofs.Tryd.f58.ntmps Go.Proofs.Tryd.f58.results.toList (Go.Proofs.Tryd.f58.body.getD .skip) s_iNodeOk x = ((∀ (y : Unit), True → True ∧ True ∧ True ∧ True) ∧ ∃ (x_1 : List Nd × Int), List.length x_1.fst < (4611686018427387904 : Nat) ∧ AV.sl false (0 : Nat) (4 : Nat) Nd (ndA false) x.fst = AV.sl false (0 : Nat) (4 : Nat) Nd (ndA false) x_1.fst ∧ x.snd = x_1.snd ∧ ∀ (y : Unit), True → bcase (!isNd x_1.fst x_1.snd) (∃ (y : Unit), True ∧ false = nodeOk x.fst x.snd ∧ True) (((0 : Int) ≤ x.snd ∧ x.snd < (↑(List.length x.fst) : Int)) ∧ ∀ (e : Nd), x.fst[Int.toNat x.snd]? = some e → bcase (decide ((↑(List.length e.kids) : Int) > (12 : Int))) (∃ (y : Unit), True ∧ false = nodeOk x.fst x.snd ∧ True) (∃ (x_2 : Nd), List.length x_2.text < (4611686018427387904 : Nat) ∧ e.kind = x_2.kind ∧ e.text = x_2.text ∧ AV.sl false (0 : Nat) (1 : Nat) Int intA e.kids = AV.sl false (0 : Nat) (1 : Nat) Int intA x_2.kids ∧ e.blank = x_2.blank ∧ ∀ (y : Unit), True → bcase (!textOk x_2.kind x_2.text) (∃ (y : Unit), True ∧ false = nodeOk x.fst x.snd ∧ True) ((∃ (i : Int), nkI x.snd (ndAt x.fst x.snd).kids i ∧ (AV.sl false (0 : Nat) (4 : Nat) Nd (ndA false) x.fst = AV.sl false (0 : Nat) (4 : Nat) Nd (ndA false) x.fst ∧ x.snd = x.snd ∧ e.kind = (ndAt x.fst x.snd).kind ∧ e.text = (ndAt x.fst x.snd).text ∧ AV.sl false (0 : Nat) (1 : Nat) Int intA e.kids = AV.sl false (0 : Nat) (1 : Nat) Int intA (ndAt x.fst x.snd).kids ∧ e.blank = (ndAt x.fst x.snd).blank ∧ List.map (kindAt x.fst) (List.take (Int.toNat i) (ndAt x.fst x.snd).kids) = [] ∧ AV.sl false (0 : Nat) (1 : Nat) Int intA e.kids = AV.sl false (0 : Nat) (1 : Nat) Int intA (ndAt x.fst x.snd).kids ∧ (↑(List.length e.kids) : Int) = (↑(List.length (ndAt x.fst x.snd).kids) : Int) ∧ (0 : Int) = i ∧ True) ∧ True) ∧ ∀ (i : Int), nkI x.snd (ndAt x.fst x.snd).kids i → bcase (decide (i < (↑(List.length (ndAt x.fst x.snd).kids) : Int))) (((0 : Int) ≤ i ∧ i < (↑(List.length (ndAt x.fst x.snd).kids) : Int)) ∧ ∀ (e : Int), (ndAt x.fst x.snd).kids[Int.toNat i]? = some e → bcase (decide (e < (0 : Int))) (∃ (y : Unit), True ∧ false = nodeOk x.fst x.snd ∧ True) (bcase (decide (e ≥ x.snd)) (∃ (y : Unit), True ∧ false = nodeOk x.fst x.snd ∧ True) (((0 : Int) ≤ (0 : Int) ∧ (0 : Int) ≤ i ∧ i ≤ (↑(List.length (ndAt x.fst x.snd).kids) : Int)) ∧ ∃ (x_3 : List Int × Int), List.length x_3.fst < (4611686018427387904 : Nat) ∧ AV.sl false (0 : Nat) (1 : Nat) Int intA (List.take (Int.toNat i) (ndAt x.fst x.snd).kids) = AV.sl false (0 : Nat) (1 : Nat) Int intA x_3.fst ∧ e = x_3.snd ∧ ∀ (y : Unit), True → bcase (List.elem x_3.snd x_3.fst) (∃ (y : Unit), True ∧ false = nodeOk x.fst x.snd ∧ True) (((0 : Int) ≤ e ∧ e < (↑(List.length x.fst) : Int)) ∧ ∀ (e_1 : Nd), x.fst[Int.toNat e]? = some e_1 → ∃ (x_4 : Int), e_1.kind = x_4 ∧ ∃ (zs : List Int), AV.sl true (0 : Nat) (1 : Nat) Int intA [x_4] = AV.sl true (0 : Nat) (1 : Nat) Int intA zs ∧ leafy intA ∧ room (List.length (List.map (kindAt x.fst) (List.take (Int.toNat i) (ndAt x.fst x.snd).kids)) + List.length zs) (8 : Nat) ∧ inR IntKind.i64 (i + (1 : Int)) ∧ ∃ (i' : Int), nkI x.snd (ndAt x.fst x.snd).kids i' ∧ List.length (ndAt x.fst x.snd).kids - Int.toNat i' < List.length (ndAt x.fst x.snd).kids - Int.toNat i ∧ (AV.sl false (0 : Nat) (4 : Nat) Nd (ndA false) x.fst = AV.sl false (0 : Nat) (4 : Nat) Nd (ndA false) x.fst ∧ x.snd = x.snd ∧ (ndAt x.fst x.snd).kind = (ndAt x.fst x.snd).kind ∧ (ndAt x.fst x.snd).text = (ndAt x.fst x.snd).text ∧ AV.sl false (0 : Nat) (1 : Nat) Int intA (ndAt x.fst x.snd).kids = AV.sl false (0 : Nat) (1 : Nat) Int intA (ndAt x.fst x.snd).kids ∧ (ndAt x.fst x.snd).blank = (ndAt x.fst x.snd).blank ∧ AV.sl true (0 : Nat) (1 : Nat) Int intA (List.map (kindAt x.fst) (List.take (Int.toNat i) (ndAt x.fst x.snd).kids) ++ zs) = AV.sl true (0 : Nat) (1 : Nat) Int intA (List.map (kindAt x.fst) (List.take (Int.toNat i') (ndAt x.fst x.snd).kids)) ∧ AV.sl false (0 : Nat) (1 : Nat) Int intA (ndAt x.fst x.snd).kids = AV.sl false (0 : Nat) (1 : Nat) Int intA (ndAt x.fst x.snd).kids ∧ (↑(List.length (ndAt x.fst x.snd).kids) : Int) = (↑(List.length (ndAt x.fst x.snd).kids) : Int) ∧ i + (1 : Int) = i' ∧ True) ∧ True)))) (∃ (x_3 : Int), True ∧ (ndAt x.fst x.snd).kind = x_3 ∧ ∀ (y : Unit), True → bcase (isStep x_3) (∃ (x_4 : Int × List Int), List.length x_4.snd < (4611686018427387904 : Nat) ∧ (ndAt x.fst x.snd).kind = x_4.fst ∧ AV.sl false (0 : Nat) (1 : Nat) Int (fun (x : Int) => fzL (intA x)) (List.map (kindAt x.fst) (List.take (Int.toNat i) (ndAt x.fst x.snd).kids)) = AV.sl false (0 : Nat) (1 : Nat) Int intA x_4.snd ∧ ∀ (y : Unit), True → bcase (kindsOk x_4.fst x_4.snd) (∃ (x_5 : List Nd × Nd), (okNds x_5.fst ∧ okNd x_5.snd ∧ ∀ (c : Int), c ∈ x_5.snd.kids → (0 : Int) ≤ c ∧ c < (↑(List.length x_5.fst) : Int)) ∧ AV.sl false (0 : Nat) (4 : Nat) Nd (ndA false) x.fst = AV.sl false (0 : Nat) (4 : Nat) Nd (ndA false) x_5.fst ∧ (ndAt x.fst x.snd).kind = x_5.snd.kind ∧ (ndAt x.fst x.snd).text = x_5.snd.text ∧ AV.sl false (0 : Nat) (1 : Nat) Int intA (ndAt x.fst x.snd).kids = AV.sl false (0 : Nat) (1 : Nat) Int intA x_5.snd.kids ∧ (ndAt x.fst x.snd).blank = x_5.snd.blank ∧ ∀ (y : Unit), True → bcase (callsOk x_5.fst x_5.snd) (∃ (y : Unit), True ∧ true = nodeOk x.fst x.snd ∧ True) (∃ (y : Unit), True ∧ false = nodeOk x.fst x.snd ∧ True)) (∃ (y : Unit), True ∧ false = nodeOk x.fst x.snd ∧ True)) (∃ (x_4 : Int), True ∧ (ndAt x.fst x.snd).kind = x_4 ∧ ∀ (y : Unit), True → bcase (isMem x_4) (∃ (x_5 : Int × List Int), List.length x_5.snd < (4611686018427387904 : Nat) ∧ (ndAt x.fst x.snd).kind = x_5.fst ∧ AV.sl false (0 : Nat) (1 : Nat) Int (fun (x : Int) => fzL (intA x)) (List.map (kindAt x.fst) (List.take (Int.toNat i) (ndAt x.fst x.snd).kids)) = AV.sl false (0 : Nat) (1 : Nat) Int intA x_5.snd ∧ ∀ (y : Unit), True → bcase (kindsOk x_5.fst x_5.snd) (∃ (x_6 : List Nd × Nd), (okNds x_6.fst ∧ okNd x_6.snd ∧ ∀ (c : Int), c ∈ x_6.snd.kids → (0 : Int) ≤ c ∧ c < (↑(List.length x_6.fst) : Int)) ∧ AV.sl false (0 : Nat) (4 : Nat) Nd (ndA false) x.fst = AV.sl false (0 : Nat) (4 : Nat) Nd (ndA false) x_6.fst ∧ (ndAt x.fst x.snd).kind = x_6.snd.kind ∧ (ndAt x.fst x.snd).text = x_6.snd.text ∧ AV.sl false (0 : Nat) (1 : Nat) Int intA (ndAt x.fst x.snd).kids = AV.sl false (0 : Nat) (1 : Nat) Int intA x_6.snd.kids ∧ (ndAt x.fst x.snd).blank = x_6.snd.blank ∧ ∀ (y : Unit), True → bcase (callsOk x_6.fst x_6.snd) (∃ (y : Unit), True ∧ true = nodeOk x.fst x.snd ∧ True) (∃ (y : Unit), True ∧ false = nodeOk x.fst x.snd ∧ True)) (∃ (y : Unit), True ∧ false = nodeOk x.fst x.snd ∧ True)) (∃ (x_5 : Int × List Int), List.length x_5.snd < (4611686018427387904 : Nat) ∧ (ndAt x.fst x.snd).kind = x_5.fst ∧ AV.sl false (0 : Nat) (1 : Nat) Int (fun (x : Int) => fzL (intA x)) (List.map (kindAt x.fst) (List.take (Int.toNat i) (ndAt x.fst x.snd).kids)) = AV.sl false (0 : Nat) (1 : Nat) Int intA x_5.snd ∧ ∀ (y : Unit), True → bcase (kindsOk x_5.fst x_5.snd) (∃ (x_6 : List Nd × Nd), (okNds x_6.fst ∧ okNd x_6.snd ∧ ∀ (c : Int), c ∈ x_6.snd.kids → (0 : Int) ≤ c ∧ c < (↑(List.length x_6.fst) : Int)) ∧ AV.sl false (0 : Nat) (4 : Nat) Nd (ndA false) x.fst = AV.sl false (0 : Nat) (4 : Nat) Nd (ndA false) x_6.fst ∧ (ndAt x.fst x.snd).kind = x_6.snd.kind ∧ (ndAt x.fst x.snd).text = x_6.snd.text ∧ AV.sl false (0 : Nat) (1 : Nat) Int intA (ndAt x.fst x.snd).kids = AV.sl false (0 : Nat) (1 : Nat) Int intA x_6.snd.kids ∧ (ndAt x.fst x.snd).blank = x_6.snd.blank ∧ ∀ (y : Unit), True → bcase (callsOk x_6.fst x_6.snd) (bcase ((ndAt x.fst x.snd).kind == (21 : Int)) (∃ (y : Unit), True ∧ true = nodeOk x.fst x.snd ∧ True) (∃ (y : Unit), True ∧ (!(ndAt x.fst x.snd).blank) = nodeOk x.fst x.snd ∧ True)) (∃ (y : Unit), True ∧ false = nodeOk x.fst x.snd ∧ True)) (∃ (y : Unit), True ∧ false = nodeOk x.fst x.snd ∧ True)))))))) := by kernel_rfl
theorem iNodeOk_ok  : Contract Tryd.prog 58 s_iNodeOk :=
  vcFun_ok (Γ := Γof [(48, 0, s_isNode), (64, 0, s_textFits), (65, 0, s_hasInt), (66, 0, s_isStep), (67, 0, s_isMember), (68, 0, s_kindsFit), (69, 0, s_callsFit)]) (E := Eof [(39, ⟨Int,intA⟩)]) (ov := false) (L := fun x => Lof ([(8,lNode x)])) Tryd.func58 rfl (by decide) (Γof_ok (l := [(48, 0, s_isNode), (64, 0, s_textFits), (65, 0, s_hasInt), (66, 0, s_isStep), (67, 0, s_isMember), (68, 0, s_kindsFit), (69, 0, s_callsFit)]) ⟨isNode_ok, textFits_ok, hasInt_ok, isStep_ok, isMember_ok, kindsFit_ok, callsFit_ok, trivial⟩) fun (x : List Nd × Int) (hx : okNds x.1) => (iNodeOk_vc  x).mpr (by
  have h1 : okNds x.1 := hx; have hl := h1.1
  (repeat' first | with_reducible rfl | exact True.intro | refine inR_i64 ?_ ?_ | with_reducible refine And.intro ?_ ?_ | with_reducible refine bcase_dec (fun _ => ?_) (fun _ => ?_) | with_reducible refine bcase_bne (fun _ => ?_) (fun _ => ?_) | with_reducible refine bcase_beq (fun _ => ?_) (fun _ => ?_) | with_reducible refine bcase_not (fun _ => ?_) (fun _ => ?_) | refine bcase_intro (fun _ => ?_) (fun _ => ?_) | refine sl_eq ?_ | refine ex_flip () ?_ ?_ | (apply ex_flip6 <;> try dsimp only) | (apply ex_flip5 <;> try dsimp only) | (apply ex_flip4 <;> try dsimp only) | (apply ex_flip3 <;> try dsimp only) | (apply ex_flip2 <;> try dsimp only) | apply ex_flip | (refine Prod.forall.2 ?_; intro _; try dsimp only) | (intro _; try dsimp only))
  all_goals try (simp only [ndAt_of (show x.1[x.2.toNat]? = some _ by assumption)] at *)
  all_goals first
    | rfl
    | exact nkI_init
    | exact (h1.2 _ (memE (by assumption))).1
    | exact (h1.2 _ (memE (by assumption))).2
    | exact okNds_at (by assumption) h1
    | exact (nkI_at (by assumption) (by assumption) (isNd_iff.1 ‹isNd _ _ = true›).2 (by assumption)).1
    | exact (nkI_at (by assumption) (by assumption) (isNd_iff.1 ‹isNd _ _ = true›).2 (by assumption)).2
    | exact no_nd (by assumption)
    | exact no_len (by assumption) (by assumption) (by assumption)
    | exact no_text (by assumption) (by assumption) (by assumption)
    | exact no_in (by assumption) (by assumption) (nk_lt (by assumption) (by assumption))
    | exact no_in (by assumption) (by assumption) (nk_ge (by assumption) (by assumption))
    | exact no_dup (by assumption) (by assumption) (nk_dup (by assumption) (by assumption))
    | exact nkI_next (by assumption) (by assumption) (by assumption) (by assumption) (by assumption)
    | exact kinds_next (‹nkI _ _ _›.1) (by assumption) (by assumption)
    | (refine Eq.trans ?_ (no_yes (show x.1[x.2.toNat]? = some _ by assumption) (by assumption) (by omega) (by assumption) (by assumption) (by assumption)).symm; simp [-List.map_take, mayBlank, beqI, *]; done)
    | omega
    | (have := isNd_iff.1 ‹isNd _ _ = true›; omega)
    | (have := isNd_iff.1 ‹isNd _ _ = true›; obtain ⟨_, _, _⟩ := ‹nkI _ _ _›; (try simp only [i64max, room, List.length_take, List.length_map, List.length_append, List.length_cons, List.length_nil] at *); omega)
    | (refine Eq.trans ?_ (no_yes (show x.1[x.2.toNat]? = some _ by assumption) (by assumption) (by omega) (by assumption) (by assumption) (by assumption)).symm; rw [‹kindsOk _ _ = true›, ‹callsOk _ _ = true›]; simp [mayBlank, *]))

end Go.My
