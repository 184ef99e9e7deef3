/- What is reckoned ahead: the program's functions. -/
import Derived.Test.YtinkjpfkemkhaaaDoorMyL
set_option linter.unusedVariables false
set_option linter.unusedSimpArgs false
namespace Go.My
open Go.Eng Go.Proofs

def s_isValueAt  : Sig := { X := List Nd × Int, args := fun x => [nds x.1, .int .i64 x.2], pre := fun x => okNds x.1 ∧ x.1.length ≤ 2 ^ 30, Y := Unit, post := fun x y => True, res := fun x y => .bool (isVal (kindAt x.1 x.2) && !decide (deepOf x.1 x.2 = 0)), outs := fun x y => [.top, .top], keep := false }
theorem isValueAt_vc (x : List Nd × Int) : vcFun Go.Proofs.Tryd.prog (Γof [(48, 0, s_isNode), (49, 0, s_isValue), (50, 0, s_iDeepOf)]) (Eof []) false (Lof ([])) Go.Proofs.Tryd.f27.ntmps Go.Proofs.Tryd.f27.results.toList (Go.Proofs.Tryd.f27.body.getD .skip) s_isValueAt x = ((∀ (y : Unit), True → True ∧ True ∧ True ∧ True) ∧ ∃ (x_1 : List Nd × Int), List.length x_1.fst < (4611686018427387904 : Nat) ∧ AV.sl false (0 : Nat) (4 : Nat) Nd (ndA false) x.fst = AV.sl false (0 : Nat) (4 : Nat) Nd (ndA false) x_1.fst ∧ x.snd = x_1.snd ∧ ∀ (y : Unit), True → bcase (isNd x_1.fst x_1.snd) (((0 : Int) ≤ x.snd ∧ x.snd < (↑(List.length x.fst) : Int)) ∧ ∀ (e : Nd), x.fst[Int.toNat x.snd]? = some e → ∃ (x_2 : Int), True ∧ e.kind = x_2 ∧ ∀ (y : Unit), True → bcase (isVal x_2) (∃ (x_3 : List Nd × Int), (okNds x_3.fst ∧ List.length x_3.fst ≤ (1073741824 : Nat)) ∧ AV.sl false (0 : Nat) (4 : Nat) Nd (ndA false) x.fst = AV.sl false (0 : Nat) (4 : Nat) Nd (ndA false) x_3.fst ∧ x.snd = x_3.snd ∧ ∀ (y : Unit), True → ∃ (y : Unit), True ∧ decide (deepOf x_3.fst x_3.snd > (0 : Int)) = (isVal (kindAt x.fst x.snd) && !decide (deepOf x.fst x.snd = (0 : Int))) ∧ True) (∃ (y : Unit), True ∧ false = (isVal (kindAt x.fst x.snd) && !decide (deepOf x.fst x.snd = (0 : Int))) ∧ True)) (∃ (y : Unit), True ∧ false = (isVal (kindAt x.fst x.snd) && !decide (deepOf x.fst x.snd = (0 : Int))) ∧ True)) := by kernel_rfl
theorem isValueAt_ok  : Contract Tryd.prog 27 s_isValueAt :=
  vcFun_ok (Γ := Γof [(48, 0, s_isNode), (49, 0, s_isValue), (50, 0, s_iDeepOf)]) (E := Eof []) (ov := false) (L := fun x => Lof ([])) Tryd.func27 rfl (by decide) (Γof_ok (l := [(48, 0, s_isNode), (49, 0, s_isValue), (50, 0, s_iDeepOf)]) ⟨isNode_ok, isValue_ok, iDeepOf_ok, trivial⟩) fun (x : List Nd × Int) (hx : okNds x.1 ∧ x.1.length ≤ 2 ^ 30) => (isValueAt_vc  x).mpr (by
  obtain ⟨h1, h2⟩ := hx; have hl := h1.1
  (repeat' first | with_reducible rfl | exact True.intro | refine inR_i64 ?_ ?_ | with_reducible refine And.intro ?_ ?_ | with_reducible refine bcase_dec (fun _ => ?_) (fun _ => ?_) | with_reducible refine bcase_bne (fun _ => ?_) (fun _ => ?_) | with_reducible refine bcase_beq (fun _ => ?_) (fun _ => ?_) | with_reducible refine bcase_not (fun _ => ?_) (fun _ => ?_) | refine bcase_intro (fun _ => ?_) (fun _ => ?_) | refine sl_eq ?_ | refine ex_flip () ?_ ?_ | (apply ex_flip6 <;> try dsimp only) | (apply ex_flip5 <;> try dsimp only) | (apply ex_flip4 <;> try dsimp only) | (apply ex_flip3 <;> try dsimp only) | (apply ex_flip2 <;> try dsimp only) | apply ex_flip | (refine Prod.forall.2 ?_; intro _; try dsimp only) | (intro _; try dsimp only))
  all_goals try (have hn := isNd_iff.1 (show isNd x.1 x.2 = true by assumption))
  all_goals first
    | exact h1
    | exact h2
    | omega
    | (have h0 := dp_no (show isNd x.1 x.2 = false by assumption); simp [← h0]; done)
    | (rw [kindAt, ndAt_of (by assumption)]; have hd := @deepOf_nonneg x.1 x.2; by_cases h0 : deepOf x.1 x.2 = 0 <;> simp [*] <;> omega)
    | skip)

theorem inR_u8 {n : Int} (h1 : 0 ≤ n) (h2 : n ≤ 255) : inR .u8 n := by
  unfold inR; simp [IntKind.min, IntKind.max, IntKind.bits, IntKind.signed]; omega
theorem fig_at {s : List UInt8} {n : Nat} {c : UInt8} (h : s.all isFig = true) (hc : s[n]? = some c) : 48 ≤ c.toNat ∧ c.toNat ≤ 57 := by
  have := List.all_eq_true.1 h c (memE hc)
  simpa [isFig] using this
def s_numberOf  : Sig := { X := List UInt8, args := fun x => [.str x], pre := fun x => x.all isFig = true ∧ x.length ≤ 9, Y := Unit, post := fun x y => True, res := fun x y => .int .i64 (figV x), outs := fun x y => [.top], keep := false }
theorem numberOf_vc (x : List UInt8) : vcFun Go.Proofs.Tryd.prog (Γof []) (Eof []) false (Lof ([(3,{ ι := Int, inv := fun i => 0 ≤ i ∧ i ≤ x.length, regs := fun i => [(0, .str x), (3, .int .i64 (figV (x.take i.toNat))), (4, .int .i64 i)], als := [], meas := fun i => x.length - i.toNat })])) Go.Proofs.Tryd.f51.ntmps Go.Proofs.Tryd.f51.results.toList (Go.Proofs.Tryd.f51.body.getD .skip) s_numberOf x = ((∀ (y : Unit), True → True ∧ True ∧ True) ∧ (∃ (i : Int), ((0 : Int) ≤ i ∧ i ≤ (↑(List.length x) : Int)) ∧ (x = x ∧ (0 : Int) = figV (List.take (Int.toNat i) x) ∧ (0 : Int) = i ∧ True) ∧ True) ∧ ∀ (i : Int), (0 : Int) ≤ i ∧ i ≤ (↑(List.length x) : Int) → bcase (decide (i < (↑(List.length x) : Int))) (inR IntKind.i64 (figV (List.take (Int.toNat i) x) * (10 : Int)) ∧ ((0 : Int) ≤ i ∧ i < (↑(List.length x) : Int)) ∧ ∀ (c : UInt8), x[Int.toNat i]? = some c → inR IntKind.u8 ((↑(UInt8.toNat c) : Int) - (48 : Int)) ∧ inR IntKind.i64 ((↑(UInt8.toNat c) : Int) - (48 : Int)) ∧ inR IntKind.i64 (figV (List.take (Int.toNat i) x) * (10 : Int) + ((↑(UInt8.toNat c) : Int) - (48 : Int))) ∧ inR IntKind.i64 (i + (1 : Int)) ∧ ∃ (i' : Int), ((0 : Int) ≤ i' ∧ i' ≤ (↑(List.length x) : Int)) ∧ List.length x - Int.toNat i' < List.length x - Int.toNat i ∧ (x = x ∧ figV (List.take (Int.toNat i) x) * (10 : Int) + ((↑(UInt8.toNat c) : Int) - (48 : Int)) = figV (List.take (Int.toNat i') x) ∧ i + (1 : Int) = i' ∧ True) ∧ True) (∃ (y : Unit), True ∧ figV (List.take (Int.toNat i) x) = figV x ∧ True)) := by kernel_rfl
theorem numberOf_ok  : Contract Tryd.prog 51 s_numberOf :=
  vcFun_ok (Γ := Γof []) (E := Eof []) (ov := false) (L := fun x => Lof ([(3,{ ι := Int, inv := fun i => 0 ≤ i ∧ i ≤ x.length, regs := fun i => [(0, .str x), (3, .int .i64 (figV (x.take i.toNat))), (4, .int .i64 i)], als := [], meas := fun i => x.length - i.toNat })])) Tryd.func51 rfl (by decide) (Γof_ok (l := []) trivial) fun (x : List UInt8) (hx : x.all isFig = true ∧ x.length ≤ 9) => (numberOf_vc  x).mpr (by
  obtain ⟨h1, h2⟩ := hx
  have hb : ∀ i : Int, 0 ≤ figV (x.take i.toNat) ∧ figV (x.take i.toNat) < 1000000000 := fun i => figV_bd (List.all_eq_true.2 fun c hc => List.all_eq_true.1 h1 c (List.mem_of_mem_take hc)) (by simp; omega)
  (repeat' first | with_reducible rfl | exact True.intro | refine inR_i64 ?_ ?_ | with_reducible refine And.intro ?_ ?_ | with_reducible refine bcase_dec (fun _ => ?_) (fun _ => ?_) | with_reducible refine bcase_bne (fun _ => ?_) (fun _ => ?_) | with_reducible refine bcase_beq (fun _ => ?_) (fun _ => ?_) | with_reducible refine bcase_not (fun _ => ?_) (fun _ => ?_) | refine bcase_intro (fun _ => ?_) (fun _ => ?_) | refine sl_eq ?_ | refine ex_flip () ?_ ?_ | (apply ex_flip6 <;> try dsimp only) | (apply ex_flip5 <;> try dsimp only) | (apply ex_flip4 <;> try dsimp only) | (apply ex_flip3 <;> try dsimp only) | (apply ex_flip2 <;> try dsimp only) | apply ex_flip | (refine Prod.forall.2 ?_; intro _; try dsimp only) | (intro _; try dsimp only))
  all_goals try (have hf := fig_at h1 (show x[Int.toNat _]? = some _ by assumption))
  all_goals try (have hbb := hb (by assumption))
  all_goals first
    | rfl
    | omega
    | exact inR_u8 (by omega) (by omega)
    | ((try simp only [i64max]); omega)
    | (rw [toNat1 (by omega), figV_take (by assumption)]; done)
    | (rw [List.take_of_length_le (by omega)]; done)
    | skip)

def s_reckon  : Sig := { X := List UInt8 × Int × Int, args := fun x => [.str x.1, .int .i64 x.2.1, .int .i64 x.2.2], pre := fun x => bdd x.2.1 ∧ bdd x.2.2, Y := Unit, post := fun x y => True, res := fun x y => .int .i64 (reck x.1 x.2.1 x.2.2), outs := fun x y => [.top, .top, .top], keep := false }
theorem reckon_vc (x : List UInt8 × Int × Int) : vcFun Go.Proofs.Tryd.prog (Γof []) (Eof []) false (Lof ([])) Go.Proofs.Tryd.f59.ntmps Go.Proofs.Tryd.f59.results.toList (Go.Proofs.Tryd.f59.body.getD .skip) s_reckon x = ((∀ (y : Unit), True → True ∧ True ∧ True ∧ True ∧ True) ∧ bcase (x.fst == #[(43 : UInt8)].toList) (inR IntKind.i64 (x.snd.fst + x.snd.snd) ∧ ∃ (y : Unit), True ∧ x.snd.fst + x.snd.snd = reck x.fst x.snd.fst x.snd.snd ∧ True) (bcase (x.fst == #[(45 : UInt8)].toList) (inR IntKind.i64 (x.snd.fst - x.snd.snd) ∧ ∃ (y : Unit), True ∧ x.snd.fst - x.snd.snd = reck x.fst x.snd.fst x.snd.snd ∧ True) (inR IntKind.i64 (x.snd.fst * x.snd.snd) ∧ ∃ (y : Unit), True ∧ x.snd.fst * x.snd.snd = reck x.fst x.snd.fst x.snd.snd ∧ True))) := by kernel_rfl
theorem reckon_ok  : Contract Tryd.prog 59 s_reckon :=
  vcFun_ok (Γ := Γof []) (E := Eof []) (ov := false) (L := fun x => Lof ([])) Tryd.func59 rfl (by decide) (Γof_ok (l := []) trivial) fun (x : List UInt8 × Int × Int) (hx : bdd x.2.1 ∧ bdd x.2.2) => (reckon_vc  x).mpr (by
  obtain ⟨h1, h2⟩ := hx
  have hm := mul_bd h1.1 h1.2 h2.1 h2.2
  unfold bdd at h1 h2
  (repeat' first | with_reducible rfl | exact True.intro | refine inR_i64 ?_ ?_ | with_reducible refine And.intro ?_ ?_ | with_reducible refine bcase_dec (fun _ => ?_) (fun _ => ?_) | with_reducible refine bcase_bne (fun _ => ?_) (fun _ => ?_) | with_reducible refine bcase_beq (fun _ => ?_) (fun _ => ?_) | with_reducible refine bcase_not (fun _ => ?_) (fun _ => ?_) | refine bcase_intro (fun _ => ?_) (fun _ => ?_) | refine sl_eq ?_ | refine ex_flip () ?_ ?_ | (apply ex_flip6 <;> try dsimp only) | (apply ex_flip5 <;> try dsimp only) | (apply ex_flip4 <;> try dsimp only) | (apply ex_flip3 <;> try dsimp only) | (apply ex_flip2 <;> try dsimp only) | apply ex_flip | (refine Prod.forall.2 ?_; intro _; try dsimp only) | (intro _; try dsimp only))
  all_goals first
    | (simp [reck, *]; done)
    | ((try simp only [i64max]); omega)
    | skip)

def consP (n : Nat) (x : List Nd × Int) : Prop := okNds x.1 ∧ okUp x.1 x.2 ∧ x.2 < n
def s_cR (n : Nat) : Sig := { X := List Nd × Int, args := fun x => [nds x.1, .int .i64 x.2], pre := fun x => consP n x, Y := Unit, post := fun x y => True, res := fun x y => .tup [.int .i64 (oI (cV x.1 x.2)), .bool (cV x.1 x.2).isSome], outs := fun x y => [.top, .top], keep := false }
def cI (ns : List Nd) (x : Nd) (i s : Int) : Prop := 0 ≤ i ∧ i ≤ x.kids.length ∧ bdd s ∧ chainF x.text ((x.kids.take i.toNat).map (cV ns)) = some s
theorem cI_init {ns : List Nd} {x : Nd} : cI ns x 0 0 := ⟨by omega, by omega, by unfold bdd; omega, rfl⟩
theorem cI_first {ns : List Nd} {x : Nd} {i s c : Int} (h : cI ns x i s) (hc : x.kids[i.toNat]? = some c) (hi : i = 0) (hu : okUp ns c) (hs : (cV ns c).isSome = true) : cI ns x (i + 1) (oI (cV ns c)) := by
  subst hi
  have := (getE hc).1
  refine ⟨by omega, by omega, oI_bd hu, ?_⟩
  rw [toNat1 (by omega), takeE hc]
  simp only [Int.toNat_zero, List.take_zero, List.nil_append, List.map_cons, List.map_nil, chainF, List.foldl_nil]
  rw [oI]; cases hv : cV ns c with
  | none => rw [hv] at hs; cases hs
  | some v => rfl
theorem cI_snoc {ns : List Nd} {x : Nd} {i s c : Int} (h : cI ns x i s) (hc : x.kids[i.toNat]? = some c) (hi : i ≠ 0) : chainF x.text ((x.kids.take (i + 1).toNat).map (cV ns)) = stepV x.text (some s) (cV ns c) := by
  rw [toNat1 h.1, takeE hc, List.map_append, List.map_cons, List.map_nil, chainF_snoc, h.2.2.2]
  have := (getE hc).1
  intro e
  simp only [List.map_eq_nil_iff, List.take_eq_nil_iff] at e
  rcases e with e | e
  · have := h.1; omega
  · rw [e] at this; simp at this
theorem some_oI {o : Option Int} (h : o.isSome = true) : o = some (oI o) := by
  cases o with
  | none => cases h
  | some v => rfl
theorem cI_next {ns : List Nd} {x : Nd} {i s c : Int} (h : cI ns x i s) (hc : x.kids[i.toNat]? = some c) (hi : i ≠ 0) (hs : (cV ns c).isSome = true) (hr : inn (reck x.text s (oI (cV ns c))) (-1000000000) 1000000000 = true) : cI ns x (i + 1) (reck x.text s (oI (cV ns c))) := by
  have := (getE hc).1
  have h0 := h.1
  refine ⟨by omega, by omega, inn_iff.1 hr, ?_⟩
  rw [cI_snoc h hc hi, some_oI hs]
  simp only [stepV]; rw [if_pos hr]; rfl
theorem cI_bad {ns : List Nd} {x : Nd} {i s c : Int} (h : cI ns x i s) (hc : x.kids[i.toNat]? = some c) (hi : i ≠ 0) (hs : (cV ns c).isSome = true) (hr : inn (reck x.text s (oI (cV ns c))) (-1000000000) 1000000000 = false) : chainF x.text (x.kids.map (cV ns)) = none := by
  have e : x.kids = x.kids.take (i + 1).toNat ++ x.kids.drop (i + 1).toNat := (List.take_append_drop _ _).symm
  have h1 := cI_snoc h hc hi
  rw [some_oI hs] at h1
  simp only [stepV] at h1
  rw [if_neg (by simp [hr])] at h1
  rw [e, List.map_append]
  refine chainF_none ?_ h1
  intro e2; rw [e2] at h1; cases h1
theorem cI_none {ns : List Nd} {x : Nd} {i s c : Int} (h : cI ns x i s) (hc : x.kids[i.toNat]? = some c) (hs : (cV ns c).isSome = false) : chainF x.text (x.kids.map (cV ns)) = none := by
  have hs : cV ns c = none := by cases hv : cV ns c with
    | none => rfl
    | some v => rw [hv] at hs; cases hs
  have e : x.kids = x.kids.take (i + 1).toNat ++ x.kids.drop (i + 1).toNat := (List.take_append_drop _ _).symm
  have h1 : chainF x.text ((x.kids.take (i + 1).toNat).map (cV ns)) = none := by
    by_cases hi : i = 0
    · subst hi; rw [toNat1 (by omega), takeE hc]
      simp [chainF, hs]
    · rw [cI_snoc h hc hi, hs]; rfl
  rw [e, List.map_append]
  refine chainF_none ?_ h1
  intro e2; rw [e2] at h1; cases h1
theorem cI_done {ns : List Nd} {x : Nd} {i s : Int} (h : cI ns x i s) (hl : ¬ i < x.kids.length) : chainF x.text (x.kids.map (cV ns)) = some s := by
  have h3 := h.2.2.2
  rwa [List.take_of_length_le (by have := h.1; omega)] at h3
def s_chainC (n : Nat) : Sig := { X := List Nd × Nd, args := fun x => [nds x.1, .agg (ndA false x.2)], pre := fun x => okNds x.1 ∧ x.2.kids.length < 2 ^ 62 ∧ ∀ c ∈ x.2.kids, okUp x.1 c ∧ c < n, Y := Unit, post := fun x y => True, res := fun x y => .tup [.int .i64 (oI (chainV x.2.text (x.2.kids.map (cV x.1)))), .bool (chainV x.2.text (x.2.kids.map (cV x.1))).isSome], outs := fun x y => [.top, .top], keep := false }
theorem chainC_vc (n : Nat) (x : List Nd × Nd) : vcFun Go.Proofs.Tryd.prog (Γof [(28, 0, (s_cR n)), (59, 0, s_reckon), (54, 0, s_inRange)]) (Eof []) false (Lof ([(5,{ ι := Int × Int, inv := fun i => cI x.1 x.2 i.1 i.2, regs := fun i => [(0, nds x.1), (3, .box 0 (ndA false x.2)), (6, .int .i64 i.2), (25, ints x.2.kids), (26, .int .i64 x.2.kids.length), (27, .int .i64 i.1)], als := [], meas := fun i => x.2.kids.length - i.1.toNat })])) Go.Proofs.Tryd.f52.ntmps Go.Proofs.Tryd.f52.results.toList (Go.Proofs.Tryd.f52.body.getD .skip) (s_chainC n) x = ((∀ (y : Unit), True → (True ∧ True ∧ True) ∧ True ∧ True ∧ True) ∧ bcase (!x.snd.text == #[(43 : UInt8)].toList) (bcase (!x.snd.text == #[(45 : UInt8)].toList) (bcase (!x.snd.text == #[(42 : UInt8)].toList) (∃ (y : Unit), True ∧ (0 : Int) = oI (chainV x.snd.text (List.map (cV x.fst) x.snd.kids)) ∧ false = Option.isSome (chainV x.snd.text (List.map (cV x.fst) x.snd.kids)) ∧ True) ((∃ (i : Int × Int), cI x.fst x.snd i.fst i.snd ∧ (AV.sl false (0 : Nat) (4 : Nat) Nd (ndA false) x.fst = AV.sl false (0 : Nat) (4 : Nat) Nd (ndA false) x.fst ∧ x.snd.kind = x.snd.kind ∧ x.snd.text = x.snd.text ∧ AV.sl false (0 : Nat) (1 : Nat) Int intA x.snd.kids = AV.sl false (0 : Nat) (1 : Nat) Int intA x.snd.kids ∧ x.snd.blank = x.snd.blank ∧ (0 : Int) = i.snd ∧ AV.sl false (0 : Nat) (1 : Nat) Int intA x.snd.kids = AV.sl false (0 : Nat) (1 : Nat) Int intA x.snd.kids ∧ (↑(List.length x.snd.kids) : Int) = (↑(List.length x.snd.kids) : Int) ∧ (0 : Int) = i.fst ∧ True) ∧ True) ∧ ∀ (i : Int × Int), cI x.fst x.snd i.fst i.snd → bcase (decide (i.fst < (↑(List.length x.snd.kids) : Int))) (((0 : Int) ≤ i.fst ∧ i.fst < (↑(List.length x.snd.kids) : Int)) ∧ ∀ (e : Int), x.snd.kids[Int.toNat i.fst]? = some e → ∃ (x_1 : List Nd × Int), consP n x_1 ∧ AV.sl false (0 : Nat) (4 : Nat) Nd (ndA false) x.fst = AV.sl false (0 : Nat) (4 : Nat) Nd (ndA false) x_1.fst ∧ e = x_1.snd ∧ ∀ (y : Unit), True → bcase (!Option.isSome (cV x_1.fst x_1.snd)) (∃ (y : Unit), True ∧ (0 : Int) = oI (chainV x.snd.text (List.map (cV x.fst) x.snd.kids)) ∧ false = Option.isSome (chainV x.snd.text (List.map (cV x.fst) x.snd.kids)) ∧ True) (bcase (i.fst == (0 : Int)) (inR IntKind.i64 (i.fst + (1 : Int)) ∧ ∃ (i' : Int × Int), cI x.fst x.snd i'.fst i'.snd ∧ List.length x.snd.kids - Int.toNat i'.fst < List.length x.snd.kids - Int.toNat i.fst ∧ (AV.sl false (0 : Nat) (4 : Nat) Nd (ndA false) x.fst = AV.sl false (0 : Nat) (4 : Nat) Nd (ndA false) x.fst ∧ x.snd.kind = x.snd.kind ∧ x.snd.text = x.snd.text ∧ AV.sl false (0 : Nat) (1 : Nat) Int intA x.snd.kids = AV.sl false (0 : Nat) (1 : Nat) Int intA x.snd.kids ∧ x.snd.blank = x.snd.blank ∧ oI (cV x_1.fst x_1.snd) = i'.snd ∧ AV.sl false (0 : Nat) (1 : Nat) Int intA x.snd.kids = AV.sl false (0 : Nat) (1 : Nat) Int intA x.snd.kids ∧ (↑(List.length x.snd.kids) : Int) = (↑(List.length x.snd.kids) : Int) ∧ i.fst + (1 : Int) = i'.fst ∧ True) ∧ True) (∃ (x_2 : List UInt8 × Int × Int), (bdd x_2.snd.fst ∧ bdd x_2.snd.snd) ∧ x.snd.text = x_2.fst ∧ i.snd = x_2.snd.fst ∧ oI (cV x_1.fst x_1.snd) = x_2.snd.snd ∧ ∀ (y : Unit), True → ∃ (x_3 : Int × Int × Int), True ∧ reck x_2.fst x_2.snd.fst x_2.snd.snd = x_3.fst ∧ (-1000000000 : Int) = x_3.snd.fst ∧ (1000000000 : Int) = x_3.snd.snd ∧ ∀ (y : Unit), True → bcase (!inn x_3.fst x_3.snd.fst x_3.snd.snd) (∃ (y : Unit), True ∧ (0 : Int) = oI (chainV x.snd.text (List.map (cV x.fst) x.snd.kids)) ∧ false = Option.isSome (chainV x.snd.text (List.map (cV x.fst) x.snd.kids)) ∧ True) (inR IntKind.i64 (i.fst + (1 : Int)) ∧ ∃ (i' : Int × Int), cI x.fst x.snd i'.fst i'.snd ∧ List.length x.snd.kids - Int.toNat i'.fst < List.length x.snd.kids - Int.toNat i.fst ∧ (AV.sl false (0 : Nat) (4 : Nat) Nd (ndA false) x.fst = AV.sl false (0 : Nat) (4 : Nat) Nd (ndA false) x.fst ∧ x.snd.kind = x.snd.kind ∧ x.snd.text = x.snd.text ∧ AV.sl false (0 : Nat) (1 : Nat) Int intA x.snd.kids = AV.sl false (0 : Nat) (1 : Nat) Int intA x.snd.kids ∧ x.snd.blank = x.snd.blank ∧ reck x_2.fst x_2.snd.fst x_2.snd.snd = i'.snd ∧ AV.sl false (0 : Nat) (1 : Nat) Int intA x.snd.kids = AV.sl false (0 : Nat) (1 : Nat) Int intA x.snd.kids ∧ (↑(List.length x.snd.kids) : Int) = (↑(List.length x.snd.kids) : Int) ∧ i.fst + (1 : Int) = i'.fst ∧ True) ∧ True)))) (∃ (y : Unit), True ∧ i.snd = oI (chainV x.snd.text (List.map (cV x.fst) x.snd.kids)) ∧ true = Option.isSome (chainV x.snd.text (List.map (cV x.fst) x.snd.kids)) ∧ True))) ((∃ (i : Int × Int), cI x.fst x.snd i.fst i.snd ∧ (AV.sl false (0 : Nat) (4 : Nat) Nd (ndA false) x.fst = AV.sl false (0 : Nat) (4 : Nat) Nd (ndA false) x.fst ∧ x.snd.kind = x.snd.kind ∧ x.snd.text = x.snd.text ∧ AV.sl false (0 : Nat) (1 : Nat) Int intA x.snd.kids = AV.sl false (0 : Nat) (1 : Nat) Int intA x.snd.kids ∧ x.snd.blank = x.snd.blank ∧ (0 : Int) = i.snd ∧ AV.sl false (0 : Nat) (1 : Nat) Int intA x.snd.kids = AV.sl false (0 : Nat) (1 : Nat) Int intA x.snd.kids ∧ (↑(List.length x.snd.kids) : Int) = (↑(List.length x.snd.kids) : Int) ∧ (0 : Int) = i.fst ∧ True) ∧ True) ∧ ∀ (i : Int × Int), cI x.fst x.snd i.fst i.snd → bcase (decide (i.fst < (↑(List.length x.snd.kids) : Int))) (((0 : Int) ≤ i.fst ∧ i.fst < (↑(List.length x.snd.kids) : Int)) ∧ ∀ (e : Int), x.snd.kids[Int.toNat i.fst]? = some e → ∃ (x_1 : List Nd × Int), consP n x_1 ∧ AV.sl false (0 : Nat) (4 : Nat) Nd (ndA false) x.fst = AV.sl false (0 : Nat) (4 : Nat) Nd (ndA false) x_1.fst ∧ e = x_1.snd ∧ ∀ (y : Unit), True → bcase (!Option.isSome (cV x_1.fst x_1.snd)) (∃ (y : Unit), True ∧ (0 : Int) = oI (chainV x.snd.text (List.map (cV x.fst) x.snd.kids)) ∧ false = Option.isSome (chainV x.snd.text (List.map (cV x.fst) x.snd.kids)) ∧ True) (bcase (i.fst == (0 : Int)) (inR IntKind.i64 (i.fst + (1 : Int)) ∧ ∃ (i' : Int × Int), cI x.fst x.snd i'.fst i'.snd ∧ List.length x.snd.kids - Int.toNat i'.fst < List.length x.snd.kids - Int.toNat i.fst ∧ (AV.sl false (0 : Nat) (4 : Nat) Nd (ndA false) x.fst = AV.sl false (0 : Nat) (4 : Nat) Nd (ndA false) x.fst ∧ x.snd.kind = x.snd.kind ∧ x.snd.text = x.snd.text ∧ AV.sl false (0 : Nat) (1 : Nat) Int intA x.snd.kids = AV.sl false (0 : Nat) (1 : Nat) Int intA x.snd.kids ∧ x.snd.blank = x.snd.blank ∧ oI (cV x_1.fst x_1.snd) = i'.snd ∧ AV.sl false (0 : Nat) (1 : Nat) Int intA x.snd.kids = AV.sl false (0 : Nat) (1 : Nat) Int intA x.snd.kids ∧ (↑(List.length x.snd.kids) : Int) = (↑(List.length x.snd.kids) : Int) ∧ i.fst + (1 : Int) = i'.fst ∧ True) ∧ True) (∃ (x_2 : List UInt8 × Int × Int), (bdd x_2.snd.fst ∧ bdd x_2.snd.snd) ∧ x.snd.text = x_2.fst ∧ i.snd = x_2.snd.fst ∧ oI (cV x_1.fst x_1.snd) = x_2.snd.snd ∧ ∀ (y : Unit), True → ∃ (x_3 : Int × Int × Int), True ∧ reck x_2.fst x_2.snd.fst x_2.snd.snd = x_3.fst ∧ (-1000000000 : Int) = x_3.snd.fst ∧ (1000000000 : Int) = x_3.snd.snd ∧ ∀ (y : Unit), True → bcase (!inn x_3.fst x_3.snd.fst x_3.snd.snd) (∃ (y : Unit), True ∧ (0 : Int) = oI (chainV x.snd.text (List.map (cV x.fst) x.snd.kids)) ∧ false = Option.isSome (chainV x.snd.text (List.map (cV x.fst) x.snd.kids)) ∧ True) (inR IntKind.i64 (i.fst + (1 : Int)) ∧ ∃ (i' : Int × Int), cI x.fst x.snd i'.fst i'.snd ∧ List.length x.snd.kids - Int.toNat i'.fst < List.length x.snd.kids - Int.toNat i.fst ∧ (AV.sl false (0 : Nat) (4 : Nat) Nd (ndA false) x.fst = AV.sl false (0 : Nat) (4 : Nat) Nd (ndA false) x.fst ∧ x.snd.kind = x.snd.kind ∧ x.snd.text = x.snd.text ∧ AV.sl false (0 : Nat) (1 : Nat) Int intA x.snd.kids = AV.sl false (0 : Nat) (1 : Nat) Int intA x.snd.kids ∧ x.snd.blank = x.snd.blank ∧ reck x_2.fst x_2.snd.fst x_2.snd.snd = i'.snd ∧ AV.sl false (0 : Nat) (1 : Nat) Int intA x.snd.kids = AV.sl false (0 : Nat) (1 : Nat) Int intA x.snd.kids ∧ (↑(List.length x.snd.kids) : Int) = (↑(List.length x.snd.kids) : Int) ∧ i.fst + (1 : Int) = i'.fst ∧ True) ∧ True)))) (∃ (y : Unit), True ∧ i.snd = oI (chainV x.snd.text (List.map (cV x.fst) x.snd.kids)) ∧ true = Option.isSome (chainV x.snd.text (List.map (cV x.fst) x.snd.kids)) ∧ True))) ((∃ (i : Int × Int), cI x.fst x.snd i.fst i.snd ∧ (AV.sl false (0 : Nat) (4 : Nat) Nd (ndA false) x.fst = AV.sl false (0 : Nat) (4 : Nat) Nd (ndA false) x.fst ∧ x.snd.kind = x.snd.kind ∧ x.snd.text = x.snd.text ∧ AV.sl false (0 : Nat) (1 : Nat) Int intA x.snd.kids = AV.sl false (0 : Nat) (1 : Nat) Int intA x.snd.kids ∧ x.snd.blank = x.snd.blank ∧ (0 : Int) = i.snd ∧ AV.sl false (0 : Nat) (1 : Nat) Int intA x.snd.kids = AV.sl false (0 : Nat) (1 : Nat) Int intA x.snd.kids ∧ (↑(List.length x.snd.kids) : Int) = (↑(List.length x.snd.kids) : Int) ∧ (0 : Int) = i.fst ∧ True) ∧ True) ∧ ∀ (i : Int × Int), cI x.fst x.snd i.fst i.snd → bcase (decide (i.fst < (↑(List.length x.snd.kids) : Int))) (((0 : Int) ≤ i.fst ∧ i.fst < (↑(List.length x.snd.kids) : Int)) ∧ ∀ (e : Int), x.snd.kids[Int.toNat i.fst]? = some e → ∃ (x_1 : List Nd × Int), consP n x_1 ∧ AV.sl false (0 : Nat) (4 : Nat) Nd (ndA false) x.fst = AV.sl false (0 : Nat) (4 : Nat) Nd (ndA false) x_1.fst ∧ e = x_1.snd ∧ ∀ (y : Unit), True → bcase (!Option.isSome (cV x_1.fst x_1.snd)) (∃ (y : Unit), True ∧ (0 : Int) = oI (chainV x.snd.text (List.map (cV x.fst) x.snd.kids)) ∧ false = Option.isSome (chainV x.snd.text (List.map (cV x.fst) x.snd.kids)) ∧ True) (bcase (i.fst == (0 : Int)) (inR IntKind.i64 (i.fst + (1 : Int)) ∧ ∃ (i' : Int × Int), cI x.fst x.snd i'.fst i'.snd ∧ List.length x.snd.kids - Int.toNat i'.fst < List.length x.snd.kids - Int.toNat i.fst ∧ (AV.sl false (0 : Nat) (4 : Nat) Nd (ndA false) x.fst = AV.sl false (0 : Nat) (4 : Nat) Nd (ndA false) x.fst ∧ x.snd.kind = x.snd.kind ∧ x.snd.text = x.snd.text ∧ AV.sl false (0 : Nat) (1 : Nat) Int intA x.snd.kids = AV.sl false (0 : Nat) (1 : Nat) Int intA x.snd.kids ∧ x.snd.blank = x.snd.blank ∧ oI (cV x_1.fst x_1.snd) = i'.snd ∧ AV.sl false (0 : Nat) (1 : Nat) Int intA x.snd.kids = AV.sl false (0 : Nat) (1 : Nat) Int intA x.snd.kids ∧ (↑(List.length x.snd.kids) : Int) = (↑(List.length x.snd.kids) : Int) ∧ i.fst + (1 : Int) = i'.fst ∧ True) ∧ True) (∃ (x_2 : List UInt8 × Int × Int), (bdd x_2.snd.fst ∧ bdd x_2.snd.snd) ∧ x.snd.text = x_2.fst ∧ i.snd = x_2.snd.fst ∧ oI (cV x_1.fst x_1.snd) = x_2.snd.snd ∧ ∀ (y : Unit), True → ∃ (x_3 : Int × Int × Int), True ∧ reck x_2.fst x_2.snd.fst x_2.snd.snd = x_3.fst ∧ (-1000000000 : Int) = x_3.snd.fst ∧ (1000000000 : Int) = x_3.snd.snd ∧ ∀ (y : Unit), True → bcase (!inn x_3.fst x_3.snd.fst x_3.snd.snd) (∃ (y : Unit), True ∧ (0 : Int) = oI (chainV x.snd.text (List.map (cV x.fst) x.snd.kids)) ∧ false = Option.isSome (chainV x.snd.text (List.map (cV x.fst) x.snd.kids)) ∧ True) (inR IntKind.i64 (i.fst + (1 : Int)) ∧ ∃ (i' : Int × Int), cI x.fst x.snd i'.fst i'.snd ∧ List.length x.snd.kids - Int.toNat i'.fst < List.length x.snd.kids - Int.toNat i.fst ∧ (AV.sl false (0 : Nat) (4 : Nat) Nd (ndA false) x.fst = AV.sl false (0 : Nat) (4 : Nat) Nd (ndA false) x.fst ∧ x.snd.kind = x.snd.kind ∧ x.snd.text = x.snd.text ∧ AV.sl false (0 : Nat) (1 : Nat) Int intA x.snd.kids = AV.sl false (0 : Nat) (1 : Nat) Int intA x.snd.kids ∧ x.snd.blank = x.snd.blank ∧ reck x_2.fst x_2.snd.fst x_2.snd.snd = i'.snd ∧ AV.sl false (0 : Nat) (1 : Nat) Int intA x.snd.kids = AV.sl false (0 : Nat) (1 : Nat) Int intA x.snd.kids ∧ (↑(List.length x.snd.kids) : Int) = (↑(List.length x.snd.kids) : Int) ∧ i.fst + (1 : Int) = i'.fst ∧ True) ∧ True)))) (∃ (y : Unit), True ∧ i.snd = oI (chainV x.snd.text (List.map (cV x.fst) x.snd.kids)) ∧ true = Option.isSome (chainV x.snd.text (List.map (cV x.fst) x.snd.kids)) ∧ True))) := by kernel_rfl
theorem chainC_ok (n : Nat) (hc : Contract Go.Proofs.Tryd.prog 28 (s_cR n)) : Contract Tryd.prog 52 (s_chainC n) :=
  vcFun_ok (Γ := Γof [(28, 0, (s_cR n)), (59, 0, s_reckon), (54, 0, s_inRange)]) (E := Eof []) (ov := false) (L := fun x => Lof ([(5,{ ι := Int × Int, inv := fun i => cI x.1 x.2 i.1 i.2, regs := fun i => [(0, nds x.1), (3, .box 0 (ndA false x.2)), (6, .int .i64 i.2), (25, ints x.2.kids), (26, .int .i64 x.2.kids.length), (27, .int .i64 i.1)], als := [], meas := fun i => x.2.kids.length - i.1.toNat })])) Tryd.func52 rfl (by decide) (Γof_ok (l := [(28, 0, (s_cR n)), (59, 0, s_reckon), (54, 0, s_inRange)]) ⟨hc, reckon_ok, inRange_ok, trivial⟩) fun (x : List Nd × Nd) (hx : okNds x.1 ∧ x.2.kids.length < 2 ^ 62 ∧ ∀ c ∈ x.2.kids, okUp x.1 c ∧ c < n) => (chainC_vc n x).mpr (by
  obtain ⟨h1, h2, h3⟩ := hx
  (repeat' first | with_reducible rfl | exact True.intro | refine inR_i64 ?_ ?_ | with_reducible refine And.intro ?_ ?_ | with_reducible refine bcase_dec (fun _ => ?_) (fun _ => ?_) | with_reducible refine bcase_bne (fun _ => ?_) (fun _ => ?_) | with_reducible refine bcase_beq (fun _ => ?_) (fun _ => ?_) | with_reducible refine bcase_not (fun _ => ?_) (fun _ => ?_) | refine bcase_intro (fun _ => ?_) (fun _ => ?_) | refine sl_eq ?_ | refine ex_flip () ?_ ?_ | (apply ex_flip6 <;> try dsimp only) | (apply ex_flip5 <;> try dsimp only) | (apply ex_flip4 <;> try dsimp only) | (apply ex_flip3 <;> try dsimp only) | (apply ex_flip2 <;> try dsimp only) | apply ex_flip | (refine Prod.forall.2 ?_; intro _; try dsimp only) | (intro _; try dsimp only))
  all_goals first
    | rfl
    | omega
    | exact h1
    | exact cI_init
    | exact cI_first (by assumption) (by assumption) (by assumption) (h3 _ (memE (by assumption))).1 (by assumption)
    | exact cI_next (by assumption) (by assumption) (by assumption) (by assumption) (by assumption)
    | exact ⟨h1, (h3 _ (memE (by assumption))).1, (h3 _ (memE (by assumption))).2⟩
    | exact (show cI _ _ _ _ by assumption).2.2.1
    | exact oI_bd (h3 _ (memE (by assumption))).1
    | (have hcI := (show cI x.1 x.2 _ _ by assumption); have := hcI.1; have := hcI.2.1; (try simp only [i64max]); omega)
    | (simp [chainV, opOk, oI, *]; done)
    | (have hcc := cI_done (by assumption) (by assumption); simp [chainV, opOk, hcc, oI, *]; done)
    | (have hcc := cI_none (by assumption) (by assumption) (by assumption); simp [chainV, opOk, hcc, oI, *]; done)
    | (have hcc := cI_bad (by assumption) (by assumption) (by assumption) (by assumption) (by assumption); simp [chainV, opOk, hcc, oI, *]; done)
    | skip)

theorem consP_kid {n : Nat} {x : List Nd × Int} {y : Nd} {c : Int} (h : consP (n + 1) x) (hy : x.1[x.2.toNat]? = some y) (hc : c ∈ y.kids) : okUp x.1 c ∧ c < n := by
  obtain ⟨h1, h2, h3⟩ := h
  rw [← ndAt_of hy] at hc
  have := okUp_kid h2 hc
  exact ⟨this.1, by omega⟩
theorem consP_2 {n : Nat} {x : List Nd × Int} {y : Nd} (h : consP (n + 1) x) (hy : x.1[x.2.toNat]? = some y) (hk : y.kind = 2) : (y.text.all isFig = true ∧ 1 ≤ y.text.length ∧ y.text.length ≤ 12) ∧ cV x.1 x.2 = if 9 < y.text.length then none else some (figV y.text) := by
  have e := ndAt_of hy
  refine ⟨?_, ?_⟩
  · have := okUp2 h.2.1 (by rw [e]; exact hk); rwa [e] at this
  · rw [cV_def h.2.1, e, if_pos hk]
theorem consP_11 {n : Nat} {x : List Nd × Int} {y : Nd} (h : consP (n + 1) x) (hy : x.1[x.2.toNat]? = some y) (hk : y.kind = 11) : ∃ c, y.kids = [c] ∧ cV x.1 x.2 = cV x.1 c := by
  have e := ndAt_of hy
  obtain ⟨c, hc⟩ := okUp11 h.2.1 (by rw [e]; exact hk)
  rw [e] at hc
  refine ⟨c, hc, ?_⟩
  rw [cV_def h.2.1, e, if_neg (by omega), if_pos hk, hc]; rfl
theorem consP_7 {n : Nat} {x : List Nd × Int} {y : Nd} (h : consP (n + 1) x) (hy : x.1[x.2.toNat]? = some y) (hk : y.kind = 7) : cV x.1 x.2 = chainV y.text (y.kids.map (cV x.1)) := by
  rw [cV_def h.2.1, ndAt_of hy, if_neg (by omega), if_neg (by omega), if_pos hk]
theorem consP_0 {n : Nat} {x : List Nd × Int} {y : Nd} (h : consP (n + 1) x) (hy : x.1[x.2.toNat]? = some y) (h2 : y.kind ≠ 2) (h11 : y.kind ≠ 11) (h7 : y.kind ≠ 7) : cV x.1 x.2 = none := by
  rw [cV_def h.2.1, ndAt_of hy, if_neg h2, if_neg h11, if_neg h7]
def s_constZ  : Sig := { X := List Nd × Int, args := fun x => [nds x.1, .int .i64 x.2], pre := fun x => consP 0 x, Y := Unit, post := fun x y => True, res := fun x y => .tup [.int .i64 (oI (cV x.1 x.2)), .bool (cV x.1 x.2).isSome], outs := fun x y => [.top, .top], keep := false }
theorem constZ_vc (x : List Nd × Int) : vcFun Go.Proofs.Tryd.prog (Γof []) (Eof []) false (Lof ([])) Go.Proofs.Tryd.f28.ntmps Go.Proofs.Tryd.f28.results.toList (Go.Proofs.Tryd.f28.body.getD .skip) s_constZ x = ((∀ (y : Unit), True → (True ∧ True ∧ True) ∧ True ∧ True ∧ True) ∧ ((0 : Int) ≤ x.snd ∧ x.snd < (↑(List.length x.fst) : Int)) ∧ ∀ (e : Nd), x.fst[Int.toNat x.snd]? = some e → bcase (e.kind == (2 : Int)) (bcase (decide ((↑(List.length e.text) : Int) > (9 : Int))) (∃ (y : Unit), True ∧ (0 : Int) = oI (cV x.fst x.snd) ∧ false = Option.isSome (cV x.fst x.snd) ∧ True) False) (bcase (e.kind == (11 : Int)) (((0 : Int) ≤ (0 : Int) ∧ (0 : Int) < (↑(List.length e.kids) : Int)) ∧ ∀ (e_1 : Int), e.kids[(0 : Nat)]? = some e_1 → False) (bcase (e.kind == (7 : Int)) False (∃ (y : Unit), True ∧ (0 : Int) = oI (cV x.fst x.snd) ∧ false = Option.isSome (cV x.fst x.snd) ∧ True)))) := by kernel_rfl
theorem constZ_ok  : Contract Tryd.prog 28 s_constZ :=
  vcFun_ok (Γ := Γof []) (E := Eof []) (ov := false) (L := fun x => Lof ([])) Tryd.func28 rfl (by decide) (Γof_ok (l := []) trivial) fun (x : List Nd × Int) (hx : consP 0 x) => (constZ_vc  x).mpr (by
  have h1 := hx.2.2; have h2 := isNd_iff.1 hx.2.1.1
  omega)

def s_constS (n : Nat) : Sig := { X := List Nd × Int, args := fun x => [nds x.1, .int .i64 x.2], pre := fun x => consP (n + 1) x, Y := Unit, post := fun x y => True, res := fun x y => .tup [.int .i64 (oI (cV x.1 x.2)), .bool (cV x.1 x.2).isSome], outs := fun x y => [.top, .top], keep := false }
theorem constS_vc (n : Nat) (x : List Nd × Int) : vcFun Go.Proofs.Tryd.prog (Γof [(28, 0, (s_cR n)), (52, 0, (s_chainC n)), (51, 0, s_numberOf)]) (Eof []) false (Lof ([])) Go.Proofs.Tryd.f28.ntmps Go.Proofs.Tryd.f28.results.toList (Go.Proofs.Tryd.f28.body.getD .skip) (s_constS n) x = ((∀ (y : Unit), True → (True ∧ True ∧ True) ∧ True ∧ True ∧ True) ∧ ((0 : Int) ≤ x.snd ∧ x.snd < (↑(List.length x.fst) : Int)) ∧ ∀ (e : Nd), x.fst[Int.toNat x.snd]? = some e → bcase (e.kind == (2 : Int)) (bcase (decide ((↑(List.length e.text) : Int) > (9 : Int))) (∃ (y : Unit), True ∧ (0 : Int) = oI (cV x.fst x.snd) ∧ false = Option.isSome (cV x.fst x.snd) ∧ True) (∃ (x_1 : List UInt8), (List.all x_1 isFig = true ∧ List.length x_1 ≤ (9 : Nat)) ∧ e.text = x_1 ∧ ∀ (y : Unit), True → ∃ (y : Unit), True ∧ figV x_1 = oI (cV x.fst x.snd) ∧ true = Option.isSome (cV x.fst x.snd) ∧ True)) (bcase (e.kind == (11 : Int)) (((0 : Int) ≤ (0 : Int) ∧ (0 : Int) < (↑(List.length e.kids) : Int)) ∧ ∀ (e_1 : Int), e.kids[(0 : Nat)]? = some e_1 → ∃ (x_1 : List Nd × Int), consP n x_1 ∧ AV.sl false (0 : Nat) (4 : Nat) Nd (ndA false) x.fst = AV.sl false (0 : Nat) (4 : Nat) Nd (ndA false) x_1.fst ∧ e_1 = x_1.snd ∧ ∀ (y : Unit), True → ∃ (y : Unit), True ∧ oI (cV x_1.fst x_1.snd) = oI (cV x.fst x.snd) ∧ Option.isSome (cV x_1.fst x_1.snd) = Option.isSome (cV x.fst x.snd) ∧ True) (bcase (e.kind == (7 : Int)) (∃ (x_1 : List Nd × Nd), (okNds x_1.fst ∧ List.length x_1.snd.kids < (4611686018427387904 : Nat) ∧ ∀ (c : Int), c ∈ x_1.snd.kids → okUp x_1.fst c ∧ c < (↑n : Int)) ∧ AV.sl false (0 : Nat) (4 : Nat) Nd (ndA false) x.fst = AV.sl false (0 : Nat) (4 : Nat) Nd (ndA false) x_1.fst ∧ e.kind = x_1.snd.kind ∧ e.text = x_1.snd.text ∧ AV.sl false (0 : Nat) (1 : Nat) Int intA e.kids = AV.sl false (0 : Nat) (1 : Nat) Int intA x_1.snd.kids ∧ e.blank = x_1.snd.blank ∧ ∀ (y : Unit), True → ∃ (y : Unit), True ∧ oI (chainV x_1.snd.text (List.map (cV x_1.fst) x_1.snd.kids)) = oI (cV x.fst x.snd) ∧ Option.isSome (chainV x_1.snd.text (List.map (cV x_1.fst) x_1.snd.kids)) = Option.isSome (cV x.fst x.snd) ∧ True) (∃ (y : Unit), True ∧ (0 : Int) = oI (cV x.fst x.snd) ∧ false = Option.isSome (cV x.fst x.snd) ∧ True)))) := by kernel_rfl
theorem constS_ok (n : Nat) (hc : Contract Go.Proofs.Tryd.prog 28 (s_cR n)) : Contract Tryd.prog 28 (s_constS n) :=
  vcFun_ok (Γ := Γof [(28, 0, (s_cR n)), (52, 0, (s_chainC n)), (51, 0, s_numberOf)]) (E := Eof []) (ov := false) (L := fun x => Lof ([])) Tryd.func28 rfl (by decide) (Γof_ok (l := [(28, 0, (s_cR n)), (52, 0, (s_chainC n)), (51, 0, s_numberOf)]) ⟨hc, (chainC_ok n hc), numberOf_ok, trivial⟩) fun (x : List Nd × Int) (hx : consP (n + 1) x) => (constS_vc n x).mpr (by
  have h1 := hx.1; have hl := h1.1; have hn := isNd_iff.1 hx.2.1.1
  (repeat' first | with_reducible rfl | exact True.intro | refine inR_i64 ?_ ?_ | with_reducible refine And.intro ?_ ?_ | with_reducible refine bcase_dec (fun _ => ?_) (fun _ => ?_) | with_reducible refine bcase_bne (fun _ => ?_) (fun _ => ?_) | with_reducible refine bcase_beq (fun _ => ?_) (fun _ => ?_) | with_reducible refine bcase_not (fun _ => ?_) (fun _ => ?_) | refine bcase_intro (fun _ => ?_) (fun _ => ?_) | refine sl_eq ?_ | refine ex_flip () ?_ ?_ | (apply ex_flip6 <;> try dsimp only) | (apply ex_flip5 <;> try dsimp only) | (apply ex_flip4 <;> try dsimp only) | (apply ex_flip3 <;> try dsimp only) | (apply ex_flip2 <;> try dsimp only) | apply ex_flip | (refine Prod.forall.2 ?_; intro _; try dsimp only) | (intro _; try dsimp only))
  all_goals first
    | omega
    | exact h1
    | exact (okNds_at (by assumption) h1).2
    | (have h2 := consP_2 hx (by assumption) (by assumption); rw [h2.2]; first | (rw [if_pos (by omega)]; rfl) | (rw [if_neg (by omega)]; rfl))
    | exact (consP_2 hx (by assumption) (by assumption)).1.1
    | (have hcc := consP_kid hx (by assumption) (memE (by assumption)); exact ⟨h1, hcc.1, hcc.2⟩)
    | exact (consP_kid hx (by assumption) (by assumption)).1
    | exact (consP_kid hx (by assumption) (by assumption)).2
    | (rw [consP_7 hx (by assumption) (by assumption)]; done)
    | (rw [consP_0 hx (by assumption) (by assumption) (by assumption) (by assumption)]; rfl)
    | (obtain ⟨c, hk, hv⟩ := consP_11 hx (by assumption) (by assumption); have h0 := (show (Nd.kids _)[0]? = some _ by assumption); rw [hk] at h0; cases h0; rw [hv]; done)
    | (obtain ⟨c, hk, hv⟩ := consP_11 hx (by assumption) (by assumption); rw [hk]; simp; done)
    | skip)

end Go.My
