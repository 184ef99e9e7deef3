/- A part of the proof: the engine and the contracts, joined. -/
import Derived.Test.YtinkjpfkemkhaaaDoorQH
import Derived.Test.YtinkjpfkemkhaaaDoorProg
section
/- What is reckoned ahead: the program's functions. -/
set_option linter.unusedVariables false
set_option linter.unusedSimpArgs false
namespace Go.My
open Go.Eng Go.Proofs
variable {G : GInv}

def s_isValueAt  : Sig := { X := List Nd × Int, args := fun x => [nds x.1, .int .i64 x.2], pre := fun x => okNds x.1 ∧ x.1.length ≤ 2 ^ 30, Y := Unit, post := fun x y => True, res := fun x y => .bool (isVal (kindAt x.1 x.2) && !decide (deepOf x.1 x.2 = 0)), outs := fun x y => [.top, .top], keep := false }
theorem isValueAt_vc (x : List Nd × Int) : vcFun Go.Proofs.Tryd.prog (Γof [(48, 0, s_isNode), (49, 0, s_isValue), (50, 0, s_iDeepOf)]) (Eof []) false (Lof ([])) Go.Proofs.Tryd.f27.ntmps Go.Proofs.Tryd.f27.results.toList (Go.Proofs.Tryd.f27.body.getD .skip) s_isValueAt x = ((∀ (y : Unit), True → True ∧ True ∧ True ∧ True) ∧ ∃ (x_1 : List Nd × Int), List.length x_1.fst < (4611686018427387904 : Nat) ∧ AV.sl false (0 : Nat) (4 : Nat) Nd (ndA false) x.fst = AV.sl false (0 : Nat) (4 : Nat) Nd (ndA false) x_1.fst ∧ x.snd = x_1.snd ∧ ∀ (y : Unit), True → bcase (isNd x_1.fst x_1.snd) (((0 : Int) ≤ x.snd ∧ x.snd < (↑(List.length x.fst) : Int)) ∧ ∀ (e : Nd), x.fst[Int.toNat x.snd]? = some e → ∃ (x_2 : Int), True ∧ e.kind = x_2 ∧ ∀ (y : Unit), True → bcase (isVal x_2) (∃ (x_3 : List Nd × Int), (okNds x_3.fst ∧ List.length x_3.fst ≤ (1073741824 : Nat)) ∧ AV.sl false (0 : Nat) (4 : Nat) Nd (ndA false) x.fst = AV.sl false (0 : Nat) (4 : Nat) Nd (ndA false) x_3.fst ∧ x.snd = x_3.snd ∧ ∀ (y : Unit), True → ∃ (y : Unit), True ∧ decide (deepOf x_3.fst x_3.snd > (0 : Int)) = (isVal (kindAt x.fst x.snd) && !decide (deepOf x.fst x.snd = (0 : Int))) ∧ True) (∃ (y : Unit), True ∧ false = (isVal (kindAt x.fst x.snd) && !decide (deepOf x.fst x.snd = (0 : Int))) ∧ True)) (∃ (y : Unit), True ∧ false = (isVal (kindAt x.fst x.snd) && !decide (deepOf x.fst x.snd = (0 : Int))) ∧ True)) := by kernel_rfl
theorem isValueAt_ok  : Contract G Tryd.prog 27 s_isValueAt :=
  vcFun_ok (Γ := Γof [(48, 0, s_isNode), (49, 0, s_isValue), (50, 0, s_iDeepOf)]) (E := Eof []) (ov := false) (L := fun x => Lof ([])) Tryd.func27 rfl (by decide) (Γof_ok (l := [(48, 0, s_isNode), (49, 0, s_isValue), (50, 0, s_iDeepOf)]) ⟨isNode_ok, isValue_ok, iDeepOf_ok, trivial⟩) fun (x : List Nd × Int) (hx : okNds x.1 ∧ x.1.length ≤ 2 ^ 30) => (isValueAt_vc  x).mpr (by
  obtain ⟨h1, h2⟩ := hx; have hl := h1.1
  (repeat' first | with_reducible rfl | exact True.intro | refine inR_i64 ?_ ?_ | with_reducible refine And.intro ?_ ?_ | with_reducible refine bcase_dec (fun _ => ?_) (fun _ => ?_) | with_reducible refine bcase_bne (fun _ => ?_) (fun _ => ?_) | with_reducible refine bcase_beq (fun _ => ?_) (fun _ => ?_) | with_reducible refine bcase_not (fun _ => ?_) (fun _ => ?_) | refine bcase_intro (fun _ => ?_) (fun _ => ?_) | refine sl_eq ?_ | refine ex_flip () ?_ ?_ | (apply ex_flip6 <;> try dsimp only) | (apply ex_flip5 <;> try dsimp only) | (apply ex_flip4 <;> try dsimp only) | (apply ex_flip3 <;> try dsimp only) | (apply ex_flip2 <;> try dsimp only) | apply ex_flip | (refine Prod.forall.2 ?_; intro _; try dsimp only) | (intro _; try dsimp only))
  all_goals try (have hn := isNd_iff.1 (show isNd x.1 x.2 = true by assumption))
  all_goals first
    | exact h1
    | exact h2
    | omega
    | (have h0 := dp_no (show isNd x.1 x.2 = false by assumption); simp [← h0]; done)
    | (rw [kindAt, ndAt_of (by assumption)]; have hd := @deepOf_nonneg x.1 x.2; by_cases h0 : deepOf x.1 x.2 = 0 <;> simp [*] <;> omega)
    | skip)

theorem inR_u8 {n : Int} (h1 : 0 ≤ n) (h2 : n ≤ 255) : inR .u8 n := by
  unfold inR; simp [IntKind.min, IntKind.max, IntKind.bits, IntKind.signed]; omega
theorem fig_at {s : List UInt8} {n : Nat} {c : UInt8} (h : s.all isFig = true) (hc : s[n]? = some c) : 48 ≤ c.toNat ∧ c.toNat ≤ 57 := by
  have := List.all_eq_true.1 h c (memE hc)
  simpa [isFig] using this
def s_numberOf  : Sig := { X := List UInt8, args := fun x => [.str x], pre := fun x => x.all isFig = true ∧ x.length ≤ 9, Y := Unit, post := fun x y => True, res := fun x y => .int .i64 (figV x), outs := fun x y => [.top], keep := false }
theorem numberOf_vc (x : List UInt8) : vcFun Go.Proofs.Tryd.prog (Γof []) (Eof []) false (Lof ([(3,{ ι := Int, inv := fun i => 0 ≤ i ∧ i ≤ x.length, regs := fun i => [(0, .str x), (3, .int .i64 (figV (x.take i.toNat))), (4, .int .i64 i)], als := [], meas := fun i => x.length - i.toNat })])) Go.Proofs.Tryd.f51.ntmps Go.Proofs.Tryd.f51.results.toList (Go.Proofs.Tryd.f51.body.getD .skip) s_numberOf x = ((∀ (y : Unit), True → True ∧ True ∧ True) ∧ (∃ (i : Int), ((0 : Int) ≤ i ∧ i ≤ (↑(List.length x) : Int)) ∧ (x = x ∧ (0 : Int) = figV (List.take (Int.toNat i) x) ∧ (0 : Int) = i ∧ True) ∧ True) ∧ ∀ (i : Int), (0 : Int) ≤ i ∧ i ≤ (↑(List.length x) : Int) → bcase (decide (i < (↑(List.length x) : Int))) (inR IntKind.i64 (figV (List.take (Int.toNat i) x) * (10 : Int)) ∧ ((0 : Int) ≤ i ∧ i < (↑(List.length x) : Int)) ∧ ∀ (c : UInt8), x[Int.toNat i]? = some c → inR IntKind.u8 ((↑(UInt8.toNat c) : Int) - (48 : Int)) ∧ inR IntKind.i64 ((↑(UInt8.toNat c) : Int) - (48 : Int)) ∧ inR IntKind.i64 (figV (List.take (Int.toNat i) x) * (10 : Int) + ((↑(UInt8.toNat c) : Int) - (48 : Int))) ∧ inR IntKind.i64 (i + (1 : Int)) ∧ ∃ (i' : Int), ((0 : Int) ≤ i' ∧ i' ≤ (↑(List.length x) : Int)) ∧ List.length x - Int.toNat i' < List.length x - Int.toNat i ∧ (x = x ∧ figV (List.take (Int.toNat i) x) * (10 : Int) + ((↑(UInt8.toNat c) : Int) - (48 : Int)) = figV (List.take (Int.toNat i') x) ∧ i + (1 : Int) = i' ∧ True) ∧ True) (∃ (y : Unit), True ∧ figV (List.take (Int.toNat i) x) = figV x ∧ True)) := by kernel_rfl
theorem numberOf_ok  : Contract G Tryd.prog 51 s_numberOf :=
  vcFun_ok (Γ := Γof []) (E := Eof []) (ov := false) (L := fun x => Lof ([(3,{ ι := Int, inv := fun i => 0 ≤ i ∧ i ≤ x.length, regs := fun i => [(0, .str x), (3, .int .i64 (figV (x.take i.toNat))), (4, .int .i64 i)], als := [], meas := fun i => x.length - i.toNat })])) Tryd.func51 rfl (by decide) (Γof_ok (l := []) trivial) fun (x : List UInt8) (hx : x.all isFig = true ∧ x.length ≤ 9) => (numberOf_vc  x).mpr (by
  obtain ⟨h1, h2⟩ := hx
  have hb : ∀ i : Int, 0 ≤ figV (x.take i.toNat) ∧ figV (x.take i.toNat) < 1000000000 := fun i => figV_bd (List.all_eq_true.2 fun c hc => List.all_eq_true.1 h1 c (List.mem_of_mem_take hc)) (by simp; omega)
  (repeat' first | with_reducible rfl | exact True.intro | refine inR_i64 ?_ ?_ | with_reducible refine And.intro ?_ ?_ | with_reducible refine bcase_dec (fun _ => ?_) (fun _ => ?_) | with_reducible refine bcase_bne (fun _ => ?_) (fun _ => ?_) | with_reducible refine bcase_beq (fun _ => ?_) (fun _ => ?_) | with_reducible refine bcase_not (fun _ => ?_) (fun _ => ?_) | refine bcase_intro (fun _ => ?_) (fun _ => ?_) | refine sl_eq ?_ | refine ex_flip () ?_ ?_ | (apply ex_flip6 <;> try dsimp only) | (apply ex_flip5 <;> try dsimp only) | (apply ex_flip4 <;> try dsimp only) | (apply ex_flip3 <;> try dsimp only) | (apply ex_flip2 <;> try dsimp only) | apply ex_flip | (refine Prod.forall.2 ?_; intro _; try dsimp only) | (intro _; try dsimp only))
  all_goals try (have hf := fig_at h1 (show x[Int.toNat _]? = some _ by assumption))
  all_goals try (have hbb := hb (by assumption))
  all_goals first
    | rfl
    | omega
    | exact inR_u8 (by omega) (by omega)
    | ((try simp only [i64max]); omega)
    | (rw [toNat1 (by omega), figV_take (by assumption)]; done)
    | (rw [List.take_of_length_le (by omega)]; done)
    | skip)

def s_reckon  : Sig := { X := List UInt8 × Int × Int, args := fun x => [.str x.1, .int .i64 x.2.1, .int .i64 x.2.2], pre := fun x => bdd x.2.1 ∧ bdd x.2.2, Y := Unit, post := fun x y => True, res := fun x y => .int .i64 (reck x.1 x.2.1 x.2.2), outs := fun x y => [.top, .top, .top], keep := false }
theorem reckon_vc (x : List UInt8 × Int × Int) : vcFun Go.Proofs.Tryd.prog (Γof []) (Eof []) false (Lof ([])) Go.Proofs.Tryd.f59.ntmps Go.Proofs.Tryd.f59.results.toList (Go.Proofs.Tryd.f59.body.getD .skip) s_reckon x = ((∀ (y : Unit), True → True ∧ True ∧ True ∧ True ∧ True) ∧ bcase (x.fst == #[(43 : UInt8)].toList) (inR IntKind.i64 (x.snd.fst + x.snd.snd) ∧ ∃ (y : Unit), True ∧ x.snd.fst + x.snd.snd = reck x.fst x.snd.fst x.snd.snd ∧ True) (bcase (x.fst == #[(45 : UInt8)].toList) (inR IntKind.i64 (x.snd.fst - x.snd.snd) ∧ ∃ (y : Unit), True ∧ x.snd.fst - x.snd.snd = reck x.fst x.snd.fst x.snd.snd ∧ True) (inR IntKind.i64 (x.snd.fst * x.snd.snd) ∧ ∃ (y : Unit), True ∧ x.snd.fst * x.snd.snd = reck x.fst x.snd.fst x.snd.snd ∧ True))) := by kernel_rfl
theorem reckon_ok  : Contract G Tryd.prog 59 s_reckon :=
  vcFun_ok (Γ := Γof []) (E := Eof []) (ov := false) (L := fun x => Lof ([])) Tryd.func59 rfl (by decide) (Γof_ok (l := []) trivial) fun (x : List UInt8 × Int × Int) (hx : bdd x.2.1 ∧ bdd x.2.2) => (reckon_vc  x).mpr (by
  obtain ⟨h1, h2⟩ := hx
  have hm := mul_bd h1.1 h1.2 h2.1 h2.2
  unfold bdd at h1 h2
  (repeat' first | with_reducible rfl | exact True.intro | refine inR_i64 ?_ ?_ | with_reducible refine And.intro ?_ ?_ | with_reducible refine bcase_dec (fun _ => ?_) (fun _ => ?_) | with_reducible refine bcase_bne (fun _ => ?_) (fun _ => ?_) | with_reducible refine bcase_beq (fun _ => ?_) (fun _ => ?_) | with_reducible refine bcase_not (fun _ => ?_) (fun _ => ?_) | refine bcase_intro (fun _ => ?_) (fun _ => ?_) | refine sl_eq ?_ | refine ex_flip () ?_ ?_ | (apply ex_flip6 <;> try dsimp only) | (apply ex_flip5 <;> try dsimp only) | (apply ex_flip4 <;> try dsimp only) | (apply ex_flip3 <;> try dsimp only) | (apply ex_flip2 <;> try dsimp only) | apply ex_flip | (refine Prod.forall.2 ?_; intro _; try dsimp only) | (intro _; try dsimp only))
  all_goals first
    | (simp [reck, *]; done)
    | ((try simp only [i64max]); omega)
    | skip)

def consP (n : Nat) (x : List Nd × Int) : Prop := okNds x.1 ∧ okUp x.1 x.2 ∧ x.2 < n
def s_cR (n : Nat) : Sig := { X := List Nd × Int, args := fun x => [nds x.1, .int .i64 x.2], pre := fun x => consP n x, Y := Unit, post := fun x y => True, res := fun x y => .tup [.int .i64 (oI (cV x.1 x.2)), .bool (cV x.1 x.2).isSome], outs := fun x y => [.top, .top], keep := false }
def cI (ns : List Nd) (x : Nd) (i s : Int) : Prop := 0 ≤ i ∧ i ≤ x.kids.length ∧ bdd s ∧ chainF x.text ((x.kids.take i.toNat).map (cV ns)) = some s
theorem cI_init {ns : List Nd} {x : Nd} : cI ns x 0 0 := ⟨by omega, by omega, by unfold bdd; omega, rfl⟩
theorem cI_first {ns : List Nd} {x : Nd} {i s c : Int} (h : cI ns x i s) (hc : x.kids[i.toNat]? = some c) (hi : i = 0) (hu : okUp ns c) (hs : (cV ns c).isSome = true) : cI ns x (i + 1) (oI (cV ns c)) := by
  subst hi
  have := (getE hc).1
  refine ⟨by omega, by omega, oI_bd hu, ?_⟩
  rw [toNat1 (by omega), takeE hc]
  simp only [Int.toNat_zero, List.take_zero, List.nil_append, List.map_cons, List.map_nil, chainF, List.foldl_nil]
  rw [oI]; cases hv : cV ns c with
  | none => rw [hv] at hs; cases hs
  | some v => rfl
theorem cI_snoc {ns : List Nd} {x : Nd} {i s c : Int} (h : cI ns x i s) (hc : x.kids[i.toNat]? = some c) (hi : i ≠ 0) : chainF x.text ((x.kids.take (i + 1).toNat).map (cV ns)) = stepV x.text (some s) (cV ns c) := by
  rw [toNat1 h.1, takeE hc, List.map_append, List.map_cons, List.map_nil, chainF_snoc, h.2.2.2]
  have := (getE hc).1
  intro e
  simp only [List.map_eq_nil_iff, List.take_eq_nil_iff] at e
  rcases e with e | e
  · have := h.1; omega
  · rw [e] at this; simp at this
theorem some_oI {o : Option Int} (h : o.isSome = true) : o = some (oI o) := by
  cases o with
  | none => cases h
  | some v => rfl
theorem cI_next {ns : List Nd} {x : Nd} {i s c : Int} (h : cI ns x i s) (hc : x.kids[i.toNat]? = some c) (hi : i ≠ 0) (hs : (cV ns c).isSome = true) (hr : inn (reck x.text s (oI (cV ns c))) (-1000000000) 1000000000 = true) : cI ns x (i + 1) (reck x.text s (oI (cV ns c))) := by
  have := (getE hc).1
  have h0 := h.1
  refine ⟨by omega, by omega, inn_iff.1 hr, ?_⟩
  rw [cI_snoc h hc hi, some_oI hs]
  simp only [stepV]; rw [if_pos hr]; rfl
theorem cI_bad {ns : List Nd} {x : Nd} {i s c : Int} (h : cI ns x i s) (hc : x.kids[i.toNat]? = some c) (hi : i ≠ 0) (hs : (cV ns c).isSome = true) (hr : inn (reck x.text s (oI (cV ns c))) (-1000000000) 1000000000 = false) : chainF x.text (x.kids.map (cV ns)) = none := by
  have e : x.kids = x.kids.take (i + 1).toNat ++ x.kids.drop (i + 1).toNat := (List.take_append_drop _ _).symm
  have h1 := cI_snoc h hc hi
  rw [some_oI hs] at h1
  simp only [stepV] at h1
  rw [if_neg (by simp [hr])] at h1
  rw [e, List.map_append]
  refine chainF_none ?_ h1
  intro e2; rw [e2] at h1; cases h1
theorem cI_none {ns : List Nd} {x : Nd} {i s c : Int} (h : cI ns x i s) (hc : x.kids[i.toNat]? = some c) (hs : (cV ns c).isSome = false) : chainF x.text (x.kids.map (cV ns)) = none := by
  have hs : cV ns c = none := by cases hv : cV ns c with
    | none => rfl
    | some v => rw [hv] at hs; cases hs
  have e : x.kids = x.kids.take (i + 1).toNat ++ x.kids.drop (i + 1).toNat := (List.take_append_drop _ _).symm
  have h1 : chainF x.text ((x.kids.take (i + 1).toNat).map (cV ns)) = none := by
    by_cases hi : i = 0
    · subst hi; rw [toNat1 (by omega), takeE hc]
      simp [chainF, hs]
    · rw [cI_snoc h hc hi, hs]; rfl
  rw [e, List.map_append]
  refine chainF_none ?_ h1
  intro e2; rw [e2] at h1; cases h1
theorem cI_done {ns : List Nd} {x : Nd} {i s : Int} (h : cI ns x i s) (hl : ¬ i < x.kids.length) : chainF x.text (x.kids.map (cV ns)) = some s := by
  have h3 := h.2.2.2
  rwa [List.take_of_length_le (by have := h.1; omega)] at h3
def s_chainC (n : Nat) : Sig := { X := List Nd × Nd, args := fun x => [nds x.1, .agg (ndA false x.2)], pre := fun x => okNds x.1 ∧ x.2.kids.length < 2 ^ 62 ∧ ∀ c ∈ x.2.kids, okUp x.1 c ∧ c < n, Y := Unit, post := fun x y => True, res := fun x y => .tup [.int .i64 (oI (chainV x.2.text (x.2.kids.map (cV x.1)))), .bool (chainV x.2.text (x.2.kids.map (cV x.1))).isSome], outs := fun x y => [.top, .top], keep := false }
theorem chainC_vc (n : Nat) (x : List Nd × Nd) : vcFun Go.Proofs.Tryd.prog (Γof [(28, 0, (s_cR n)), (59, 0, s_reckon), (54, 0, s_inRange)]) (Eof []) false (Lof ([(5,{ ι := Int × Int, inv := fun i => cI x.1 x.2 i.1 i.2, regs := fun i => [(0, nds x.1), (3, .box 0 (ndA false x.2)), (6, .int .i64 i.2), (25, ints x.2.kids), (26, .int .i64 x.2.kids.length), (27, .int .i64 i.1)], als := [], meas := fun i => x.2.kids.length - i.1.toNat })])) Go.Proofs.Tryd.f52.ntmps Go.Proofs.Tryd.f52.results.toList (Go.Proofs.Tryd.f52.body.getD .skip) (s_chainC n) x = ((∀ (y : Unit), True → (True ∧ True ∧ True) ∧ True ∧ True ∧ True) ∧ bcase (!x.snd.text == #[(43 : UInt8)].toList) (bcase (!x.snd.text == #[(45 : UInt8)].toList) (bcase (!x.snd.text == #[(42 : UInt8)].toList) (∃ (y : Unit), True ∧ (0 : Int) = oI (chainV x.snd.text (List.map (cV x.fst) x.snd.kids)) ∧ false = Option.isSome (chainV x.snd.text (List.map (cV x.fst) x.snd.kids)) ∧ True) ((∃ (i : Int × Int), cI x.fst x.snd i.fst i.snd ∧ (AV.sl false (0 : Nat) (4 : Nat) Nd (ndA false) x.fst = AV.sl false (0 : Nat) (4 : Nat) Nd (ndA false) x.fst ∧ x.snd.kind = x.snd.kind ∧ x.snd.text = x.snd.text ∧ AV.sl false (0 : Nat) (1 : Nat) Int intA x.snd.kids = AV.sl false (0 : Nat) (1 : Nat) Int intA x.snd.kids ∧ x.snd.blank = x.snd.blank ∧ (0 : Int) = i.snd ∧ AV.sl false (0 : Nat) (1 : Nat) Int intA x.snd.kids = AV.sl false (0 : Nat) (1 : Nat) Int intA x.snd.kids ∧ (↑(List.length x.snd.kids) : Int) = (↑(List.length x.snd.kids) : Int) ∧ (0 : Int) = i.fst ∧ True) ∧ True) ∧ ∀ (i : Int × Int), cI x.fst x.snd i.fst i.snd → bcase (decide (i.fst < (↑(List.length x.snd.kids) : Int))) (((0 : Int) ≤ i.fst ∧ i.fst < (↑(List.length x.snd.kids) : Int)) ∧ ∀ (e : Int), x.snd.kids[Int.toNat i.fst]? = some e → ∃ (x_1 : List Nd × Int), consP n x_1 ∧ AV.sl false (0 : Nat) (4 : Nat) Nd (ndA false) x.fst = AV.sl false (0 : Nat) (4 : Nat) Nd (ndA false) x_1.fst ∧ e = x_1.snd ∧ ∀ (y : Unit), True → bcase (!Option.isSome (cV x_1.fst x_1.snd)) (∃ (y : Unit), True ∧ (0 : Int) = oI (chainV x.snd.text (List.map (cV x.fst) x.snd.kids)) ∧ false = Option.isSome (chainV x.snd.text (List.map (cV x.fst) x.snd.kids)) ∧ True) (bcase (i.fst == (0 : Int)) (inR IntKind.i64 (i.fst + (1 : Int)) ∧ ∃ (i' : Int × Int), cI x.fst x.snd i'.fst i'.snd ∧ List.length x.snd.kids - Int.toNat i'.fst < List.length x.snd.kids - Int.toNat i.fst ∧ (AV.sl false (0 : Nat) (4 : Nat) Nd (ndA false) x.fst = AV.sl false (0 : Nat) (4 : Nat) Nd (ndA false) x.fst ∧ x.snd.kind = x.snd.kind ∧ x.snd.text = x.snd.text ∧ AV.sl false (0 : Nat) (1 : Nat) Int intA x.snd.kids = AV.sl false (0 : Nat) (1 : Nat) Int intA x.snd.kids ∧ x.snd.blank = x.snd.blank ∧ oI (cV x_1.fst x_1.snd) = i'.snd ∧ AV.sl false (0 : Nat) (1 : Nat) Int intA x.snd.kids = AV.sl false (0 : Nat) (1 : Nat) Int intA x.snd.kids ∧ (↑(List.length x.snd.kids) : Int) = (↑(List.length x.snd.kids) : Int) ∧ i.fst + (1 : Int) = i'.fst ∧ True) ∧ True) (∃ (x_2 : List UInt8 × Int × Int), (bdd x_2.snd.fst ∧ bdd x_2.snd.snd) ∧ x.snd.text = x_2.fst ∧ i.snd = x_2.snd.fst ∧ oI (cV x_1.fst x_1.snd) = x_2.snd.snd ∧ ∀ (y : Unit), True → ∃ (x_3 : Int × Int × Int), True ∧ reck x_2.fst x_2.snd.fst x_2.snd.snd = x_3.fst ∧ (-1000000000 : Int) = x_3.snd.fst ∧ (1000000000 : Int) = x_3.snd.snd ∧ ∀ (y : Unit), True → bcase (!inn x_3.fst x_3.snd.fst x_3.snd.snd) (∃ (y : Unit), True ∧ (0 : Int) = oI (chainV x.snd.text (List.map (cV x.fst) x.snd.kids)) ∧ false = Option.isSome (chainV x.snd.text (List.map (cV x.fst) x.snd.kids)) ∧ True) (inR IntKind.i64 (i.fst + (1 : Int)) ∧ ∃ (i' : Int × Int), cI x.fst x.snd i'.fst i'.snd ∧ List.length x.snd.kids - Int.toNat i'.fst < List.length x.snd.kids - Int.toNat i.fst ∧ (AV.sl false (0 : Nat) (4 : Nat) Nd (ndA false) x.fst = AV.sl false (0 : Nat) (4 : Nat) Nd (ndA false) x.fst ∧ x.snd.kind = x.snd.kind ∧ x.snd.text = x.snd.text ∧ AV.sl false (0 : Nat) (1 : Nat) Int intA x.snd.kids = AV.sl false (0 : Nat) (1 : Nat) Int intA x.snd.kids ∧ x.snd.blank = x.snd.blank ∧ reck x_2.fst x_2.snd.fst x_2.snd.snd = i'.snd ∧ AV.sl false (0 : Nat) (1 : Nat) Int intA x.snd.kids = AV.sl false (0 : Nat) (1 : Nat) Int intA x.snd.kids ∧ (↑(List.length x.snd.kids) : Int) = (↑(List.length x.snd.kids) : Int) ∧ i.fst + (1 : Int) = i'.fst ∧ True) ∧ True)))) (∃ (y : Unit), True ∧ i.snd = oI (chainV x.snd.text (List.map (cV x.fst) x.snd.kids)) ∧ true = Option.isSome (chainV x.snd.text (List.map (cV x.fst) x.snd.kids)) ∧ True))) ((∃ (i : Int × Int), cI x.fst x.snd i.fst i.snd ∧ (AV.sl false (0 : Nat) (4 : Nat) Nd (ndA false) x.fst = AV.sl false (0 : Nat) (4 : Nat) Nd (ndA false) x.fst ∧ x.snd.kind = x.snd.kind ∧ x.snd.text = x.snd.text ∧ AV.sl false (0 : Nat) (1 : Nat) Int intA x.snd.kids = AV.sl false (0 : Nat) (1 : Nat) Int intA x.snd.kids ∧ x.snd.blank = x.snd.blank ∧ (0 : Int) = i.snd ∧ AV.sl false (0 : Nat) (1 : Nat) Int intA x.snd.kids = AV.sl false (0 : Nat) (1 : Nat) Int intA x.snd.kids ∧ (↑(List.length x.snd.kids) : Int) = (↑(List.length x.snd.kids) : Int) ∧ (0 : Int) = i.fst ∧ True) ∧ True) ∧ ∀ (i : Int × Int), cI x.fst x.snd i.fst i.snd → bcase (decide (i.fst < (↑(List.length x.snd.kids) : Int))) (((0 : Int) ≤ i.fst ∧ i.fst < (↑(List.length x.snd.kids) : Int)) ∧ ∀ (e : Int), x.snd.kids[Int.toNat i.fst]? = some e → ∃ (x_1 : List Nd × Int), consP n x_1 ∧ AV.sl false (0 : Nat) (4 : Nat) Nd (ndA false) x.fst = AV.sl false (0 : Nat) (4 : Nat) Nd (ndA false) x_1.fst ∧ e = x_1.snd ∧ ∀ (y : Unit), True → bcase (!Option.isSome (cV x_1.fst x_1.snd)) (∃ (y : Unit), True ∧ (0 : Int) = oI (chainV x.snd.text (List.map (cV x.fst) x.snd.kids)) ∧ false = Option.isSome (chainV x.snd.text (List.map (cV x.fst) x.snd.kids)) ∧ True) (bcase (i.fst == (0 : Int)) (inR IntKind.i64 (i.fst + (1 : Int)) ∧ ∃ (i' : Int × Int), cI x.fst x.snd i'.fst i'.snd ∧ List.length x.snd.kids - Int.toNat i'.fst < List.length x.snd.kids - Int.toNat i.fst ∧ (AV.sl false (0 : Nat) (4 : Nat) Nd (ndA false) x.fst = AV.sl false (0 : Nat) (4 : Nat) Nd (ndA false) x.fst ∧ x.snd.kind = x.snd.kind ∧ x.snd.text = x.snd.text ∧ AV.sl false (0 : Nat) (1 : Nat) Int intA x.snd.kids = AV.sl false (0 : Nat) (1 : Nat) Int intA x.snd.kids ∧ x.snd.blank = x.snd.blank ∧ oI (cV x_1.fst x_1.snd) = i'.snd ∧ AV.sl false (0 : Nat) (1 : Nat) Int intA x.snd.kids = AV.sl false (0 : Nat) (1 : Nat) Int intA x.snd.kids ∧ (↑(List.length x.snd.kids) : Int) = (↑(List.length x.snd.kids) : Int) ∧ i.fst + (1 : Int) = i'.fst ∧ True) ∧ True) (∃ (x_2 : List UInt8 × Int × Int), (bdd x_2.snd.fst ∧ bdd x_2.snd.snd) ∧ x.snd.text = x_2.fst ∧ i.snd = x_2.snd.fst ∧ oI (cV x_1.fst x_1.snd) = x_2.snd.snd ∧ ∀ (y : Unit), True → ∃ (x_3 : Int × Int × Int), True ∧ reck x_2.fst x_2.snd.fst x_2.snd.snd = x_3.fst ∧ (-1000000000 : Int) = x_3.snd.fst ∧ (1000000000 : Int) = x_3.snd.snd ∧ ∀ (y : Unit), True → bcase (!inn x_3.fst x_3.snd.fst x_3.snd.snd) (∃ (y : Unit), True ∧ (0 : Int) = oI (chainV x.snd.text (List.map (cV x.fst) x.snd.kids)) ∧ false = Option.isSome (chainV x.snd.text (List.map (cV x.fst) x.snd.kids)) ∧ True) (inR IntKind.i64 (i.fst + (1 : Int)) ∧ ∃ (i' : Int × Int), cI x.fst x.snd i'.fst i'.snd ∧ List.length x.snd.kids - Int.toNat i'.fst < List.length x.snd.kids - Int.toNat i.fst ∧ (AV.sl false (0 : Nat) (4 : Nat) Nd (ndA false) x.fst = AV.sl false (0 : Nat) (4 : Nat) Nd (ndA false) x.fst ∧ x.snd.kind = x.snd.kind ∧ x.snd.text = x.snd.text ∧ AV.sl false (0 : Nat) (1 : Nat) Int intA x.snd.kids = AV.sl false (0 : Nat) (1 : Nat) Int intA x.snd.kids ∧ x.snd.blank = x.snd.blank ∧ reck x_2.fst x_2.snd.fst x_2.snd.snd = i'.snd ∧ AV.sl false (0 : Nat) (1 : Nat) Int intA x.snd.kids = AV.sl false (0 : Nat) (1 : Nat) Int intA x.snd.kids ∧ (↑(List.length x.snd.kids) : Int) = (↑(List.length x.snd.kids) : Int) ∧ i.fst + (1 : Int) = i'.fst ∧ True) ∧ True)))) (∃ (y : Unit), True ∧ i.snd = oI (chainV x.snd.text (List.map (cV x.fst) x.snd.kids)) ∧ true = Option.isSome (chainV x.snd.text (List.map (cV x.fst) x.snd.kids)) ∧ True))) ((∃ (i : Int × Int), cI x.fst x.snd i.fst i.snd ∧ (AV.sl false (0 : Nat) (4 : Nat) Nd (ndA false) x.fst = AV.sl false (0 : Nat) (4 : Nat) Nd (ndA false) x.fst ∧ x.snd.kind = x.snd.kind ∧ x.snd.text = x.snd.text ∧ AV.sl false (0 : Nat) (1 : Nat) Int intA x.snd.kids = AV.sl false (0 : Nat) (1 : Nat) Int intA x.snd.kids ∧ x.snd.blank = x.snd.blank ∧ (0 : Int) = i.snd ∧ AV.sl false (0 : Nat) (1 : Nat) Int intA x.snd.kids = AV.sl false (0 : Nat) (1 : Nat) Int intA x.snd.kids ∧ (↑(List.length x.snd.kids) : Int) = (↑(List.length x.snd.kids) : Int) ∧ (0 : Int) = i.fst ∧ True) ∧ True) ∧ ∀ (i : Int × Int), cI x.fst x.snd i.fst i.snd → bcase (decide (i.fst < (↑(List.length x.snd.kids) : Int))) (((0 : Int) ≤ i.fst ∧ i.fst < (↑(List.length x.snd.kids) : Int)) ∧ ∀ (e : Int), x.snd.kids[Int.toNat i.fst]? = some e → ∃ (x_1 : List Nd × Int), consP n x_1 ∧ AV.sl false (0 : Nat) (4 : Nat) Nd (ndA false) x.fst = AV.sl false (0 : Nat) (4 : Nat) Nd (ndA false) x_1.fst ∧ e = x_1.snd ∧ ∀ (y : Unit), True → bcase (!Option.isSome (cV x_1.fst x_1.snd)) (∃ (y : Unit), True ∧ (0 : Int) = oI (chainV x.snd.text (List.map (cV x.fst) x.snd.kids)) ∧ false = Option.isSome (chainV x.snd.text (List.map (cV x.fst) x.snd.kids)) ∧ True) (bcase (i.fst == (0 : Int)) (inR IntKind.i64 (i.fst + (1 : Int)) ∧ ∃ (i' : Int × Int), cI x.fst x.snd i'.fst i'.snd ∧ List.length x.snd.kids - Int.toNat i'.fst < List.length x.snd.kids - Int.toNat i.fst ∧ (AV.sl false (0 : Nat) (4 : Nat) Nd (ndA false) x.fst = AV.sl false (0 : Nat) (4 : Nat) Nd (ndA false) x.fst ∧ x.snd.kind = x.snd.kind ∧ x.snd.text = x.snd.text ∧ AV.sl false (0 : Nat) (1 : Nat) Int intA x.snd.kids = AV.sl false (0 : Nat) (1 : Nat) Int intA x.snd.kids ∧ x.snd.blank = x.snd.blank ∧ oI (cV x_1.fst x_1.snd) = i'.snd ∧ AV.sl false (0 : Nat) (1 : Nat) Int intA x.snd.kids = AV.sl false (0 : Nat) (1 : Nat) Int intA x.snd.kids ∧ (↑(List.length x.snd.kids) : Int) = (↑(List.length x.snd.kids) : Int) ∧ i.fst + (1 : Int) = i'.fst ∧ True) ∧ True) (∃ (x_2 : List UInt8 × Int × Int), (bdd x_2.snd.fst ∧ bdd x_2.snd.snd) ∧ x.snd.text = x_2.fst ∧ i.snd = x_2.snd.fst ∧ oI (cV x_1.fst x_1.snd) = x_2.snd.snd ∧ ∀ (y : Unit), True → ∃ (x_3 : Int × Int × Int), True ∧ reck x_2.fst x_2.snd.fst x_2.snd.snd = x_3.fst ∧ (-1000000000 : Int) = x_3.snd.fst ∧ (1000000000 : Int) = x_3.snd.snd ∧ ∀ (y : Unit), True → bcase (!inn x_3.fst x_3.snd.fst x_3.snd.snd) (∃ (y : Unit), True ∧ (0 : Int) = oI (chainV x.snd.text (List.map (cV x.fst) x.snd.kids)) ∧ false = Option.isSome (chainV x.snd.text (List.map (cV x.fst) x.snd.kids)) ∧ True) (inR IntKind.i64 (i.fst + (1 : Int)) ∧ ∃ (i' : Int × Int), cI x.fst x.snd i'.fst i'.snd ∧ List.length x.snd.kids - Int.toNat i'.fst < List.length x.snd.kids - Int.toNat i.fst ∧ (AV.sl false (0 : Nat) (4 : Nat) Nd (ndA false) x.fst = AV.sl false (0 : Nat) (4 : Nat) Nd (ndA false) x.fst ∧ x.snd.kind = x.snd.kind ∧ x.snd.text = x.snd.text ∧ AV.sl false (0 : Nat) (1 : Nat) Int intA x.snd.kids = AV.sl false (0 : Nat) (1 : Nat) Int intA x.snd.kids ∧ x.snd.blank = x.snd.blank ∧ reck x_2.fst x_2.snd.fst x_2.snd.snd = i'.snd ∧ AV.sl false (0 : Nat) (1 : Nat) Int intA x.snd.kids = AV.sl false (0 : Nat) (1 : Nat) Int intA x.snd.kids ∧ (↑(List.length x.snd.kids) : Int) = (↑(List.length x.snd.kids) : Int) ∧ i.fst + (1 : Int) = i'.fst ∧ True) ∧ True)))) (∃ (y : Unit), True ∧ i.snd = oI (chainV x.snd.text (List.map (cV x.fst) x.snd.kids)) ∧ true = Option.isSome (chainV x.snd.text (List.map (cV x.fst) x.snd.kids)) ∧ True))) := by kernel_rfl
theorem chainC_ok (n : Nat) (hc : Contract G Go.Proofs.Tryd.prog 28 (s_cR n)) : Contract G Tryd.prog 52 (s_chainC n) :=
  vcFun_ok (Γ := Γof [(28, 0, (s_cR n)), (59, 0, s_reckon), (54, 0, s_inRange)]) (E := Eof []) (ov := false) (L := fun x => Lof ([(5,{ ι := Int × Int, inv := fun i => cI x.1 x.2 i.1 i.2, regs := fun i => [(0, nds x.1), (3, .box 0 (ndA false x.2)), (6, .int .i64 i.2), (25, ints x.2.kids), (26, .int .i64 x.2.kids.length), (27, .int .i64 i.1)], als := [], meas := fun i => x.2.kids.length - i.1.toNat })])) Tryd.func52 rfl (by decide) (Γof_ok (l := [(28, 0, (s_cR n)), (59, 0, s_reckon), (54, 0, s_inRange)]) ⟨hc, reckon_ok, inRange_ok, trivial⟩) fun (x : List Nd × Nd) (hx : okNds x.1 ∧ x.2.kids.length < 2 ^ 62 ∧ ∀ c ∈ x.2.kids, okUp x.1 c ∧ c < n) => (chainC_vc n x).mpr (by
  obtain ⟨h1, h2, h3⟩ := hx
  (repeat' first | with_reducible rfl | exact True.intro | refine inR_i64 ?_ ?_ | with_reducible refine And.intro ?_ ?_ | with_reducible refine bcase_dec (fun _ => ?_) (fun _ => ?_) | with_reducible refine bcase_bne (fun _ => ?_) (fun _ => ?_) | with_reducible refine bcase_beq (fun _ => ?_) (fun _ => ?_) | with_reducible refine bcase_not (fun _ => ?_) (fun _ => ?_) | refine bcase_intro (fun _ => ?_) (fun _ => ?_) | refine sl_eq ?_ | refine ex_flip () ?_ ?_ | (apply ex_flip6 <;> try dsimp only) | (apply ex_flip5 <;> try dsimp only) | (apply ex_flip4 <;> try dsimp only) | (apply ex_flip3 <;> try dsimp only) | (apply ex_flip2 <;> try dsimp only) | apply ex_flip | (refine Prod.forall.2 ?_; intro _; try dsimp only) | (intro _; try dsimp only))
  all_goals first
    | rfl
    | omega
    | exact h1
    | exact cI_init
    | exact cI_first (by assumption) (by assumption) (by assumption) (h3 _ (memE (by assumption))).1 (by assumption)
    | exact cI_next (by assumption) (by assumption) (by assumption) (by assumption) (by assumption)
    | exact ⟨h1, (h3 _ (memE (by assumption))).1, (h3 _ (memE (by assumption))).2⟩
    | exact (show cI _ _ _ _ by assumption).2.2.1
    | exact oI_bd (h3 _ (memE (by assumption))).1
    | (have hcI := (show cI x.1 x.2 _ _ by assumption); have := hcI.1; have := hcI.2.1; (try simp only [i64max]); omega)
    | (simp [chainV, opOk, oI, *]; done)
    | (have hcc := cI_done (by assumption) (by assumption); simp [chainV, opOk, hcc, oI, *]; done)
    | (have hcc := cI_none (by assumption) (by assumption) (by assumption); simp [chainV, opOk, hcc, oI, *]; done)
    | (have hcc := cI_bad (by assumption) (by assumption) (by assumption) (by assumption) (by assumption); simp [chainV, opOk, hcc, oI, *]; done)
    | skip)

theorem consP_kid {n : Nat} {x : List Nd × Int} {y : Nd} {c : Int} (h : consP (n + 1) x) (hy : x.1[x.2.toNat]? = some y) (hc : c ∈ y.kids) : okUp x.1 c ∧ c < n := by
  obtain ⟨h1, h2, h3⟩ := h
  rw [← ndAt_of hy] at hc
  have := okUp_kid h2 hc
  exact ⟨this.1, by omega⟩
theorem consP_2 {n : Nat} {x : List Nd × Int} {y : Nd} (h : consP (n + 1) x) (hy : x.1[x.2.toNat]? = some y) (hk : y.kind = 2) : (y.text.all isFig = true ∧ 1 ≤ y.text.length ∧ y.text.length ≤ 12) ∧ cV x.1 x.2 = if 9 < y.text.length then none else some (figV y.text) := by
  have e := ndAt_of hy
  refine ⟨?_, ?_⟩
  · have := okUp2 h.2.1 (by rw [e]; exact hk); rwa [e] at this
  · rw [cV_def h.2.1, e, if_pos hk]
theorem consP_11 {n : Nat} {x : List Nd × Int} {y : Nd} (h : consP (n + 1) x) (hy : x.1[x.2.toNat]? = some y) (hk : y.kind = 11) : ∃ c, y.kids = [c] ∧ cV x.1 x.2 = cV x.1 c := by
  have e := ndAt_of hy
  obtain ⟨c, hc⟩ := okUp11 h.2.1 (by rw [e]; exact hk)
  rw [e] at hc
  refine ⟨c, hc, ?_⟩
  rw [cV_def h.2.1, e, if_neg (by omega), if_pos hk, hc]; rfl
theorem consP_7 {n : Nat} {x : List Nd × Int} {y : Nd} (h : consP (n + 1) x) (hy : x.1[x.2.toNat]? = some y) (hk : y.kind = 7) : cV x.1 x.2 = chainV y.text (y.kids.map (cV x.1)) := by
  rw [cV_def h.2.1, ndAt_of hy, if_neg (by omega), if_neg (by omega), if_pos hk]
theorem consP_0 {n : Nat} {x : List Nd × Int} {y : Nd} (h : consP (n + 1) x) (hy : x.1[x.2.toNat]? = some y) (h2 : y.kind ≠ 2) (h11 : y.kind ≠ 11) (h7 : y.kind ≠ 7) : cV x.1 x.2 = none := by
  rw [cV_def h.2.1, ndAt_of hy, if_neg h2, if_neg h11, if_neg h7]
def s_constZ  : Sig := { X := List Nd × Int, args := fun x => [nds x.1, .int .i64 x.2], pre := fun x => consP 0 x, Y := Unit, post := fun x y => True, res := fun x y => .tup [.int .i64 (oI (cV x.1 x.2)), .bool (cV x.1 x.2).isSome], outs := fun x y => [.top, .top], keep := false }
theorem constZ_vc (x : List Nd × Int) : vcFun Go.Proofs.Tryd.prog (Γof []) (Eof []) false (Lof ([])) Go.Proofs.Tryd.f28.ntmps Go.Proofs.Tryd.f28.results.toList (Go.Proofs.Tryd.f28.body.getD .skip) s_constZ x = ((∀ (y : Unit), True → (True ∧ True ∧ True) ∧ True ∧ True ∧ True) ∧ ((0 : Int) ≤ x.snd ∧ x.snd < (↑(List.length x.fst) : Int)) ∧ ∀ (e : Nd), x.fst[Int.toNat x.snd]? = some e → bcase (e.kind == (2 : Int)) (bcase (decide ((↑(List.length e.text) : Int) > (9 : Int))) (∃ (y : Unit), True ∧ (0 : Int) = oI (cV x.fst x.snd) ∧ false = Option.isSome (cV x.fst x.snd) ∧ True) False) (bcase (e.kind == (11 : Int)) (((0 : Int) ≤ (0 : Int) ∧ (0 : Int) < (↑(List.length e.kids) : Int)) ∧ ∀ (e_1 : Int), e.kids[(0 : Nat)]? = some e_1 → False) (bcase (e.kind == (7 : Int)) False (∃ (y : Unit), True ∧ (0 : Int) = oI (cV x.fst x.snd) ∧ false = Option.isSome (cV x.fst x.snd) ∧ True)))) := by kernel_rfl
theorem constZ_ok  : Contract G Tryd.prog 28 s_constZ :=
  vcFun_ok (Γ := Γof []) (E := Eof []) (ov := false) (L := fun x => Lof ([])) Tryd.func28 rfl (by decide) (Γof_ok (l := []) trivial) fun (x : List Nd × Int) (hx : consP 0 x) => (constZ_vc  x).mpr (by
  have h1 := hx.2.2; have h2 := isNd_iff.1 hx.2.1.1
  omega)

def s_constS (n : Nat) : Sig := { X := List Nd × Int, args := fun x => [nds x.1, .int .i64 x.2], pre := fun x => consP (n + 1) x, Y := Unit, post := fun x y => True, res := fun x y => .tup [.int .i64 (oI (cV x.1 x.2)), .bool (cV x.1 x.2).isSome], outs := fun x y => [.top, .top], keep := false }
theorem constS_vc (n : Nat) (x : List Nd × Int) : vcFun Go.Proofs.Tryd.prog (Γof [(28, 0, (s_cR n)), (52, 0, (s_chainC n)), (51, 0, s_numberOf)]) (Eof []) false (Lof ([])) Go.Proofs.Tryd.f28.ntmps Go.Proofs.Tryd.f28.results.toList (Go.Proofs.Tryd.f28.body.getD .skip) (s_constS n) x = ((∀ (y : Unit), True → (True ∧ True ∧ True) ∧ True ∧ True ∧ True) ∧ ((0 : Int) ≤ x.snd ∧ x.snd < (↑(List.length x.fst) : Int)) ∧ ∀ (e : Nd), x.fst[Int.toNat x.snd]? = some e → bcase (e.kind == (2 : Int)) (bcase (decide ((↑(List.length e.text) : Int) > (9 : Int))) (∃ (y : Unit), True ∧ (0 : Int) = oI (cV x.fst x.snd) ∧ false = Option.isSome (cV x.fst x.snd) ∧ True) (∃ (x_1 : List UInt8), (List.all x_1 isFig = true ∧ List.length x_1 ≤ (9 : Nat)) ∧ e.text = x_1 ∧ ∀ (y : Unit), True → ∃ (y : Unit), True ∧ figV x_1 = oI (cV x.fst x.snd) ∧ true = Option.isSome (cV x.fst x.snd) ∧ True)) (bcase (e.kind == (11 : Int)) (((0 : Int) ≤ (0 : Int) ∧ (0 : Int) < (↑(List.length e.kids) : Int)) ∧ ∀ (e_1 : Int), e.kids[(0 : Nat)]? = some e_1 → ∃ (x_1 : List Nd × Int), consP n x_1 ∧ AV.sl false (0 : Nat) (4 : Nat) Nd (ndA false) x.fst = AV.sl false (0 : Nat) (4 : Nat) Nd (ndA false) x_1.fst ∧ e_1 = x_1.snd ∧ ∀ (y : Unit), True → ∃ (y : Unit), True ∧ oI (cV x_1.fst x_1.snd) = oI (cV x.fst x.snd) ∧ Option.isSome (cV x_1.fst x_1.snd) = Option.isSome (cV x.fst x.snd) ∧ True) (bcase (e.kind == (7 : Int)) (∃ (x_1 : List Nd × Nd), (okNds x_1.fst ∧ List.length x_1.snd.kids < (4611686018427387904 : Nat) ∧ ∀ (c : Int), c ∈ x_1.snd.kids → okUp x_1.fst c ∧ c < (↑n : Int)) ∧ AV.sl false (0 : Nat) (4 : Nat) Nd (ndA false) x.fst = AV.sl false (0 : Nat) (4 : Nat) Nd (ndA false) x_1.fst ∧ e.kind = x_1.snd.kind ∧ e.text = x_1.snd.text ∧ AV.sl false (0 : Nat) (1 : Nat) Int intA e.kids = AV.sl false (0 : Nat) (1 : Nat) Int intA x_1.snd.kids ∧ e.blank = x_1.snd.blank ∧ ∀ (y : Unit), True → ∃ (y : Unit), True ∧ oI (chainV x_1.snd.text (List.map (cV x_1.fst) x_1.snd.kids)) = oI (cV x.fst x.snd) ∧ Option.isSome (chainV x_1.snd.text (List.map (cV x_1.fst) x_1.snd.kids)) = Option.isSome (cV x.fst x.snd) ∧ True) (∃ (y : Unit), True ∧ (0 : Int) = oI (cV x.fst x.snd) ∧ false = Option.isSome (cV x.fst x.snd) ∧ True)))) := by kernel_rfl
theorem constS_ok (n : Nat) (hc : Contract G Go.Proofs.Tryd.prog 28 (s_cR n)) : Contract G Tryd.prog 28 (s_constS n) :=
  vcFun_ok (Γ := Γof [(28, 0, (s_cR n)), (52, 0, (s_chainC n)), (51, 0, s_numberOf)]) (E := Eof []) (ov := false) (L := fun x => Lof ([])) Tryd.func28 rfl (by decide) (Γof_ok (l := [(28, 0, (s_cR n)), (52, 0, (s_chainC n)), (51, 0, s_numberOf)]) ⟨hc, (chainC_ok n hc), numberOf_ok, trivial⟩) fun (x : List Nd × Int) (hx : consP (n + 1) x) => (constS_vc n x).mpr (by
  have h1 := hx.1; have hl := h1.1; have hn := isNd_iff.1 hx.2.1.1
  (repeat' first | with_reducible rfl | exact True.intro | refine inR_i64 ?_ ?_ | with_reducible refine And.intro ?_ ?_ | with_reducible refine bcase_dec (fun _ => ?_) (fun _ => ?_) | with_reducible refine bcase_bne (fun _ => ?_) (fun _ => ?_) | with_reducible refine bcase_beq (fun _ => ?_) (fun _ => ?_) | with_reducible refine bcase_not (fun _ => ?_) (fun _ => ?_) | refine bcase_intro (fun _ => ?_) (fun _ => ?_) | refine sl_eq ?_ | refine ex_flip () ?_ ?_ | (apply ex_flip6 <;> try dsimp only) | (apply ex_flip5 <;> try dsimp only) | (apply ex_flip4 <;> try dsimp only) | (apply ex_flip3 <;> try dsimp only) | (apply ex_flip2 <;> try dsimp only) | apply ex_flip | (refine Prod.forall.2 ?_; intro _; try dsimp only) | (intro _; try dsimp only))
  all_goals first
    | omega
    | exact h1
    | exact (okNds_at (by assumption) h1).2
    | (have h2 := consP_2 hx (by assumption) (by assumption); rw [h2.2]; first | (rw [if_pos (by omega)]; rfl) | (rw [if_neg (by omega)]; rfl))
    | exact (consP_2 hx (by assumption) (by assumption)).1.1
    | (have hcc := consP_kid hx (by assumption) (memE (by assumption)); exact ⟨h1, hcc.1, hcc.2⟩)
    | exact (consP_kid hx (by assumption) (by assumption)).1
    | exact (consP_kid hx (by assumption) (by assumption)).2
    | (rw [consP_7 hx (by assumption) (by assumption)]; done)
    | (rw [consP_0 hx (by assumption) (by assumption) (by assumption) (by assumption)]; rfl)
    | (obtain ⟨c, hk, hv⟩ := consP_11 hx (by assumption) (by assumption); have h0 := (show (Nd.kids _)[0]? = some _ by assumption); rw [hk] at h0; cases h0; rw [hv]; done)
    | (obtain ⟨c, hk, hv⟩ := consP_11 hx (by assumption) (by assumption); rw [hk]; simp; done)
    | skip)

end Go.My
end
section
/- What is reckoned ahead: the reference's functions. -/
set_option linter.unusedVariables false
set_option linter.unusedSimpArgs false
namespace Go.My
open Go.Eng Go.Proofs
variable {G : GInv}

theorem constOf_all : ∀ n : Nat, Contract G Go.Proofs.Tryd.prog 28 (s_cR n)
  | 0 => constZ_ok
  | n + 1 => constS_ok n (constOf_all n)
theorem opt_cases {o : Option Int} : (o.isSome = true ∧ o = some (oI o)) ∨ (o.isSome = false ∧ o = none) := by
  cases o with
  | none => exact .inr ⟨rfl, rfl⟩
  | some v => exact .inl ⟨rfl, rfl⟩
def s_l24Figures  : Sig := { X := List UInt8, args := fun x => [.str x], pre := fun x => x.all isFig = true ∧ 1 ≤ x.length ∧ x.length ≤ 12, Y := Unit, post := fun x y => True, res := fun x y => .tup [.int .i64 (if 9 < x.length then 0 else figV x), .bool (decide (x.length ≤ 9))], outs := fun x y => [.top], keep := false }
theorem l24Figures_vc (x : List UInt8) : vcFun Go.Proofs.Tryd.prog (Γof [(57, 0, s_l04Figure)]) (Eof []) false (Lof ([(3,{ ι := Int, inv := fun i => 0 ≤ i ∧ i ≤ x.length ∧ (i = 0 ∨ x.length ≤ 9), regs := fun i => [(0, .str x), (4, .int .i64 (figV (x.take i.toNat))), (5, .int .i64 i)], als := [], meas := fun i => x.length - i.toNat })])) Go.Proofs.Tryd.f46.ntmps Go.Proofs.Tryd.f46.results.toList (Go.Proofs.Tryd.f46.body.getD .skip) s_l24Figures x = ((∀ (y : Unit), True → (True ∧ True ∧ True) ∧ True ∧ True) ∧ (∃ (i : Int), ((0 : Int) ≤ i ∧ i ≤ (↑(List.length x) : Int) ∧ (i = (0 : Int) ∨ List.length x ≤ (9 : Nat))) ∧ (x = x ∧ (0 : Int) = figV (List.take (Int.toNat i) x) ∧ (0 : Int) = i ∧ True) ∧ True) ∧ ∀ (i : Int), (0 : Int) ≤ i ∧ i ≤ (↑(List.length x) : Int) ∧ (i = (0 : Int) ∨ List.length x ≤ (9 : Nat)) → bcase (decide (i < (↑(List.length x) : Int))) (((0 : Int) ≤ i ∧ i < (↑(List.length x) : Int)) ∧ ∀ (c : UInt8), x[Int.toNat i]? = some c → ∃ (x_1 : UInt8), True ∧ (↑(UInt8.toNat c) : Int) = (↑(UInt8.toNat x_1) : Int) ∧ ∀ (y : Unit), True → bcase (!isFig x_1) (∃ (y : Unit), True ∧ ((0 : Int) = if (9 : Nat) < List.length x then (0 : Int) else figV x) ∧ false = decide (List.length x ≤ (9 : Nat)) ∧ True) (inR IntKind.i64 ((10 : Int) * figV (List.take (Int.toNat i) x)) ∧ ((0 : Int) ≤ i ∧ i < (↑(List.length x) : Int)) ∧ ∀ (c : UInt8), x[Int.toNat i]? = some c → inR IntKind.i64 (↑(UInt8.toNat c) : Int) ∧ inR IntKind.i64 ((10 : Int) * figV (List.take (Int.toNat i) x) + (↑(UInt8.toNat c) : Int)) ∧ inR IntKind.i64 ((10 : Int) * figV (List.take (Int.toNat i) x) + (↑(UInt8.toNat c) : Int) - (48 : Int)) ∧ bcase (decide ((↑(List.length x) : Int) > (9 : Int))) (∃ (y : Unit), True ∧ ((0 : Int) = if (9 : Nat) < List.length x then (0 : Int) else figV x) ∧ false = decide (List.length x ≤ (9 : Nat)) ∧ True) (inR IntKind.i64 (i + (1 : Int)) ∧ ∃ (i' : Int), ((0 : Int) ≤ i' ∧ i' ≤ (↑(List.length x) : Int) ∧ (i' = (0 : Int) ∨ List.length x ≤ (9 : Nat))) ∧ List.length x - Int.toNat i' < List.length x - Int.toNat i ∧ (x = x ∧ (10 : Int) * figV (List.take (Int.toNat i) x) + (↑(UInt8.toNat c) : Int) - (48 : Int) = figV (List.take (Int.toNat i') x) ∧ i + (1 : Int) = i' ∧ True) ∧ True))) (∃ (y : Unit), True ∧ (figV (List.take (Int.toNat i) x) = if (9 : Nat) < List.length x then (0 : Int) else figV x) ∧ decide ((↑(List.length x) : Int) > (0 : Int)) = decide (List.length x ≤ (9 : Nat)) ∧ True)) := by kernel_rfl
theorem l24Figures_ok  : Contract G Tryd.prog 46 s_l24Figures :=
  vcFun_ok (Γ := Γof [(57, 0, s_l04Figure)]) (E := Eof []) (ov := false) (L := fun x => Lof ([(3,{ ι := Int, inv := fun i => 0 ≤ i ∧ i ≤ x.length ∧ (i = 0 ∨ x.length ≤ 9), regs := fun i => [(0, .str x), (4, .int .i64 (figV (x.take i.toNat))), (5, .int .i64 i)], als := [], meas := fun i => x.length - i.toNat })])) Tryd.func46 rfl (by decide) (Γof_ok (l := [(57, 0, s_l04Figure)]) ⟨l04Figure_ok, trivial⟩) fun (x : List UInt8) (hx : x.all isFig = true ∧ 1 ≤ x.length ∧ x.length ≤ 12) => (l24Figures_vc  x).mpr (by
  obtain ⟨h1, h2, h3⟩ := hx
  have hb : ∀ i : Int, i = 0 ∨ x.length ≤ 9 → 0 ≤ figV (x.take i.toNat) ∧ figV (x.take i.toNat) < 1000000000 := fun i hi => figV_bd (List.all_eq_true.2 fun c hc => List.all_eq_true.1 h1 c (List.mem_of_mem_take hc)) (by simp; omega)
  (repeat' first | with_reducible rfl | exact True.intro | refine inR_i64 ?_ ?_ | with_reducible refine And.intro ?_ ?_ | with_reducible refine bcase_dec (fun _ => ?_) (fun _ => ?_) | with_reducible refine bcase_bne (fun _ => ?_) (fun _ => ?_) | with_reducible refine bcase_beq (fun _ => ?_) (fun _ => ?_) | with_reducible refine bcase_not (fun _ => ?_) (fun _ => ?_) | refine bcase_intro (fun _ => ?_) (fun _ => ?_) | refine sl_eq ?_ | refine ex_flip () ?_ ?_ | (apply ex_flip6 <;> try dsimp only) | (apply ex_flip5 <;> try dsimp only) | (apply ex_flip4 <;> try dsimp only) | (apply ex_flip3 <;> try dsimp only) | (apply ex_flip2 <;> try dsimp only) | apply ex_flip | (refine Prod.forall.2 ?_; intro _; try dsimp only) | (intro _; try dsimp only))
  all_goals try (have hf := fig_at h1 (show x[Int.toNat _]? = some _ by assumption))
  all_goals try (have hbb := hb _ (show _ ∧ _ ∧ _ by assumption).2.2)
  all_goals first
    | rfl
    | omega
    | ((try simp only [i64max]); omega)
    | (simp [isFig] at *; omega)
    | (rw [toNat1 (by omega), figV_take (by assumption)]; omega)
    | (rw [List.take_of_length_le (by omega), if_neg (by omega)]; done)
    | (rw [if_pos (by omega)]; done)
    | (rw [decide_eq_decide]; omega)
    | (symm; exact decide_eq_false (by omega))
    | skip)

def s_lR (n : Nat) : Sig := { X := List Nd × Int, args := fun x => [nds x.1, .int .i64 x.2], pre := fun x => consP n x, Y := Unit, post := fun x y => True, res := fun x y => .tup [.int .i64 (oI (cV x.1 x.2)), .bool (cV x.1 x.2).isSome], outs := fun x y => [.top, .top], keep := false }
def lc (ns : List Nd) (x : Nd) (i a : Int) (ok : Bool) : Prop := 1 ≤ i ∧ i ≤ x.kids.length ∧ (ok = true → bdd a ∧ chainF x.text ((x.kids.take i.toNat).map (cV ns)) = some a) ∧ (ok = false → chainF x.text ((x.kids.take i.toNat).map (cV ns)) = none)
theorem lc_init {ns : List Nd} {x : Nd} {c : Int} (hc : x.kids[0]? = some c) (hu : okUp ns c) : lc ns x 1 (oI (cV ns c)) (cV ns c).isSome := by
  have := (getE hc).1
  have e : (x.kids.take (1 : Int).toNat).map (cV ns) = [cV ns c] := by
    rw [show (1 : Int).toNat = 0 + 1 from rfl, takeE hc]; rfl
  refine ⟨by omega, by omega, fun h => ⟨oI_bd hu, ?_⟩, fun h => ?_⟩
  · rw [e]; simp only [chainF, List.foldl_nil]; exact some_oI h
  · rw [e]; simp only [chainF, List.foldl_nil]
    rcases opt_cases (o := cV ns c) with h1 | h2
    · rw [h1.1] at h; cases h
    · exact h2.2
theorem lc_snoc {ns : List Nd} {x : Nd} {i a c : Int} (h : lc ns x i a true) (hc : x.kids[i.toNat]? = some c) : chainF x.text ((x.kids.take (i + 1).toNat).map (cV ns)) = stepV x.text (some a) (cV ns c) := by
  have h1 := h.1
  have := (getE hc).1
  rw [toNat1 (by omega), takeE hc, List.map_append, List.map_cons, List.map_nil, chainF_snoc, (h.2.2.1 rfl).2]
  intro e
  simp only [List.map_eq_nil_iff, List.take_eq_nil_iff] at e
  rcases e with e | e
  · omega
  · rw [e] at this; simp at this
theorem lc_no {ns : List Nd} {x : Nd} {i a c r : Int} (h : lc ns x i a true) (hc : x.kids[i.toNat]? = some c) (hs : (cV ns c).isSome = false) : lc ns x (i + 1) r false := by
  have := (getE hc).1
  have h1 := h.1
  refine ⟨by omega, by omega, fun h => (by cases h), fun _ => ?_⟩
  rw [lc_snoc h hc]
  rcases opt_cases (o := cV ns c) with h1 | h2
  · rw [h1.1] at hs; cases hs
  · rw [h2.2]; rfl
theorem lc_yes {ns : List Nd} {x : Nd} {i a c r : Int} (h : lc ns x i a true) (hc : x.kids[i.toNat]? = some c) (hs : (cV ns c).isSome = true) (hr : r = reck x.text a (oI (cV ns c))) : lc ns x (i + 1) r (inn r (-1000000000) 1000000000) := by
  have := (getE hc).1
  have h1 := h.1
  have e := lc_snoc h hc
  rw [some_oI hs] at e
  simp only [stepV] at e
  rw [← hr] at e
  refine ⟨by omega, by omega, fun hb => ?_, fun hb => ?_⟩
  · rw [if_pos hb] at e; exact ⟨inn_iff.1 hb, e⟩
  · rw [if_neg (by simp [hb])] at e; exact e
theorem lc_none {ns : List Nd} {x : Nd} {i a : Int} (h : lc ns x i a false) : chainF x.text (x.kids.map (cV ns)) = none := by
  have e : x.kids = x.kids.take i.toNat ++ x.kids.drop i.toNat := (List.take_append_drop _ _).symm
  have h1 := h.2.2.2 rfl
  rw [e, List.map_append]
  refine chainF_none ?_ h1
  intro e2; rw [e2] at h1; cases h1
theorem lc_some {ns : List Nd} {x : Nd} {i a : Int} (h : lc ns x i a true) (hl : ¬ i < x.kids.length) : chainF x.text (x.kids.map (cV ns)) = some a := by
  have h1 := (h.2.2.1 rfl).2
  rwa [List.take_of_length_le (by have := h.1; omega)] at h1
def lL (x : List Nd × Int) : LS := {
  ι := Int × Int × Bool, inv := fun i => lc x.1 (ndAt x.1 x.2) i.1 i.2.1 i.2.2,
  regs := fun i => [(0, nds x.1), (6, .box 0 (ndA false (ndAt x.1 x.2))), (7, .int .i64 i.2.1), (8, .bool i.2.2), (9, .int .i64 i.1)], als := [], meas := fun i => (ndAt x.1 x.2).kids.length - i.1.toNat }
def lLJ (x : List Nd × Int) : LS := {
  ι := Unit, inv := fun _ => opOk (ndAt x.1 x.2).text = true,
  regs := fun i => [(0, nds x.1), (6, .box 0 (ndA false (ndAt x.1 x.2)))], als := [], meas := fun i => 0 }
theorem consP_len {n : Nat} {x : List Nd × Int} {y : Nd} (h : consP (n + 1) x) (hy : x.1[x.2.toNat]? = some y) (hk : y.kind = 7) : 2 ≤ y.kids.length := by
  have := okUp7 h.2.1 (by rw [ndAt_of hy]; exact hk); rwa [ndAt_of hy] at this
def s_l25Z  : Sig := { X := List Nd × Int, args := fun x => [nds x.1, .int .i64 x.2], pre := fun x => consP 0 x, Y := Unit, post := fun x y => True, res := fun x y => .tup [.int .i64 (oI (cV x.1 x.2)), .bool (cV x.1 x.2).isSome], outs := fun x y => [.top, .top], keep := false }
theorem l25Z_vc (x : List Nd × Int) : vcFun Go.Proofs.Tryd.prog (Γof []) (Eof []) false (Lof ([])) Go.Proofs.Tryd.f25.ntmps Go.Proofs.Tryd.f25.results.toList (Go.Proofs.Tryd.f25.body.getD .skip) s_l25Z x = ((∀ (y : Unit), True → (True ∧ True ∧ True) ∧ True ∧ True ∧ True) ∧ ((0 : Int) ≤ x.snd ∧ x.snd < (↑(List.length x.fst) : Int)) ∧ ∀ (e : Nd), x.fst[Int.toNat x.snd]? = some e → bcase (e.kind == (2 : Int)) False (bcase (e.kind == (11 : Int)) (((0 : Int) ≤ (0 : Int) ∧ (0 : Int) < (↑(List.length e.kids) : Int)) ∧ ∀ (e_1 : Int), e.kids[(0 : Nat)]? = some e_1 → False) (bcase (e.kind == (7 : Int)) (bcase (!e.text == #[(43 : UInt8)].toList) (bcase (!e.text == #[(45 : UInt8)].toList) (bcase (!e.text == #[(42 : UInt8)].toList) (∃ (y : Unit), True ∧ (0 : Int) = oI (cV x.fst x.snd) ∧ false = Option.isSome (cV x.fst x.snd) ∧ True) (((0 : Int) ≤ (0 : Int) ∧ (0 : Int) < (↑(List.length e.kids) : Int)) ∧ ∀ (e_1 : Int), e.kids[(0 : Nat)]? = some e_1 → False)) (((0 : Int) ≤ (0 : Int) ∧ (0 : Int) < (↑(List.length e.kids) : Int)) ∧ ∀ (e_1 : Int), e.kids[(0 : Nat)]? = some e_1 → False)) (((0 : Int) ≤ (0 : Int) ∧ (0 : Int) < (↑(List.length e.kids) : Int)) ∧ ∀ (e_1 : Int), e.kids[(0 : Nat)]? = some e_1 → False)) (∃ (y : Unit), True ∧ (0 : Int) = oI (cV x.fst x.snd) ∧ false = Option.isSome (cV x.fst x.snd) ∧ True)))) := by kernel_rfl
theorem l25Z_ok  : Contract G Tryd.prog 25 s_l25Z :=
  vcFun_ok (Γ := Γof []) (E := Eof []) (ov := false) (L := fun x => Lof ([])) Tryd.func25 rfl (by decide) (Γof_ok (l := []) trivial) fun (x : List Nd × Int) (hx : consP 0 x) => (l25Z_vc  x).mpr (by
  have h1 := hx.2.2; have h2 := isNd_iff.1 hx.2.1.1
  omega)

def s_l25S (n : Nat) : Sig := { X := List Nd × Int, args := fun x => [nds x.1, .int .i64 x.2], pre := fun x => consP (n + 1) x, Y := Unit, post := fun x y => True, res := fun x y => .tup [.int .i64 (oI (cV x.1 x.2)), .bool (cV x.1 x.2).isSome], outs := fun x y => [.top, .top], keep := false }
theorem l25S_vc (n : Nat) (x : List Nd × Int) : vcFun Go.Proofs.Tryd.prog (Γof [(25, 0, (s_lR n)), (46, 0, s_l24Figures), (44, 0, s_l01In)]) (Eof []) false (Lof ([(12,lL x), (200010,lLJ x)])) Go.Proofs.Tryd.f25.ntmps Go.Proofs.Tryd.f25.results.toList (Go.Proofs.Tryd.f25.body.getD .skip) (s_l25S n) x = ((∀ (y : Unit), True → (True ∧ True ∧ True) ∧ True ∧ True ∧ True) ∧ ((0 : Int) ≤ x.snd ∧ x.snd < (↑(List.length x.fst) : Int)) ∧ ∀ (e : Nd), x.fst[Int.toNat x.snd]? = some e → bcase (e.kind == (2 : Int)) (∃ (x_1 : List UInt8), (List.all x_1 isFig = true ∧ (1 : Nat) ≤ List.length x_1 ∧ List.length x_1 ≤ (12 : Nat)) ∧ e.text = x_1 ∧ ∀ (y : Unit), True → ∃ (y : Unit), True ∧ (if (9 : Nat) < List.length x_1 then (0 : Int) else figV x_1) = oI (cV x.fst x.snd) ∧ decide (List.length x_1 ≤ (9 : Nat)) = Option.isSome (cV x.fst x.snd) ∧ True) (bcase (e.kind == (11 : Int)) (((0 : Int) ≤ (0 : Int) ∧ (0 : Int) < (↑(List.length e.kids) : Int)) ∧ ∀ (e_1 : Int), e.kids[(0 : Nat)]? = some e_1 → ∃ (x_1 : List Nd × Int), consP n x_1 ∧ AV.sl false (0 : Nat) (4 : Nat) Nd (ndA false) x.fst = AV.sl false (0 : Nat) (4 : Nat) Nd (ndA false) x_1.fst ∧ e_1 = x_1.snd ∧ ∀ (y : Unit), True → ∃ (y : Unit), True ∧ oI (cV x_1.fst x_1.snd) = oI (cV x.fst x.snd) ∧ Option.isSome (cV x_1.fst x_1.snd) = Option.isSome (cV x.fst x.snd) ∧ True) (bcase (e.kind == (7 : Int)) (bcase (!e.text == #[(43 : UInt8)].toList) (bcase (!e.text == #[(45 : UInt8)].toList) (bcase (!e.text == #[(42 : UInt8)].toList) (∃ (y : Unit), True ∧ (0 : Int) = oI (cV x.fst x.snd) ∧ false = Option.isSome (cV x.fst x.snd) ∧ True) (∃ (i : Unit), opOk (ndAt x.fst x.snd).text = true ∧ (AV.sl false (0 : Nat) (4 : Nat) Nd (ndA false) x.fst = AV.sl false (0 : Nat) (4 : Nat) Nd (ndA false) x.fst ∧ e.kind = (ndAt x.fst x.snd).kind ∧ e.text = (ndAt x.fst x.snd).text ∧ AV.sl false (0 : Nat) (1 : Nat) Int intA e.kids = AV.sl false (0 : Nat) (1 : Nat) Int intA (ndAt x.fst x.snd).kids ∧ e.blank = (ndAt x.fst x.snd).blank ∧ True) ∧ True)) (∃ (i : Unit), opOk (ndAt x.fst x.snd).text = true ∧ (AV.sl false (0 : Nat) (4 : Nat) Nd (ndA false) x.fst = AV.sl false (0 : Nat) (4 : Nat) Nd (ndA false) x.fst ∧ e.kind = (ndAt x.fst x.snd).kind ∧ e.text = (ndAt x.fst x.snd).text ∧ AV.sl false (0 : Nat) (1 : Nat) Int intA e.kids = AV.sl false (0 : Nat) (1 : Nat) Int intA (ndAt x.fst x.snd).kids ∧ e.blank = (ndAt x.fst x.snd).blank ∧ True) ∧ True)) (∃ (i : Unit), opOk (ndAt x.fst x.snd).text = true ∧ (AV.sl false (0 : Nat) (4 : Nat) Nd (ndA false) x.fst = AV.sl false (0 : Nat) (4 : Nat) Nd (ndA false) x.fst ∧ e.kind = (ndAt x.fst x.snd).kind ∧ e.text = (ndAt x.fst x.snd).text ∧ AV.sl false (0 : Nat) (1 : Nat) Int intA e.kids = AV.sl false (0 : Nat) (1 : Nat) Int intA (ndAt x.fst x.snd).kids ∧ e.blank = (ndAt x.fst x.snd).blank ∧ True) ∧ True) ∧ ∀ (i : Unit), opOk (ndAt x.fst x.snd).text = true → ((0 : Int) ≤ (0 : Int) ∧ (0 : Int) < (↑(List.length (ndAt x.fst x.snd).kids) : Int)) ∧ ∀ (e : Int), (ndAt x.fst x.snd).kids[(0 : Nat)]? = some e → ∃ (x_1 : List Nd × Int), consP n x_1 ∧ AV.sl false (0 : Nat) (4 : Nat) Nd (ndA false) x.fst = AV.sl false (0 : Nat) (4 : Nat) Nd (ndA false) x_1.fst ∧ e = x_1.snd ∧ ∀ (y : Unit), True → (∃ (i : Int × Int × Bool), lc x.fst (ndAt x.fst x.snd) i.fst i.snd.fst i.snd.snd ∧ (AV.sl false (0 : Nat) (4 : Nat) Nd (ndA false) x.fst = AV.sl false (0 : Nat) (4 : Nat) Nd (ndA false) x.fst ∧ (ndAt x.fst x.snd).kind = (ndAt x.fst x.snd).kind ∧ (ndAt x.fst x.snd).text = (ndAt x.fst x.snd).text ∧ AV.sl false (0 : Nat) (1 : Nat) Int intA (ndAt x.fst x.snd).kids = AV.sl false (0 : Nat) (1 : Nat) Int intA (ndAt x.fst x.snd).kids ∧ (ndAt x.fst x.snd).blank = (ndAt x.fst x.snd).blank ∧ oI (cV x_1.fst x_1.snd) = i.snd.fst ∧ Option.isSome (cV x_1.fst x_1.snd) = i.snd.snd ∧ (1 : Int) = i.fst ∧ True) ∧ True) ∧ ∀ (i : Int × Int × Bool), lc x.fst (ndAt x.fst x.snd) i.fst i.snd.fst i.snd.snd → bcase (decide (i.fst < (↑(List.length (ndAt x.fst x.snd).kids) : Int))) (bcase i.snd.snd (((0 : Int) ≤ i.fst ∧ i.fst < (↑(List.length (ndAt x.fst x.snd).kids) : Int)) ∧ ∀ (e : Int), (ndAt x.fst x.snd).kids[Int.toNat i.fst]? = some e → ∃ (x_2 : List Nd × Int), consP n x_2 ∧ AV.sl false (0 : Nat) (4 : Nat) Nd (ndA false) x.fst = AV.sl false (0 : Nat) (4 : Nat) Nd (ndA false) x_2.fst ∧ e = x_2.snd ∧ ∀ (y : Unit), True → bcase ((ndAt x.fst x.snd).text == #[(43 : UInt8)].toList) (inR IntKind.i64 (i.snd.fst + oI (cV x_2.fst x_2.snd)) ∧ bcase (Option.isSome (cV x_2.fst x_2.snd)) (∃ (x_3 : Int × Int × Int), True ∧ i.snd.fst + oI (cV x_2.fst x_2.snd) = x_3.fst ∧ (-1000000000 : Int) = x_3.snd.fst ∧ (1000000000 : Int) = x_3.snd.snd ∧ ∀ (y : Unit), True → inR IntKind.i64 (i.fst + (1 : Int)) ∧ ∃ (i' : Int × Int × Bool), lc x.fst (ndAt x.fst x.snd) i'.fst i'.snd.fst i'.snd.snd ∧ List.length (ndAt x.fst x.snd).kids - Int.toNat i'.fst < List.length (ndAt x.fst x.snd).kids - Int.toNat i.fst ∧ (AV.sl false (0 : Nat) (4 : Nat) Nd (ndA false) x.fst = AV.sl false (0 : Nat) (4 : Nat) Nd (ndA false) x.fst ∧ (ndAt x.fst x.snd).kind = (ndAt x.fst x.snd).kind ∧ (ndAt x.fst x.snd).text = (ndAt x.fst x.snd).text ∧ AV.sl false (0 : Nat) (1 : Nat) Int intA (ndAt x.fst x.snd).kids = AV.sl false (0 : Nat) (1 : Nat) Int intA (ndAt x.fst x.snd).kids ∧ (ndAt x.fst x.snd).blank = (ndAt x.fst x.snd).blank ∧ i.snd.fst + oI (cV x_2.fst x_2.snd) = i'.snd.fst ∧ inn x_3.fst x_3.snd.fst x_3.snd.snd = i'.snd.snd ∧ i.fst + (1 : Int) = i'.fst ∧ True) ∧ True) (inR IntKind.i64 (i.fst + (1 : Int)) ∧ ∃ (i' : Int × Int × Bool), lc x.fst (ndAt x.fst x.snd) i'.fst i'.snd.fst i'.snd.snd ∧ List.length (ndAt x.fst x.snd).kids - Int.toNat i'.fst < List.length (ndAt x.fst x.snd).kids - Int.toNat i.fst ∧ (AV.sl false (0 : Nat) (4 : Nat) Nd (ndA false) x.fst = AV.sl false (0 : Nat) (4 : Nat) Nd (ndA false) x.fst ∧ (ndAt x.fst x.snd).kind = (ndAt x.fst x.snd).kind ∧ (ndAt x.fst x.snd).text = (ndAt x.fst x.snd).text ∧ AV.sl false (0 : Nat) (1 : Nat) Int intA (ndAt x.fst x.snd).kids = AV.sl false (0 : Nat) (1 : Nat) Int intA (ndAt x.fst x.snd).kids ∧ (ndAt x.fst x.snd).blank = (ndAt x.fst x.snd).blank ∧ i.snd.fst + oI (cV x_2.fst x_2.snd) = i'.snd.fst ∧ false = i'.snd.snd ∧ i.fst + (1 : Int) = i'.fst ∧ True) ∧ True)) (bcase ((ndAt x.fst x.snd).text == #[(45 : UInt8)].toList) (inR IntKind.i64 (i.snd.fst - oI (cV x_2.fst x_2.snd)) ∧ bcase (Option.isSome (cV x_2.fst x_2.snd)) (∃ (x_3 : Int × Int × Int), True ∧ i.snd.fst - oI (cV x_2.fst x_2.snd) = x_3.fst ∧ (-1000000000 : Int) = x_3.snd.fst ∧ (1000000000 : Int) = x_3.snd.snd ∧ ∀ (y : Unit), True → inR IntKind.i64 (i.fst + (1 : Int)) ∧ ∃ (i' : Int × Int × Bool), lc x.fst (ndAt x.fst x.snd) i'.fst i'.snd.fst i'.snd.snd ∧ List.length (ndAt x.fst x.snd).kids - Int.toNat i'.fst < List.length (ndAt x.fst x.snd).kids - Int.toNat i.fst ∧ (AV.sl false (0 : Nat) (4 : Nat) Nd (ndA false) x.fst = AV.sl false (0 : Nat) (4 : Nat) Nd (ndA false) x.fst ∧ (ndAt x.fst x.snd).kind = (ndAt x.fst x.snd).kind ∧ (ndAt x.fst x.snd).text = (ndAt x.fst x.snd).text ∧ AV.sl false (0 : Nat) (1 : Nat) Int intA (ndAt x.fst x.snd).kids = AV.sl false (0 : Nat) (1 : Nat) Int intA (ndAt x.fst x.snd).kids ∧ (ndAt x.fst x.snd).blank = (ndAt x.fst x.snd).blank ∧ i.snd.fst - oI (cV x_2.fst x_2.snd) = i'.snd.fst ∧ inn x_3.fst x_3.snd.fst x_3.snd.snd = i'.snd.snd ∧ i.fst + (1 : Int) = i'.fst ∧ True) ∧ True) (inR IntKind.i64 (i.fst + (1 : Int)) ∧ ∃ (i' : Int × Int × Bool), lc x.fst (ndAt x.fst x.snd) i'.fst i'.snd.fst i'.snd.snd ∧ List.length (ndAt x.fst x.snd).kids - Int.toNat i'.fst < List.length (ndAt x.fst x.snd).kids - Int.toNat i.fst ∧ (AV.sl false (0 : Nat) (4 : Nat) Nd (ndA false) x.fst = AV.sl false (0 : Nat) (4 : Nat) Nd (ndA false) x.fst ∧ (ndAt x.fst x.snd).kind = (ndAt x.fst x.snd).kind ∧ (ndAt x.fst x.snd).text = (ndAt x.fst x.snd).text ∧ AV.sl false (0 : Nat) (1 : Nat) Int intA (ndAt x.fst x.snd).kids = AV.sl false (0 : Nat) (1 : Nat) Int intA (ndAt x.fst x.snd).kids ∧ (ndAt x.fst x.snd).blank = (ndAt x.fst x.snd).blank ∧ i.snd.fst - oI (cV x_2.fst x_2.snd) = i'.snd.fst ∧ false = i'.snd.snd ∧ i.fst + (1 : Int) = i'.fst ∧ True) ∧ True)) (inR IntKind.i64 (i.snd.fst * oI (cV x_2.fst x_2.snd)) ∧ bcase (Option.isSome (cV x_2.fst x_2.snd)) (∃ (x_3 : Int × Int × Int), True ∧ i.snd.fst * oI (cV x_2.fst x_2.snd) = x_3.fst ∧ (-1000000000 : Int) = x_3.snd.fst ∧ (1000000000 : Int) = x_3.snd.snd ∧ ∀ (y : Unit), True → inR IntKind.i64 (i.fst + (1 : Int)) ∧ ∃ (i' : Int × Int × Bool), lc x.fst (ndAt x.fst x.snd) i'.fst i'.snd.fst i'.snd.snd ∧ List.length (ndAt x.fst x.snd).kids - Int.toNat i'.fst < List.length (ndAt x.fst x.snd).kids - Int.toNat i.fst ∧ (AV.sl false (0 : Nat) (4 : Nat) Nd (ndA false) x.fst = AV.sl false (0 : Nat) (4 : Nat) Nd (ndA false) x.fst ∧ (ndAt x.fst x.snd).kind = (ndAt x.fst x.snd).kind ∧ (ndAt x.fst x.snd).text = (ndAt x.fst x.snd).text ∧ AV.sl false (0 : Nat) (1 : Nat) Int intA (ndAt x.fst x.snd).kids = AV.sl false (0 : Nat) (1 : Nat) Int intA (ndAt x.fst x.snd).kids ∧ (ndAt x.fst x.snd).blank = (ndAt x.fst x.snd).blank ∧ i.snd.fst * oI (cV x_2.fst x_2.snd) = i'.snd.fst ∧ inn x_3.fst x_3.snd.fst x_3.snd.snd = i'.snd.snd ∧ i.fst + (1 : Int) = i'.fst ∧ True) ∧ True) (inR IntKind.i64 (i.fst + (1 : Int)) ∧ ∃ (i' : Int × Int × Bool), lc x.fst (ndAt x.fst x.snd) i'.fst i'.snd.fst i'.snd.snd ∧ List.length (ndAt x.fst x.snd).kids - Int.toNat i'.fst < List.length (ndAt x.fst x.snd).kids - Int.toNat i.fst ∧ (AV.sl false (0 : Nat) (4 : Nat) Nd (ndA false) x.fst = AV.sl false (0 : Nat) (4 : Nat) Nd (ndA false) x.fst ∧ (ndAt x.fst x.snd).kind = (ndAt x.fst x.snd).kind ∧ (ndAt x.fst x.snd).text = (ndAt x.fst x.snd).text ∧ AV.sl false (0 : Nat) (1 : Nat) Int intA (ndAt x.fst x.snd).kids = AV.sl false (0 : Nat) (1 : Nat) Int intA (ndAt x.fst x.snd).kids ∧ (ndAt x.fst x.snd).blank = (ndAt x.fst x.snd).blank ∧ i.snd.fst * oI (cV x_2.fst x_2.snd) = i'.snd.fst ∧ false = i'.snd.snd ∧ i.fst + (1 : Int) = i'.fst ∧ True) ∧ True)))) (bcase i.snd.snd (∃ (y : Unit), True ∧ i.snd.fst = oI (cV x.fst x.snd) ∧ true = Option.isSome (cV x.fst x.snd) ∧ True) (∃ (y : Unit), True ∧ (0 : Int) = oI (cV x.fst x.snd) ∧ false = Option.isSome (cV x.fst x.snd) ∧ True))) (bcase i.snd.snd (∃ (y : Unit), True ∧ i.snd.fst = oI (cV x.fst x.snd) ∧ true = Option.isSome (cV x.fst x.snd) ∧ True) (∃ (y : Unit), True ∧ (0 : Int) = oI (cV x.fst x.snd) ∧ false = Option.isSome (cV x.fst x.snd) ∧ True))) (∃ (y : Unit), True ∧ (0 : Int) = oI (cV x.fst x.snd) ∧ false = Option.isSome (cV x.fst x.snd) ∧ True)))) := by kernel_rfl
set_option maxHeartbeats 4000000 in
theorem l25S_ok (n : Nat) (hc : Contract G Go.Proofs.Tryd.prog 25 (s_lR n)) : Contract G Tryd.prog 25 (s_l25S n) :=
  vcFun_ok (Γ := Γof [(25, 0, (s_lR n)), (46, 0, s_l24Figures), (44, 0, s_l01In)]) (E := Eof []) (ov := false) (L := fun x => Lof ([(12,lL x), (200010,lLJ x)])) Tryd.func25 rfl (by decide) (Γof_ok (l := [(25, 0, (s_lR n)), (46, 0, s_l24Figures), (44, 0, s_l01In)]) ⟨hc, l24Figures_ok, l01In_ok, trivial⟩) fun (x : List Nd × Int) (hx : consP (n + 1) x) => (l25S_vc n x).mpr (by
  have h1 := hx.1; have hl := h1.1; have hn := isNd_iff.1 hx.2.1.1
  obtain ⟨z, hz⟩ : ∃ z, x.1[x.2.toNat]? = some z := ⟨x.1[x.2.toNat], by simp⟩
  simp only [hz, Option.some.injEq, forall_eq', ndAt_of hz]
  (repeat' first | with_reducible rfl | exact True.intro | refine inR_i64 ?_ ?_ | with_reducible refine And.intro ?_ ?_ | with_reducible refine bcase_dec (fun _ => ?_) (fun _ => ?_) | with_reducible refine bcase_bne (fun _ => ?_) (fun _ => ?_) | with_reducible refine bcase_beq (fun _ => ?_) (fun _ => ?_) | with_reducible refine bcase_not (fun _ => ?_) (fun _ => ?_) | refine bcase_intro (fun _ => ?_) (fun _ => ?_) | refine sl_eq ?_ | refine ex_flip () ?_ ?_ | (apply ex_flip6 <;> try dsimp only) | (apply ex_flip5 <;> try dsimp only) | (apply ex_flip4 <;> try dsimp only) | (apply ex_flip3 <;> try dsimp only) | (apply ex_flip2 <;> try dsimp only) | apply ex_flip | (refine Prod.forall.2 ?_; intro _; try dsimp only) | (intro _; try dsimp only))
  all_goals try (have h7 := consP_len hx hz (by assumption))
  all_goals try subst_vars
  all_goals first
    | rfl
    | omega
    | exact h1
    | exact (consP_2 hx hz (by assumption)).1.1
    | exact (consP_2 hx hz (by assumption)).1.2.1
    | exact (consP_2 hx hz (by assumption)).1.2.2
    | (have h2 := consP_2 hx hz (by assumption); rw [h2.2]; by_cases h9 : 9 < z.text.length <;> simp [h9, oI] <;> omega)
    | (have hcc := consP_kid hx hz (memE (by assumption)); exact ⟨h1, hcc.1, hcc.2⟩)
    | (rw [consP_0 hx hz (by assumption) (by assumption) (by assumption)]; rfl)
    | (obtain ⟨c, hk, hv⟩ := consP_11 hx hz (by assumption); have h0 := (show (Nd.kids _)[0]? = some _ by assumption); rw [hk] at h0; cases h0; rw [hv]; done)
    | (obtain ⟨c, hk, hv⟩ := consP_11 hx hz (by assumption); rw [hk]; simp; done)
    | (simp [opOk, *]; done)
    | exact lc_init (by assumption) (consP_kid hx hz (memE (by assumption))).1
    | exact lc_no (by assumption) (by assumption) (by assumption)
    | exact lc_yes (by assumption) (by assumption) (by assumption) (by simp [reck, *])
    | (have hcc := lc_some (by assumption) (by assumption); rw [consP_7 hx hz (by assumption)]; simp [chainV, hcc, oI, *]; done)
    | (have hcc := lc_none (by assumption); rw [consP_7 hx hz (by assumption)]; simp [chainV, hcc, oI, *]; done)
    | (rw [consP_7 hx hz (by assumption)]; simp [chainV, opOk, oI, *]; done)
    | contradiction
    | (have hlc := (show lc _ _ _ _ true by assumption); have hb1 := (hlc.2.2.1 rfl).1; have hb2 := oI_bd (consP_kid hx hz (memE (show z.kids[Int.toNat _]? = some _ by assumption))).1; have hmm := mul_bd hb1.1 hb1.2 hb2.1 hb2.2; unfold bdd at hb1 hb2; (try simp only [i64max]); omega)
    | (have hlc := (show lc _ _ _ _ _ by assumption); have hk2 := (okNds_at hz h1).2; have := hlc.1; have := hlc.2.1; (try simp only [i64max]); omega)
    | skip)

theorem l25_all : ∀ n : Nat, Contract G Go.Proofs.Tryd.prog 25 (s_lR n)
  | 0 => l25Z_ok
  | n + 1 => l25S_ok n (l25_all n)
end Go.My
end
section
/- The laws' own helpers: sizes, copies, comparisons, marks. -/
set_option linter.unusedVariables false
set_option linter.unusedSimpArgs false
namespace Go.My
open Go.Eng Go.Proofs
variable {G : GInv}

def s_szInts  : Sig := { X := List Int × Int, args := fun x => [ints x.1, .int .i64 x.2], pre := fun x => -1 ≤ x.2 ∧ x.2 ≤ 2 ^ 50 ∧ x.1.length < 2 ^ 63, Y := Unit, post := fun x y => True, res := fun x y => .int .i64 (szInts x.1 x.2), outs := fun x y => [.top, .top], keep := false }
theorem szInts_vc (x : List Int × Int) : vcFun Go.Proofs.Tryd.prog (Γof []) (Eof []) false (Lof ([])) Go.Proofs.Tryd.f43.ntmps Go.Proofs.Tryd.f43.results.toList (Go.Proofs.Tryd.f43.body.getD .skip) s_szInts x = ((∀ (y : Unit), True → True ∧ True ∧ True ∧ True) ∧ inR IntKind.i64 (x.snd - (↑(List.length x.fst) : Int)) ∧ bcase (decide (x.snd - (↑(List.length x.fst) : Int) < (0 : Int))) (∃ (y : Unit), True ∧ (-1 : Int) = szInts x.fst x.snd ∧ True) (∃ (y : Unit), True ∧ x.snd - (↑(List.length x.fst) : Int) = szInts x.fst x.snd ∧ True)) := by kernel_rfl
theorem szInts_ok  : Contract G Tryd.prog 43 s_szInts :=
  vcFun_ok (Γ := Γof []) (E := Eof []) (ov := false) (L := fun x => Lof ([])) Tryd.func43 rfl (by decide) (Γof_ok (l := []) trivial) fun (x : List Int × Int) (hx : -1 ≤ x.2 ∧ x.2 ≤ 2 ^ 50 ∧ x.1.length < 2 ^ 63) => (szInts_vc  x).mpr (by
  obtain ⟨h1, h2, h3⟩ := hx
  (repeat' first | with_reducible rfl | exact True.intro | refine inR_i64 ?_ ?_ | with_reducible refine And.intro ?_ ?_ | with_reducible refine bcase_dec (fun _ => ?_) (fun _ => ?_) | with_reducible refine bcase_bne (fun _ => ?_) (fun _ => ?_) | with_reducible refine bcase_beq (fun _ => ?_) (fun _ => ?_) | with_reducible refine bcase_not (fun _ => ?_) (fun _ => ?_) | refine bcase_intro (fun _ => ?_) (fun _ => ?_) | refine sl_eq ?_ | refine ex_flip () ?_ ?_ | (apply ex_flip6 <;> try dsimp only) | (apply ex_flip5 <;> try dsimp only) | (apply ex_flip4 <;> try dsimp only) | (apply ex_flip3 <;> try dsimp only) | (apply ex_flip2 <;> try dsimp only) | apply ex_flip | (refine Prod.forall.2 ?_; intro _; try dsimp only) | (intro _; try dsimp only)) <;> (try dsimp only at *) <;> (try simp only [i64max, List.length_cons, List.length_nil]) <;> (try omega) <;> unfold szInts <;> split <;> omega)

def s_szNd  : Sig := { X := Nd × Int, args := fun x => [.agg (ndA false x.1), .int .i64 x.2], pre := fun x => -1 ≤ x.2 ∧ x.2 ≤ 2 ^ 50 ∧ smallNd x.1, Y := Unit, post := fun x y => True, res := fun x y => .int .i64 (szNd x.1 x.2), outs := fun x y => [.top, .top], keep := false }
theorem szNd_vc (x : Nd × Int) : vcFun Go.Proofs.Tryd.prog (Γof [(43, 0, s_szInts)]) (Eof []) false (Lof ([])) Go.Proofs.Tryd.f22.ntmps Go.Proofs.Tryd.f22.results.toList (Go.Proofs.Tryd.f22.body.getD .skip) s_szNd x = ((∀ (y : Unit), True → True ∧ True ∧ True ∧ True) ∧ inR IntKind.i64 (x.snd - (↑(List.length x.fst.text) : Int)) ∧ bcase (decide (x.snd - (↑(List.length x.fst.text) : Int) < (0 : Int))) (∃ (y : Unit), True ∧ (-1 : Int) = szNd x.fst x.snd ∧ True) (∃ (x_1 : List Int × Int), ((-1 : Int) ≤ x_1.snd ∧ x_1.snd ≤ (2 : Int) ^ (50 : Nat) ∧ List.length x_1.fst < (9223372036854775808 : Nat)) ∧ AV.sl false (0 : Nat) (1 : Nat) Int intA x.fst.kids = AV.sl false (0 : Nat) (1 : Nat) Int intA x_1.fst ∧ x.snd - (↑(List.length x.fst.text) : Int) = x_1.snd ∧ ∀ (y : Unit), True → bcase (decide (szInts x_1.fst x_1.snd < (0 : Int))) (∃ (y : Unit), True ∧ (-1 : Int) = szNd x.fst x.snd ∧ True) (∃ (y : Unit), True ∧ szInts x_1.fst x_1.snd = szNd x.fst x.snd ∧ True))) := by kernel_rfl
theorem szNd_ok  : Contract G Tryd.prog 22 s_szNd :=
  vcFun_ok (Γ := Γof [(43, 0, s_szInts)]) (E := Eof []) (ov := false) (L := fun x => Lof ([])) Tryd.func22 rfl (by decide) (Γof_ok (l := [(43, 0, s_szInts)]) ⟨szInts_ok, trivial⟩) fun (x : Nd × Int) (hx : -1 ≤ x.2 ∧ x.2 ≤ 2 ^ 50 ∧ smallNd x.1) => (szNd_vc  x).mpr (by
  obtain ⟨h1, h2, h3, h4⟩ := hx
  (repeat' first | with_reducible rfl | exact True.intro | refine inR_i64 ?_ ?_ | with_reducible refine And.intro ?_ ?_ | with_reducible refine bcase_dec (fun _ => ?_) (fun _ => ?_) | with_reducible refine bcase_bne (fun _ => ?_) (fun _ => ?_) | with_reducible refine bcase_beq (fun _ => ?_) (fun _ => ?_) | with_reducible refine bcase_not (fun _ => ?_) (fun _ => ?_) | refine bcase_intro (fun _ => ?_) (fun _ => ?_) | refine sl_eq ?_ | refine ex_flip () ?_ ?_ | (apply ex_flip6 <;> try dsimp only) | (apply ex_flip5 <;> try dsimp only) | (apply ex_flip4 <;> try dsimp only) | (apply ex_flip3 <;> try dsimp only) | (apply ex_flip2 <;> try dsimp only) | apply ex_flip | (refine Prod.forall.2 ?_; intro _; try dsimp only) | (intro _; try dsimp only)) <;> (try dsimp only at *) <;> (try simp only [i64max, List.length_cons, List.length_nil]) <;> (try omega)
  · simp [szNd, *]
  · rename_i h _ _ h'; unfold szNd; rw [if_neg h]
    have := @szInts_mono x.1.kids (x.2 - x.1.text.length) (by omega); omega
  · rename_i h _ _ h'; simp [szNd, h])

def lSzNds (x : List Nd × Int) : LS := {
  ι := Int × Int, inv := fun i => 0 ≤ i.1 ∧ i.1 ≤ x.1.length ∧ -1 ≤ i.2 ∧ i.2 ≤ 2 ^ 50 ∧ szAll (x.1.drop i.1.toNat) i.2 = szNds x.1 x.2,
  regs := fun i => [(0, nds x.1), (1, .int .i64 i.2), (5, .int .i64 i.1)], als := [], meas := fun i => x.1.length - i.1.toNat }
def s_szNds  : Sig := { X := List Nd × Int, args := fun x => [nds x.1, .int .i64 x.2], pre := fun x => -1 ≤ x.2 ∧ x.2 ≤ 2 ^ 50 ∧ smallNds x.1, Y := Unit, post := fun x y => True, res := fun x y => .int .i64 (szNds x.1 x.2), outs := fun x y => [.top, .top], keep := false }
theorem szNds_vc (x : List Nd × Int) : vcFun Go.Proofs.Tryd.prog (Γof [(22, 0, s_szNd)]) (Eof []) false (Lof ([(5,lSzNds x)])) Go.Proofs.Tryd.f7.ntmps Go.Proofs.Tryd.f7.results.toList (Go.Proofs.Tryd.f7.body.getD .skip) s_szNds x = ((∀ (y : Unit), True → True ∧ True ∧ True ∧ True) ∧ inR IntKind.i64 (x.snd - (↑(List.length x.fst) : Int)) ∧ bcase (decide (x.snd - (↑(List.length x.fst) : Int) < (0 : Int))) (∃ (y : Unit), True ∧ (-1 : Int) = szNds x.fst x.snd ∧ True) ((∃ (i : Int × Int), ((0 : Int) ≤ i.fst ∧ i.fst ≤ (↑(List.length x.fst) : Int) ∧ (-1 : Int) ≤ i.snd ∧ i.snd ≤ (2 : Int) ^ (50 : Nat) ∧ szAll (List.drop (Int.toNat i.fst) x.fst) i.snd = szNds x.fst x.snd) ∧ (AV.sl false (0 : Nat) (4 : Nat) Nd (ndA false) x.fst = AV.sl false (0 : Nat) (4 : Nat) Nd (ndA false) x.fst ∧ x.snd - (↑(List.length x.fst) : Int) = i.snd ∧ (0 : Int) = i.fst ∧ True) ∧ True) ∧ ∀ (i : Int × Int), (0 : Int) ≤ i.fst ∧ i.fst ≤ (↑(List.length x.fst) : Int) ∧ (-1 : Int) ≤ i.snd ∧ i.snd ≤ (2 : Int) ^ (50 : Nat) ∧ szAll (List.drop (Int.toNat i.fst) x.fst) i.snd = szNds x.fst x.snd → bcase (decide (i.fst < (↑(List.length x.fst) : Int))) (((0 : Int) ≤ i.fst ∧ i.fst < (↑(List.length x.fst) : Int)) ∧ ∀ (e : Nd), x.fst[Int.toNat i.fst]? = some e → ∃ (x_1 : Nd × Int), ((-1 : Int) ≤ x_1.snd ∧ x_1.snd ≤ (2 : Int) ^ (50 : Nat) ∧ smallNd x_1.fst) ∧ e.kind = x_1.fst.kind ∧ e.text = x_1.fst.text ∧ AV.sl false (0 : Nat) (1 : Nat) Int intA e.kids = AV.sl false (0 : Nat) (1 : Nat) Int intA x_1.fst.kids ∧ e.blank = x_1.fst.blank ∧ i.snd = x_1.snd ∧ ∀ (y : Unit), True → bcase (decide (szNd x_1.fst x_1.snd < (0 : Int))) (∃ (y : Unit), True ∧ (-1 : Int) = szNds x.fst x.snd ∧ True) (inR IntKind.i64 (i.fst + (1 : Int)) ∧ ∃ (i' : Int × Int), ((0 : Int) ≤ i'.fst ∧ i'.fst ≤ (↑(List.length x.fst) : Int) ∧ (-1 : Int) ≤ i'.snd ∧ i'.snd ≤ (2 : Int) ^ (50 : Nat) ∧ szAll (List.drop (Int.toNat i'.fst) x.fst) i'.snd = szNds x.fst x.snd) ∧ List.length x.fst - Int.toNat i'.fst < List.length x.fst - Int.toNat i.fst ∧ (AV.sl false (0 : Nat) (4 : Nat) Nd (ndA false) x.fst = AV.sl false (0 : Nat) (4 : Nat) Nd (ndA false) x.fst ∧ szNd x_1.fst x_1.snd = i'.snd ∧ i.fst + (1 : Int) = i'.fst ∧ True) ∧ True)) (∃ (y : Unit), True ∧ i.snd = szNds x.fst x.snd ∧ True))) := by kernel_rfl
theorem szNds_ok  : Contract G Tryd.prog 7 s_szNds :=
  vcFun_ok (Γ := Γof [(22, 0, s_szNd)]) (E := Eof []) (ov := false) (L := fun x => Lof ([(5,lSzNds x)])) Tryd.func7 rfl (by decide) (Γof_ok (l := [(22, 0, s_szNd)]) ⟨szNd_ok, trivial⟩) fun (x : List Nd × Int) (hx : -1 ≤ x.2 ∧ x.2 ≤ 2 ^ 50 ∧ smallNds x.1) => (szNds_vc  x).mpr (by
  obtain ⟨h1, h2, h3, h4⟩ := hx; obtain ⟨l, n⟩ := x
  (repeat' first | with_reducible rfl | exact True.intro | refine inR_i64 ?_ ?_ | with_reducible refine And.intro ?_ ?_ | with_reducible refine bcase_dec (fun _ => ?_) (fun _ => ?_) | with_reducible refine bcase_bne (fun _ => ?_) (fun _ => ?_) | with_reducible refine bcase_beq (fun _ => ?_) (fun _ => ?_) | with_reducible refine bcase_not (fun _ => ?_) (fun _ => ?_) | refine bcase_intro (fun _ => ?_) (fun _ => ?_) | refine sl_eq ?_ | refine ex_flip () ?_ ?_ | (apply ex_flip6 <;> try dsimp only) | (apply ex_flip5 <;> try dsimp only) | (apply ex_flip4 <;> try dsimp only) | (apply ex_flip3 <;> try dsimp only) | (apply ex_flip2 <;> try dsimp only) | apply ex_flip | (refine Prod.forall.2 ?_; intro _; try dsimp only) | (intro _; try dsimp only)) <;> (try dsimp only at *) <;> (try simp only [i64max, List.length_cons, List.length_nil]) <;> (try omega)
  all_goals try simp only at *
  · simp [szNds, *]
  · simp [szNds, *]
  · rename_i h0 i s hi h e he _ _ hs
    rw [← hi.2.2.2.2, dropE he]; simp [szAll, hs]
  · rename_i h0 i s hi h e he _ _ hs
    have := @szNd_mono e s hi.2.2.1; omega
  · rename_i h0 i s hi h e he _ _ hs
    rw [← hi.2.2.2.2, dropE he, toNat1 hi.1]; simp [szAll, hs]
  · rename_i h0 i s hi h e he
    exact h4 e (memE he)
  · rename_i h0 i s hi h
    rw [← hi.2.2.2.2, List.drop_eq_nil_of_le (by omega)]; rfl)

def lToInts (x : List Int) : LS := {
  ι := Int, inv := fun i => 0 ≤ i ∧ i ≤ x.length, regs := fun i => [(0, ints x), (3, oints (fillL 0 x i)), (4, .int .i64 i)], als := [], meas := fun i => x.length - i.toNat }
def s_toInts  : Sig := { X := List Int, args := fun x => [ints x], pre := fun x => x.length ≤ 2 ^ 30, Y := Unit, post := fun x y => True, res := fun x y => oints x, outs := fun x y => [.top], keep := false }
theorem toInts_vc (x : List Int) : vcFun Go.Proofs.Tryd.prog (Γof []) (Eof [(39, ⟨Int,intA⟩)]) false (Lof ([(3,lToInts x)])) Go.Proofs.Tryd.f47.ntmps Go.Proofs.Tryd.f47.results.toList (Go.Proofs.Tryd.f47.body.getD .skip) s_toInts x = ((∀ (y : Unit), True → (∀ (x : Int), True ∧ True) ∧ True ∧ True) ∧ ((0 : Int) ≤ (↑(List.length x) : Int) ∧ (↑(List.length x) : Int) ≤ (↑(List.length x) : Int) ∧ (↑(8 : Nat) : Int) * (↑(List.length x) : Int) ≤ (2 : Int) ^ (46 : Nat) ∧ (↑(List.length x) : Int) ≤ (2 : Int) ^ (46 : Nat)) ∧ ∃ (x_1 : Int), (0 : Int) = x_1 ∧ (∃ (i : Int), ((0 : Int) ≤ i ∧ i ≤ (↑(List.length x) : Int)) ∧ (AV.sl false (0 : Nat) (1 : Nat) Int intA x = AV.sl false (0 : Nat) (1 : Nat) Int intA x ∧ AV.sl true (0 : Nat) (1 : Nat) Int intA (List.replicate (Int.toNat (↑(List.length x) : Int)) x_1) = AV.sl true (0 : Nat) (1 : Nat) Int intA (fillL (0 : Int) x i) ∧ (0 : Int) = i ∧ True) ∧ True) ∧ ∀ (i : Int), (0 : Int) ≤ i ∧ i ≤ (↑(List.length x) : Int) → bcase (decide (i < (↑(List.length x) : Int))) (((0 : Int) ≤ i ∧ i < (↑(List.length x) : Int)) ∧ ∀ (e : Int), x[Int.toNat i]? = some e → ((0 : Int) ≤ i ∧ i < (↑(List.length (fillL (0 : Int) x i)) : Int)) ∧ Int.toNat i < List.length (fillL (0 : Int) x i) ∧ ∀ (x_2 : Int), (fillL (0 : Int) x i)[Int.toNat i]? = some x_2 → ∃ (x' : Int), ((@List.nil AV) = [] ∧ (@List.nil AV) = []) ∧ e = x' ∧ inR IntKind.i64 (i + (1 : Int)) ∧ ∃ (i' : Int), ((0 : Int) ≤ i' ∧ i' ≤ (↑(List.length x) : Int)) ∧ List.length x - Int.toNat i' < List.length x - Int.toNat i ∧ (AV.sl false (0 : Nat) (1 : Nat) Int intA x = AV.sl false (0 : Nat) (1 : Nat) Int intA x ∧ AV.sl true (0 : Nat) (1 : Nat) Int intA (List.set (fillL (0 : Int) x i) (Int.toNat i) x') = AV.sl true (0 : Nat) (1 : Nat) Int intA (fillL (0 : Int) x i') ∧ i + (1 : Int) = i' ∧ True) ∧ True) (∃ (y : Unit), True ∧ AV.sl true (0 : Nat) (1 : Nat) Int intA (fillL (0 : Int) x i) = AV.sl true (0 : Nat) (1 : Nat) Int intA x ∧ True)) := by kernel_rfl
theorem toInts_ok  : Contract G Tryd.prog 47 s_toInts :=
  vcFun_ok (Γ := Γof []) (E := Eof [(39, ⟨Int,intA⟩)]) (ov := false) (L := fun x => Lof ([(3,lToInts x)])) Tryd.func47 rfl (by decide) (Γof_ok (l := []) trivial) fun (x : List Int) (hx : x.length ≤ 2 ^ 30) => (toInts_vc  x).mpr (by
  have hx : x.length ≤ 2 ^ 30 := hx
  (repeat' first | with_reducible rfl | exact True.intro | refine inR_i64 ?_ ?_ | with_reducible refine And.intro ?_ ?_ | with_reducible refine bcase_dec (fun _ => ?_) (fun _ => ?_) | with_reducible refine bcase_bne (fun _ => ?_) (fun _ => ?_) | with_reducible refine bcase_beq (fun _ => ?_) (fun _ => ?_) | with_reducible refine bcase_not (fun _ => ?_) (fun _ => ?_) | refine bcase_intro (fun _ => ?_) (fun _ => ?_) | refine sl_eq ?_ | refine ex_flip () ?_ ?_ | (apply ex_flip6 <;> try dsimp only) | (apply ex_flip5 <;> try dsimp only) | (apply ex_flip4 <;> try dsimp only) | (apply ex_flip3 <;> try dsimp only) | (apply ex_flip2 <;> try dsimp only) | apply ex_flip | (refine Prod.forall.2 ?_; intro _; try dsimp only) | (intro _; try dsimp only)) <;> (try dsimp only at *) <;> (try simp only [i64max, List.length_cons, List.length_nil]) <;> (try omega)
  · exact fillL_zero
  · rw [fillL_length (by omega)]; omega
  · rw [fillL_length (by omega)]; omega
  · rename_i i hi h e he _ _
    exact fillL_set hi.1 he
  · exact fillL_all (by omega))

def s_toNd  : Sig := { X := Nd, args := fun x => [.agg (ndA false x)], pre := fun x => x.kids.length ≤ 2 ^ 30, Y := Unit, post := fun x y => True, res := fun x y => .agg (ndA true x), outs := fun x y => [.top], keep := false }
theorem toNd_vc (x : Nd) : vcFun Go.Proofs.Tryd.prog (Γof [(47, 0, s_toInts)]) (Eof []) false (Lof ([])) Go.Proofs.Tryd.f26.ntmps Go.Proofs.Tryd.f26.results.toList (Go.Proofs.Tryd.f26.body.getD .skip) s_toNd x = ((∀ (y : Unit), True → (True ∧ True ∧ (∀ (x : Int), True ∧ True) ∧ True ∧ True) ∧ True ∧ True) ∧ ∃ (x_1 : List Int), List.length x_1 ≤ (1073741824 : Nat) ∧ AV.sl false (0 : Nat) (1 : Nat) Int intA x.kids = AV.sl false (0 : Nat) (1 : Nat) Int intA x_1 ∧ ∀ (y : Unit), True → ∃ (y : Unit), True ∧ x.kind = x.kind ∧ x.text = x.text ∧ AV.sl true (0 : Nat) (1 : Nat) Int intA x_1 = AV.sl true (0 : Nat) (1 : Nat) Int intA x.kids ∧ x.blank = x.blank ∧ True) := by kernel_rfl
theorem toNd_ok  : Contract G Tryd.prog 26 s_toNd :=
  vcFun_ok (Γ := Γof [(47, 0, s_toInts)]) (E := Eof []) (ov := false) (L := fun x => Lof ([])) Tryd.func26 rfl (by decide) (Γof_ok (l := [(47, 0, s_toInts)]) ⟨toInts_ok, trivial⟩) fun (x : Nd) (hx : x.kids.length ≤ 2 ^ 30) => (toNd_vc  x).mpr (by
  have hx : x.kids.length ≤ 2 ^ 30 := hx
  (repeat' first | with_reducible rfl | exact True.intro | refine inR_i64 ?_ ?_ | with_reducible refine And.intro ?_ ?_ | with_reducible refine bcase_dec (fun _ => ?_) (fun _ => ?_) | with_reducible refine bcase_bne (fun _ => ?_) (fun _ => ?_) | with_reducible refine bcase_beq (fun _ => ?_) (fun _ => ?_) | with_reducible refine bcase_not (fun _ => ?_) (fun _ => ?_) | refine bcase_intro (fun _ => ?_) (fun _ => ?_) | refine sl_eq ?_ | refine ex_flip () ?_ ?_ | (apply ex_flip6 <;> try dsimp only) | (apply ex_flip5 <;> try dsimp only) | (apply ex_flip4 <;> try dsimp only) | (apply ex_flip3 <;> try dsimp only) | (apply ex_flip2 <;> try dsimp only) | apply ex_flip | (refine Prod.forall.2 ?_; intro _; try dsimp only) | (intro _; try dsimp only)) <;> (try dsimp only at *) <;> (try simp only [i64max, List.length_cons, List.length_nil]) <;> (try omega))

def lToNds (x : List Nd) : LS := {
  ι := Int, inv := fun i => 0 ≤ i ∧ i ≤ x.length, regs := fun i => [(0, nds x), (3, onds (fillL ⟨0, [], [], false⟩ x i)), (4, .int .i64 i)], als := [], meas := fun i => x.length - i.toNat }
def s_toNds  : Sig := { X := List Nd, args := fun x => [nds x], pre := fun x => x.length ≤ 2 ^ 30 ∧ ∀ e ∈ x, e.kids.length ≤ 2 ^ 30, Y := Unit, post := fun x y => True, res := fun x y => onds x, outs := fun x y => [.top], keep := false }
theorem toNds_vc (x : List Nd) : vcFun Go.Proofs.Tryd.prog (Γof [(26, 0, s_toNd)]) (Eof [(26, ⟨Nd,ndA true⟩)]) false (Lof ([(3,lToNds x)])) Go.Proofs.Tryd.f9.ntmps Go.Proofs.Tryd.f9.results.toList (Go.Proofs.Tryd.f9.body.getD .skip) s_toNds x = ((∀ (y : Unit), True → (∀ (x : Nd), True ∧ True ∧ (∀ (x : Int), True ∧ True) ∧ True ∧ True) ∧ True ∧ True) ∧ ((0 : Int) ≤ (↑(List.length x) : Int) ∧ (↑(List.length x) : Int) ≤ (↑(List.length x) : Int) ∧ (↑(56 : Nat) : Int) * (↑(List.length x) : Int) ≤ (2 : Int) ^ (46 : Nat) ∧ (↑(List.length x) : Int) ≤ (2 : Int) ^ (46 : Nat)) ∧ ∃ (x_1 : Nd), (0 : Int) = x_1.kind ∧ #[].toList = x_1.text ∧ x_1.kids = [] ∧ false = x_1.blank ∧ (∃ (i : Int), ((0 : Int) ≤ i ∧ i ≤ (↑(List.length x) : Int)) ∧ (AV.sl false (0 : Nat) (4 : Nat) Nd (ndA false) x = AV.sl false (0 : Nat) (4 : Nat) Nd (ndA false) x ∧ AV.sl true (0 : Nat) (4 : Nat) Nd (ndA true) (List.replicate (Int.toNat (↑(List.length x) : Int)) x_1) = AV.sl true (0 : Nat) (4 : Nat) Nd (ndA true) (fillL { kind := (0 : Int), text := [], kids := [], blank := false } x i) ∧ (0 : Int) = i ∧ True) ∧ True) ∧ ∀ (i : Int), (0 : Int) ≤ i ∧ i ≤ (↑(List.length x) : Int) → bcase (decide (i < (↑(List.length x) : Int))) (((0 : Int) ≤ i ∧ i < (↑(List.length x) : Int)) ∧ ∀ (e : Nd), x[Int.toNat i]? = some e → ∃ (x_2 : Nd), List.length x_2.kids ≤ (1073741824 : Nat) ∧ e.kind = x_2.kind ∧ e.text = x_2.text ∧ AV.sl false (0 : Nat) (1 : Nat) Int intA e.kids = AV.sl false (0 : Nat) (1 : Nat) Int intA x_2.kids ∧ e.blank = x_2.blank ∧ ∀ (y : Unit), True → ((0 : Int) ≤ i ∧ i < (↑(List.length (fillL { kind := (0 : Int), text := [], kids := [], blank := false } x i)) : Int)) ∧ Int.toNat i < List.length (fillL { kind := (0 : Int), text := [], kids := [], blank := false } x i) ∧ ∀ (x_3 : Nd), (fillL { kind := (0 : Int), text := [], kids := [], blank := false } x i)[Int.toNat i]? = some x_3 → ∃ (x' : Nd), ((@List.nil AV) = [] ∧ (@List.nil AV) = []) ∧ x_2.kind = x'.kind ∧ x_2.text = x'.text ∧ AV.sl true (0 : Nat) (1 : Nat) Int intA x_2.kids = AV.sl true (0 : Nat) (1 : Nat) Int intA x'.kids ∧ x_2.blank = x'.blank ∧ inR IntKind.i64 (i + (1 : Int)) ∧ ∃ (i' : Int), ((0 : Int) ≤ i' ∧ i' ≤ (↑(List.length x) : Int)) ∧ List.length x - Int.toNat i' < List.length x - Int.toNat i ∧ (AV.sl false (0 : Nat) (4 : Nat) Nd (ndA false) x = AV.sl false (0 : Nat) (4 : Nat) Nd (ndA false) x ∧ AV.sl true (0 : Nat) (4 : Nat) Nd (ndA true) (List.set (fillL { kind := (0 : Int), text := [], kids := [], blank := false } x i) (Int.toNat i) x') = AV.sl true (0 : Nat) (4 : Nat) Nd (ndA true) (fillL { kind := (0 : Int), text := [], kids := [], blank := false } x i') ∧ i + (1 : Int) = i' ∧ True) ∧ True) (∃ (y : Unit), True ∧ AV.sl true (0 : Nat) (4 : Nat) Nd (ndA true) (fillL { kind := (0 : Int), text := [], kids := [], blank := false } x i) = AV.sl true (0 : Nat) (4 : Nat) Nd (ndA true) x ∧ True)) := by kernel_rfl
theorem toNds_ok  : Contract G Tryd.prog 9 s_toNds :=
  vcFun_ok (Γ := Γof [(26, 0, s_toNd)]) (E := Eof [(26, ⟨Nd,ndA true⟩)]) (ov := false) (L := fun x => Lof ([(3,lToNds x)])) Tryd.func9 rfl (by decide) (Γof_ok (l := [(26, 0, s_toNd)]) ⟨toNd_ok, trivial⟩) fun (x : List Nd) (hx : x.length ≤ 2 ^ 30 ∧ ∀ e ∈ x, e.kids.length ≤ 2 ^ 30) => (toNds_vc  x).mpr (by
  obtain ⟨h1, h2⟩ := hx
  (repeat' first | with_reducible rfl | exact True.intro | refine inR_i64 ?_ ?_ | with_reducible refine And.intro ?_ ?_ | with_reducible refine bcase_dec (fun _ => ?_) (fun _ => ?_) | with_reducible refine bcase_bne (fun _ => ?_) (fun _ => ?_) | with_reducible refine bcase_beq (fun _ => ?_) (fun _ => ?_) | with_reducible refine bcase_not (fun _ => ?_) (fun _ => ?_) | refine bcase_intro (fun _ => ?_) (fun _ => ?_) | refine sl_eq ?_ | refine ex_flip () ?_ ?_ | (apply ex_flip6 <;> try dsimp only) | (apply ex_flip5 <;> try dsimp only) | (apply ex_flip4 <;> try dsimp only) | (apply ex_flip3 <;> try dsimp only) | (apply ex_flip2 <;> try dsimp only) | apply ex_flip | (refine Prod.forall.2 ?_; intro _; try dsimp only) | (intro _; try dsimp only)) <;> (try dsimp only at *) <;> (try simp only [i64max, List.length_cons, List.length_nil]) <;> (try omega)
  any_goals exact (⟨0, [], [], false⟩ : Nd)
  all_goals (try rfl)
  · rw [fillL_length (by omega)]; omega
  · rw [fillL_length (by omega)]; omega
  · rename_i i hi h e he _ _ _ _
    exact fillL_set hi.1 he
  · rename_i i hi h e he
    exact h2 e (memE he)
  · exact fillL_all (by omega))

def lEqInts (x : List Int × List Int) : LS := {
  ι := Int, inv := fun i => 0 ≤ i ∧ i ≤ x.1.length ∧ x.1.take i.toNat = x.2.take i.toNat, regs := fun i => [(0, ints x.1), (1, ints x.2), (5, .int .i64 i)], als := [], meas := fun i => x.1.length - i.toNat }
def s_eqInts  : Sig := { X := List Int × List Int, args := fun x => [ints x.1, ints x.2], pre := fun x => x.1.length < 2 ^ 63 ∧ x.2.length < 2 ^ 63, Y := Unit, post := fun x y => True, res := fun x y => .bool (x.1 == x.2), outs := fun x y => [.top, .top], keep := false }
theorem eqInts_vc (x : List Int × List Int) : vcFun Go.Proofs.Tryd.prog (Γof []) (Eof []) false (Lof ([(4,lEqInts x)])) Go.Proofs.Tryd.f53.ntmps Go.Proofs.Tryd.f53.results.toList (Go.Proofs.Tryd.f53.body.getD .skip) s_eqInts x = ((∀ (y : Unit), True → True ∧ True ∧ True ∧ True) ∧ bcase ((↑(List.length x.fst) : Int) != (↑(List.length x.snd) : Int)) (∃ (y : Unit), True ∧ false = (x.fst == x.snd) ∧ True) ((∃ (i : Int), ((0 : Int) ≤ i ∧ i ≤ (↑(List.length x.fst) : Int) ∧ List.take (Int.toNat i) x.fst = List.take (Int.toNat i) x.snd) ∧ (AV.sl false (0 : Nat) (1 : Nat) Int intA x.fst = AV.sl false (0 : Nat) (1 : Nat) Int intA x.fst ∧ AV.sl false (0 : Nat) (1 : Nat) Int intA x.snd = AV.sl false (0 : Nat) (1 : Nat) Int intA x.snd ∧ (0 : Int) = i ∧ True) ∧ True) ∧ ∀ (i : Int), (0 : Int) ≤ i ∧ i ≤ (↑(List.length x.fst) : Int) ∧ List.take (Int.toNat i) x.fst = List.take (Int.toNat i) x.snd → bcase (decide (i < (↑(List.length x.fst) : Int))) (true = true ∧ true = true ∧ ((0 : Int) ≤ i ∧ i < (↑(List.length x.fst) : Int)) ∧ ∀ (e : Int), x.fst[Int.toNat i]? = some e → ((0 : Int) ≤ i ∧ i < (↑(List.length x.snd) : Int)) ∧ ∀ (e_1 : Int), x.snd[Int.toNat i]? = some e_1 → bcase (e != e_1) (∃ (y : Unit), True ∧ false = (x.fst == x.snd) ∧ True) (inR IntKind.i64 (i + (1 : Int)) ∧ ∃ (i' : Int), ((0 : Int) ≤ i' ∧ i' ≤ (↑(List.length x.fst) : Int) ∧ List.take (Int.toNat i') x.fst = List.take (Int.toNat i') x.snd) ∧ List.length x.fst - Int.toNat i' < List.length x.fst - Int.toNat i ∧ (AV.sl false (0 : Nat) (1 : Nat) Int intA x.fst = AV.sl false (0 : Nat) (1 : Nat) Int intA x.fst ∧ AV.sl false (0 : Nat) (1 : Nat) Int intA x.snd = AV.sl false (0 : Nat) (1 : Nat) Int intA x.snd ∧ i + (1 : Int) = i' ∧ True) ∧ True)) (∃ (y : Unit), True ∧ true = (x.fst == x.snd) ∧ True))) := by kernel_rfl
theorem eqInts_ok  : Contract G Tryd.prog 53 s_eqInts :=
  vcFun_ok (Γ := Γof []) (E := Eof []) (ov := false) (L := fun x => Lof ([(4,lEqInts x)])) Tryd.func53 rfl (by decide) (Γof_ok (l := []) trivial) fun (x : List Int × List Int) (hx : x.1.length < 2 ^ 63 ∧ x.2.length < 2 ^ 63) => (eqInts_vc  x).mpr (by
  obtain ⟨h1, h2⟩ := hx
  (repeat' first | with_reducible rfl | exact True.intro | refine inR_i64 ?_ ?_ | with_reducible refine And.intro ?_ ?_ | with_reducible refine bcase_dec (fun _ => ?_) (fun _ => ?_) | with_reducible refine bcase_bne (fun _ => ?_) (fun _ => ?_) | with_reducible refine bcase_beq (fun _ => ?_) (fun _ => ?_) | with_reducible refine bcase_not (fun _ => ?_) (fun _ => ?_) | refine bcase_intro (fun _ => ?_) (fun _ => ?_) | refine sl_eq ?_ | refine ex_flip () ?_ ?_ | (apply ex_flip6 <;> try dsimp only) | (apply ex_flip5 <;> try dsimp only) | (apply ex_flip4 <;> try dsimp only) | (apply ex_flip3 <;> try dsimp only) | (apply ex_flip2 <;> try dsimp only) | apply ex_flip | (refine Prod.forall.2 ?_; intro _; try dsimp only) | (intro _; try dsimp only)) <;> (try dsimp only at *) <;> (try simp only [i64max, List.length_cons, List.length_nil]) <;> (try omega)
  · rename_i h; exact bneE (fun e => h (by rw [e]))
  · rfl
  · rename_i h i hi hl e he f hf hn
    exact bneE (fun e => hn (by rw [e, hf] at he; exact (Option.some.inj he).symm))
  · rename_i h i hi hl e he f hf hn
    exact takeEq hi.1 hi.2.2 he hf hn
  · rename_i h i hi hl
    exact beqE (takeAll (by omega) hi.2.2 (by omega)))

def s_eqNd  : Sig := { X := Nd × Nd, args := fun x => [.agg (ndA false x.1), .agg (ndA false x.2)], pre := fun x => smallNd x.1 ∧ smallNd x.2, Y := Unit, post := fun x y => True, res := fun x y => .bool (beqNd x.1 x.2), outs := fun x y => [.top, .top], keep := false }
theorem eqNd_vc (x : Nd × Nd) : vcFun Go.Proofs.Tryd.prog (Γof [(53, 0, s_eqInts)]) (Eof []) false (Lof ([])) Go.Proofs.Tryd.f29.ntmps Go.Proofs.Tryd.f29.results.toList (Go.Proofs.Tryd.f29.body.getD .skip) s_eqNd x = ((∀ (y : Unit), True → True ∧ True ∧ True ∧ True) ∧ bcase (x.fst.kind != x.snd.kind) (∃ (y : Unit), True ∧ false = beqNd x.fst x.snd ∧ True) (bcase (!x.fst.text == x.snd.text) (∃ (y : Unit), True ∧ false = beqNd x.fst x.snd ∧ True) (∃ (x_1 : List Int × List Int), (List.length x_1.fst < (9223372036854775808 : Nat) ∧ List.length x_1.snd < (9223372036854775808 : Nat)) ∧ AV.sl false (0 : Nat) (1 : Nat) Int intA x.fst.kids = AV.sl false (0 : Nat) (1 : Nat) Int intA x_1.fst ∧ AV.sl false (0 : Nat) (1 : Nat) Int intA x.snd.kids = AV.sl false (0 : Nat) (1 : Nat) Int intA x_1.snd ∧ ∀ (y : Unit), True → bcase (!x_1.fst == x_1.snd) (∃ (y : Unit), True ∧ false = beqNd x.fst x.snd ∧ True) (bcase (!x.fst.blank == x.snd.blank) (∃ (y : Unit), True ∧ false = beqNd x.fst x.snd ∧ True) (∃ (y : Unit), True ∧ true = beqNd x.fst x.snd ∧ True))))) := by kernel_rfl
theorem eqNd_ok  : Contract G Tryd.prog 29 s_eqNd :=
  vcFun_ok (Γ := Γof [(53, 0, s_eqInts)]) (E := Eof []) (ov := false) (L := fun x => Lof ([])) Tryd.func29 rfl (by decide) (Γof_ok (l := [(53, 0, s_eqInts)]) ⟨eqInts_ok, trivial⟩) fun (x : Nd × Nd) (hx : smallNd x.1 ∧ smallNd x.2) => (eqNd_vc  x).mpr (by
  obtain ⟨h1, h2⟩ := hx
  (repeat' first | with_reducible rfl | exact True.intro | refine inR_i64 ?_ ?_ | with_reducible refine And.intro ?_ ?_ | with_reducible refine bcase_dec (fun _ => ?_) (fun _ => ?_) | with_reducible refine bcase_bne (fun _ => ?_) (fun _ => ?_) | with_reducible refine bcase_beq (fun _ => ?_) (fun _ => ?_) | with_reducible refine bcase_not (fun _ => ?_) (fun _ => ?_) | refine bcase_intro (fun _ => ?_) (fun _ => ?_) | refine sl_eq ?_ | refine ex_flip () ?_ ?_ | (apply ex_flip6 <;> try dsimp only) | (apply ex_flip5 <;> try dsimp only) | (apply ex_flip4 <;> try dsimp only) | (apply ex_flip3 <;> try dsimp only) | (apply ex_flip2 <;> try dsimp only) | apply ex_flip | (refine Prod.forall.2 ?_; intro _; try dsimp only) | (intro _; try dsimp only)) <;> (try dsimp only at *) <;> (try simp only [i64max, List.length_cons, List.length_nil]) <;> (try omega)
  · simp [beqNd, *]
  · simp [beqNd, *]
  · simp [beqNd, *]
  · simp [beqNd, *]
  · simp [beqNd, *]
  · exact h1.2
  · exact h2.2)

def lEqNds (x : List Nd × List Nd) : LS := {
  ι := Int, inv := fun i => 0 ≤ i ∧ i ≤ x.1.length ∧ x.1.take i.toNat = x.2.take i.toNat, regs := fun i => [(0, nds x.1), (1, nds x.2), (5, .int .i64 i)], als := [], meas := fun i => x.1.length - i.toNat }
def s_eqNds  : Sig := { X := List Nd × List Nd, args := fun x => [nds x.1, nds x.2], pre := fun x => smallNds x.1 ∧ smallNds x.2, Y := Unit, post := fun x y => True, res := fun x y => .bool (beqNds x.1 x.2), outs := fun x y => [.top, .top], keep := false }
theorem eqNds_vc (x : List Nd × List Nd) : vcFun Go.Proofs.Tryd.prog (Γof [(29, 0, s_eqNd)]) (Eof []) false (Lof ([(4,lEqNds x)])) Go.Proofs.Tryd.f11.ntmps Go.Proofs.Tryd.f11.results.toList (Go.Proofs.Tryd.f11.body.getD .skip) s_eqNds x = ((∀ (y : Unit), True → True ∧ True ∧ True ∧ True) ∧ bcase ((↑(List.length x.fst) : Int) != (↑(List.length x.snd) : Int)) (∃ (y : Unit), True ∧ false = beqNds x.fst x.snd ∧ True) ((∃ (i : Int), ((0 : Int) ≤ i ∧ i ≤ (↑(List.length x.fst) : Int) ∧ List.take (Int.toNat i) x.fst = List.take (Int.toNat i) x.snd) ∧ (AV.sl false (0 : Nat) (4 : Nat) Nd (ndA false) x.fst = AV.sl false (0 : Nat) (4 : Nat) Nd (ndA false) x.fst ∧ AV.sl false (0 : Nat) (4 : Nat) Nd (ndA false) x.snd = AV.sl false (0 : Nat) (4 : Nat) Nd (ndA false) x.snd ∧ (0 : Int) = i ∧ True) ∧ True) ∧ ∀ (i : Int), (0 : Int) ≤ i ∧ i ≤ (↑(List.length x.fst) : Int) ∧ List.take (Int.toNat i) x.fst = List.take (Int.toNat i) x.snd → bcase (decide (i < (↑(List.length x.fst) : Int))) (true = true ∧ true = true ∧ ((0 : Int) ≤ i ∧ i < (↑(List.length x.fst) : Int)) ∧ ∀ (e : Nd), x.fst[Int.toNat i]? = some e → ((0 : Int) ≤ i ∧ i < (↑(List.length x.snd) : Int)) ∧ ∀ (e_1 : Nd), x.snd[Int.toNat i]? = some e_1 → ∃ (x_1 : Nd × Nd), (smallNd x_1.fst ∧ smallNd x_1.snd) ∧ e.kind = x_1.fst.kind ∧ e.text = x_1.fst.text ∧ AV.sl false (0 : Nat) (1 : Nat) Int intA e.kids = AV.sl false (0 : Nat) (1 : Nat) Int intA x_1.fst.kids ∧ e.blank = x_1.fst.blank ∧ e_1.kind = x_1.snd.kind ∧ e_1.text = x_1.snd.text ∧ AV.sl false (0 : Nat) (1 : Nat) Int intA e_1.kids = AV.sl false (0 : Nat) (1 : Nat) Int intA x_1.snd.kids ∧ e_1.blank = x_1.snd.blank ∧ ∃ (y0 : Unit), (∀ (y : Unit), True → AV.bool (beqNd x_1.fst x_1.snd) = AV.bool (beqNd x_1.fst x_1.snd)) ∧ true = true ∧ bcase (!beqNd x_1.fst x_1.snd) (∃ (y : Unit), True ∧ false = beqNds x.fst x.snd ∧ True) (inR IntKind.i64 (i + (1 : Int)) ∧ ∃ (i' : Int), ((0 : Int) ≤ i' ∧ i' ≤ (↑(List.length x.fst) : Int) ∧ List.take (Int.toNat i') x.fst = List.take (Int.toNat i') x.snd) ∧ List.length x.fst - Int.toNat i' < List.length x.fst - Int.toNat i ∧ (AV.sl false (0 : Nat) (4 : Nat) Nd (ndA false) x.fst = AV.sl false (0 : Nat) (4 : Nat) Nd (ndA false) x.fst ∧ AV.sl false (0 : Nat) (4 : Nat) Nd (ndA false) x.snd = AV.sl false (0 : Nat) (4 : Nat) Nd (ndA false) x.snd ∧ i + (1 : Int) = i' ∧ True) ∧ True)) (∃ (y : Unit), True ∧ true = beqNds x.fst x.snd ∧ True))) := by kernel_rfl
theorem eqNds_ok  : Contract G Tryd.prog 11 s_eqNds :=
  vcFun_ok (Γ := Γof [(29, 0, s_eqNd)]) (E := Eof []) (ov := false) (L := fun x => Lof ([(4,lEqNds x)])) Tryd.func11 rfl (by decide) (Γof_ok (l := [(29, 0, s_eqNd)]) ⟨eqNd_ok, trivial⟩) fun (x : List Nd × List Nd) (hx : smallNds x.1 ∧ smallNds x.2) => (eqNds_vc  x).mpr (by
  obtain ⟨h1, h2⟩ := hx; have hl1 := h1.1; have hl2 := h2.1
  (repeat' first | with_reducible rfl | exact True.intro | refine inR_i64 ?_ ?_ | with_reducible refine And.intro ?_ ?_ | with_reducible refine bcase_dec (fun _ => ?_) (fun _ => ?_) | with_reducible refine bcase_bne (fun _ => ?_) (fun _ => ?_) | with_reducible refine bcase_beq (fun _ => ?_) (fun _ => ?_) | with_reducible refine bcase_not (fun _ => ?_) (fun _ => ?_) | refine bcase_intro (fun _ => ?_) (fun _ => ?_) | refine sl_eq ?_ | refine ex_flip () ?_ ?_ | (apply ex_flip6 <;> try dsimp only) | (apply ex_flip5 <;> try dsimp only) | (apply ex_flip4 <;> try dsimp only) | (apply ex_flip3 <;> try dsimp only) | (apply ex_flip2 <;> try dsimp only) | apply ex_flip | (refine Prod.forall.2 ?_; intro _; try dsimp only) | (intro _; try dsimp only)) <;> (try dsimp only at *) <;> (try simp only [i64max, List.length_cons, List.length_nil]) <;> (try omega)
  · rename_i h; exact beqNds_false (fun e => h (by rw [e]))
  · rfl
  · rename_i h i hi hl e he f hf hn
    exact beqNds_false (fun e => by rw [e, hf] at he; rw [Option.some.inj he, beqNd_self] at hn; cases hn)
  · rename_i h i hi hl e he f hf hn
    exact takeEq hi.1 hi.2.2 he hf (beqNd_eq.1 hn)
  · rename_i h i hi hl e he f hf
    exact h1.2 _ (memE he)
  · rename_i h i hi hl e he f hf
    exact h2.2 _ (memE hf)
  · rename_i h i hi hl
    exact beqNds_true (takeAll (by omega) hi.2.2 (by omega)))

end Go.My
end
