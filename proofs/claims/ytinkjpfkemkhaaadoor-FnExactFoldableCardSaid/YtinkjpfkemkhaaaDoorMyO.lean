/- What is reckoned ahead: the exported functions, and the two laws over them. -/
import Derived.Test.YtinkjpfkemkhaaaDoorMyN
import Derived.Test.YtinkjpfkemkhaaaDoorMyA
set_option linter.unusedVariables false
set_option linter.unusedSimpArgs false
namespace Go.My
open Go.Eng Go.Proofs

def topN : Nat := 1073741825
def topV (ns : List Nd) (k : Int) : Option Int := if isVal (kindAt ns k) && !decide (deepOf ns k = 0) then cV ns k else none
theorem consP_top {ns : List Nd} {k : Int} (h : okNds ns) (hl : ns.length ≤ 2 ^ 30) (hd : deepOf ns k ≠ 0) : consP topN (ns, k) := by
  have := isNd_iff.1 (okUp_of hd).1
  refine ⟨h, okUp_of hd, ?_⟩
  simp only [topN]; omega
theorem valAt {ns : List Nd} {k : Int} (h : (isVal (kindAt ns k) && !decide (deepOf ns k = 0)) = true) : deepOf ns k ≠ 0 := by
  simp only [Bool.and_eq_true, Bool.not_eq_true', decide_eq_false_iff_not] at h; exact h.2
def foldB (ns : List Nd) (k : Int) : Bool := decide (deepOf ns k ≠ 0) && (decide (kindAt ns k = 7) && ((cV ns k).isSome && inn (oI (cV ns k)) 0 999999999))
theorem foldB_no {ns : List Nd} {k : Int} (h : (isVal (kindAt ns k) && !decide (deepOf ns k = 0)) = false) : false = foldB ns k := by
  unfold foldB
  by_cases h7 : kindAt ns k = 7
  · by_cases h0 : deepOf ns k = 0
    · simp [h0]
    · have : isVal (kindAt ns k) = true := by rw [h7]; rfl
      simp [this, h0] at h
  · simp [h7]
def s_iConstOf  : Sig := { X := List Nd × Int, args := fun x => [nds x.1, .int .i64 x.2], pre := fun x => okNds x.1 ∧ x.1.length ≤ 2 ^ 30, Y := Unit, post := fun x y => True, res := fun x y => .tup [.int .i64 (oI (topV x.1 x.2)), .bool (topV x.1 x.2).isSome], outs := fun x y => [.top, .top], keep := false }
theorem iConstOf_vc (x : List Nd × Int) : vcFun Go.Proofs.Tryd.prog (Γof [(27, 0, s_isValueAt), (28, 0, (s_cR topN))]) (Eof []) false (Lof ([])) Go.Proofs.Tryd.f10.ntmps Go.Proofs.Tryd.f10.results.toList (Go.Proofs.Tryd.f10.body.getD .skip) s_iConstOf x = ((∀ (y : Unit), True → (True ∧ True ∧ True) ∧ True ∧ True ∧ True) ∧ ∃ (x_1 : List Nd × Int), (okNds x_1.fst ∧ List.length x_1.fst ≤ (1073741824 : Nat)) ∧ AV.sl false (0 : Nat) (4 : Nat) Nd (ndA false) x.fst = AV.sl false (0 : Nat) (4 : Nat) Nd (ndA false) x_1.fst ∧ x.snd = x_1.snd ∧ ∀ (y : Unit), True → bcase (!(isVal (kindAt x_1.fst x_1.snd) && !decide (deepOf x_1.fst x_1.snd = (0 : Int)))) (∃ (y : Unit), True ∧ (0 : Int) = oI (topV x.fst x.snd) ∧ false = Option.isSome (topV x.fst x.snd) ∧ True) (∃ (x_2 : List Nd × Int), consP topN x_2 ∧ AV.sl false (0 : Nat) (4 : Nat) Nd (ndA false) x.fst = AV.sl false (0 : Nat) (4 : Nat) Nd (ndA false) x_2.fst ∧ x.snd = x_2.snd ∧ ∀ (y : Unit), True → ∃ (y : Unit), True ∧ oI (cV x_2.fst x_2.snd) = oI (topV x.fst x.snd) ∧ Option.isSome (cV x_2.fst x_2.snd) = Option.isSome (topV x.fst x.snd) ∧ True)) := by kernel_rfl
theorem iConstOf_ok  : Contract Tryd.prog 10 s_iConstOf :=
  vcFun_ok (Γ := Γof [(27, 0, s_isValueAt), (28, 0, (s_cR topN))]) (E := Eof []) (ov := false) (L := fun x => Lof ([])) Tryd.func10 rfl (by decide) (Γof_ok (l := [(27, 0, s_isValueAt), (28, 0, (s_cR topN))]) ⟨isValueAt_ok, (constOf_all topN), trivial⟩) fun (x : List Nd × Int) (hx : okNds x.1 ∧ x.1.length ≤ 2 ^ 30) => (iConstOf_vc  x).mpr (by
  obtain ⟨h1, h2⟩ := hx
  (repeat' first | with_reducible rfl | exact True.intro | refine inR_i64 ?_ ?_ | with_reducible refine And.intro ?_ ?_ | with_reducible refine bcase_dec (fun _ => ?_) (fun _ => ?_) | with_reducible refine bcase_bne (fun _ => ?_) (fun _ => ?_) | with_reducible refine bcase_beq (fun _ => ?_) (fun _ => ?_) | with_reducible refine bcase_not (fun _ => ?_) (fun _ => ?_) | refine bcase_intro (fun _ => ?_) (fun _ => ?_) | refine sl_eq ?_ | refine ex_flip () ?_ ?_ | (apply ex_flip6 <;> try dsimp only) | (apply ex_flip5 <;> try dsimp only) | (apply ex_flip4 <;> try dsimp only) | (apply ex_flip3 <;> try dsimp only) | (apply ex_flip2 <;> try dsimp only) | apply ex_flip | (refine Prod.forall.2 ?_; intro _; try dsimp only) | (intro _; try dsimp only))
  all_goals try (have hd0 := valAt (by assumption))
  all_goals first
    | exact h1
    | exact h2
    | contradiction
    | omega
    | exact consP_top h1 h2 (by assumption)
    | (have hr := isNd_iff.1 (okUp_of (show deepOf x.1 x.2 ≠ 0 by assumption)).1; omega)
    | exact foldB_no (by assumption)
    | (rw [topV, if_pos (by assumption)]; done)
    | (simp [topV, foldB, oI, *]; done)
    | (simp [topV, foldB, kindAt, ndAt_of (show x.1[Int.toNat x.2]? = some _ by assumption), oI, *]; done)
    | skip)

def s_sConstOf  : Sig := { X := List Nd × Int, args := fun x => [nds x.1, .int .i64 x.2], pre := fun x => okNds x.1 ∧ x.1.length ≤ 2 ^ 30, Y := Unit, post := fun x y => True, res := fun x y => .tup [.int .i64 (oI (topV x.1 x.2)), .bool (topV x.1 x.2).isSome], outs := fun x y => [.top, .top], keep := false }
theorem sConstOf_vc (x : List Nd × Int) : vcFun Go.Proofs.Tryd.prog (Γof [(23, 0, s_sDeepOf), (24, 0, s_l05Value), (25, 0, (s_lR topN))]) (Eof []) false (Lof ([])) Go.Proofs.Tryd.f8.ntmps Go.Proofs.Tryd.f8.results.toList (Go.Proofs.Tryd.f8.body.getD .skip) s_sConstOf x = ((∀ (y : Unit), True → (True ∧ True ∧ True) ∧ True ∧ True ∧ True) ∧ ∃ (x_1 : List Nd × Int), (okNds x_1.fst ∧ List.length x_1.fst ≤ (1073741824 : Nat)) ∧ AV.sl false (0 : Nat) (4 : Nat) Nd (ndA false) x.fst = AV.sl false (0 : Nat) (4 : Nat) Nd (ndA false) x_1.fst ∧ x.snd = x_1.snd ∧ ∀ (y : Unit), True → bcase (deepOf x_1.fst x_1.snd == (0 : Int)) (∃ (y : Unit), True ∧ (0 : Int) = oI (topV x.fst x.snd) ∧ false = Option.isSome (topV x.fst x.snd) ∧ True) (((0 : Int) ≤ x.snd ∧ x.snd < (↑(List.length x.fst) : Int)) ∧ ∀ (e : Nd), x.fst[Int.toNat x.snd]? = some e → ∃ (x_2 : Int), True ∧ e.kind = x_2 ∧ ∀ (y : Unit), True → bcase (!isVal x_2) (∃ (y : Unit), True ∧ (0 : Int) = oI (topV x.fst x.snd) ∧ false = Option.isSome (topV x.fst x.snd) ∧ True) (∃ (x_3 : List Nd × Int), consP topN x_3 ∧ AV.sl false (0 : Nat) (4 : Nat) Nd (ndA false) x.fst = AV.sl false (0 : Nat) (4 : Nat) Nd (ndA false) x_3.fst ∧ x.snd = x_3.snd ∧ ∀ (y : Unit), True → ∃ (y : Unit), True ∧ oI (cV x_3.fst x_3.snd) = oI (topV x.fst x.snd) ∧ Option.isSome (cV x_3.fst x_3.snd) = Option.isSome (topV x.fst x.snd) ∧ True))) := by kernel_rfl
theorem sConstOf_ok  : Contract Tryd.prog 8 s_sConstOf :=
  vcFun_ok (Γ := Γof [(23, 0, s_sDeepOf), (24, 0, s_l05Value), (25, 0, (s_lR topN))]) (E := Eof []) (ov := false) (L := fun x => Lof ([])) Tryd.func8 rfl (by decide) (Γof_ok (l := [(23, 0, s_sDeepOf), (24, 0, s_l05Value), (25, 0, (s_lR topN))]) ⟨sDeepOf_ok, l05Value_ok, (l25_all topN), trivial⟩) fun (x : List Nd × Int) (hx : okNds x.1 ∧ x.1.length ≤ 2 ^ 30) => (sConstOf_vc  x).mpr (by
  obtain ⟨h1, h2⟩ := hx
  (repeat' first | with_reducible rfl | exact True.intro | refine inR_i64 ?_ ?_ | with_reducible refine And.intro ?_ ?_ | with_reducible refine bcase_dec (fun _ => ?_) (fun _ => ?_) | with_reducible refine bcase_bne (fun _ => ?_) (fun _ => ?_) | with_reducible refine bcase_beq (fun _ => ?_) (fun _ => ?_) | with_reducible refine bcase_not (fun _ => ?_) (fun _ => ?_) | refine bcase_intro (fun _ => ?_) (fun _ => ?_) | refine sl_eq ?_ | refine ex_flip () ?_ ?_ | (apply ex_flip6 <;> try dsimp only) | (apply ex_flip5 <;> try dsimp only) | (apply ex_flip4 <;> try dsimp only) | (apply ex_flip3 <;> try dsimp only) | (apply ex_flip2 <;> try dsimp only) | apply ex_flip | (refine Prod.forall.2 ?_; intro _; try dsimp only) | (intro _; try dsimp only))
  all_goals try (have hd0 := valAt (by assumption))
  all_goals first
    | exact h1
    | exact h2
    | contradiction
    | omega
    | exact consP_top h1 h2 (by assumption)
    | (have hr := isNd_iff.1 (okUp_of (show deepOf x.1 x.2 ≠ 0 by assumption)).1; omega)
    | exact foldB_no (by assumption)
    | (rw [topV, if_pos (by assumption)]; done)
    | (simp [topV, foldB, oI, *]; done)
    | (simp [topV, foldB, kindAt, ndAt_of (show x.1[Int.toNat x.2]? = some _ by assumption), oI, *]; done)
    | skip)

def s_iFold1  : Sig := { X := List Nd × Int, args := fun x => [nds x.1, .int .i64 x.2], pre := fun x => okNds x.1 ∧ x.1.length ≤ 2 ^ 30 ∧ deepOf x.1 x.2 ≠ 0, Y := Unit, post := fun x y => True, res := fun x y => .bool (foldB x.1 x.2), outs := fun x y => [.top, .top], keep := false }
theorem iFold1_vc (x : List Nd × Int) : vcFun Go.Proofs.Tryd.prog (Γof [(28, 0, (s_cR topN)), (54, 0, s_inRange)]) (Eof []) false (Lof ([])) Go.Proofs.Tryd.f31.ntmps Go.Proofs.Tryd.f31.results.toList (Go.Proofs.Tryd.f31.body.getD .skip) s_iFold1 x = ((∀ (y : Unit), True → True ∧ True ∧ True ∧ True) ∧ ((0 : Int) ≤ x.snd ∧ x.snd < (↑(List.length x.fst) : Int)) ∧ ∀ (e : Nd), x.fst[Int.toNat x.snd]? = some e → bcase (e.kind != (7 : Int)) (∃ (y : Unit), True ∧ false = foldB x.fst x.snd ∧ True) (∃ (x_1 : List Nd × Int), consP topN x_1 ∧ AV.sl false (0 : Nat) (4 : Nat) Nd (ndA false) x.fst = AV.sl false (0 : Nat) (4 : Nat) Nd (ndA false) x_1.fst ∧ x.snd = x_1.snd ∧ ∀ (y : Unit), True → bcase (Option.isSome (cV x_1.fst x_1.snd)) (∃ (x_2 : Int × Int × Int), True ∧ oI (cV x_1.fst x_1.snd) = x_2.fst ∧ (0 : Int) = x_2.snd.fst ∧ (999999999 : Int) = x_2.snd.snd ∧ ∀ (y : Unit), True → ∃ (y : Unit), True ∧ inn x_2.fst x_2.snd.fst x_2.snd.snd = foldB x.fst x.snd ∧ True) (∃ (y : Unit), True ∧ false = foldB x.fst x.snd ∧ True))) := by kernel_rfl
theorem iFold1_ok  : Contract Tryd.prog 31 s_iFold1 :=
  vcFun_ok (Γ := Γof [(28, 0, (s_cR topN)), (54, 0, s_inRange)]) (E := Eof []) (ov := false) (L := fun x => Lof ([])) Tryd.func31 rfl (by decide) (Γof_ok (l := [(28, 0, (s_cR topN)), (54, 0, s_inRange)]) ⟨(constOf_all topN), inRange_ok, trivial⟩) fun (x : List Nd × Int) (hx : okNds x.1 ∧ x.1.length ≤ 2 ^ 30 ∧ deepOf x.1 x.2 ≠ 0) => (iFold1_vc  x).mpr (by
  obtain ⟨h1, h2, h3⟩ := hx
  (repeat' first | with_reducible rfl | exact True.intro | refine inR_i64 ?_ ?_ | with_reducible refine And.intro ?_ ?_ | with_reducible refine bcase_dec (fun _ => ?_) (fun _ => ?_) | with_reducible refine bcase_bne (fun _ => ?_) (fun _ => ?_) | with_reducible refine bcase_beq (fun _ => ?_) (fun _ => ?_) | with_reducible refine bcase_not (fun _ => ?_) (fun _ => ?_) | refine bcase_intro (fun _ => ?_) (fun _ => ?_) | refine sl_eq ?_ | refine ex_flip () ?_ ?_ | (apply ex_flip6 <;> try dsimp only) | (apply ex_flip5 <;> try dsimp only) | (apply ex_flip4 <;> try dsimp only) | (apply ex_flip3 <;> try dsimp only) | (apply ex_flip2 <;> try dsimp only) | apply ex_flip | (refine Prod.forall.2 ?_; intro _; try dsimp only) | (intro _; try dsimp only))
  all_goals try (have hd0 := valAt (by assumption))
  all_goals first
    | exact h1
    | exact h2
    | contradiction
    | omega
    | exact consP_top h1 h2 (by assumption)
    | (have hr := isNd_iff.1 (okUp_of (show deepOf x.1 x.2 ≠ 0 by assumption)).1; omega)
    | exact foldB_no (by assumption)
    | (rw [topV, if_pos (by assumption)]; done)
    | (simp [topV, foldB, oI, *]; done)
    | (simp [topV, foldB, kindAt, ndAt_of (show x.1[Int.toNat x.2]? = some _ by assumption), oI, *]; done)
    | skip)

def s_iFoldable  : Sig := { X := List Nd × Int, args := fun x => [nds x.1, .int .i64 x.2], pre := fun x => okNds x.1 ∧ x.1.length ≤ 2 ^ 30, Y := Unit, post := fun x y => True, res := fun x y => .bool (foldB x.1 x.2), outs := fun x y => [.top, .top], keep := false }
theorem iFoldable_vc (x : List Nd × Int) : vcFun Go.Proofs.Tryd.prog (Γof [(27, 0, s_isValueAt), (31, 0, s_iFold1)]) (Eof []) false (Lof ([])) Go.Proofs.Tryd.f13.ntmps Go.Proofs.Tryd.f13.results.toList (Go.Proofs.Tryd.f13.body.getD .skip) s_iFoldable x = ((∀ (y : Unit), True → True ∧ True ∧ True ∧ True) ∧ ∃ (x_1 : List Nd × Int), (okNds x_1.fst ∧ List.length x_1.fst ≤ (1073741824 : Nat)) ∧ AV.sl false (0 : Nat) (4 : Nat) Nd (ndA false) x.fst = AV.sl false (0 : Nat) (4 : Nat) Nd (ndA false) x_1.fst ∧ x.snd = x_1.snd ∧ ∀ (y : Unit), True → bcase (isVal (kindAt x_1.fst x_1.snd) && !decide (deepOf x_1.fst x_1.snd = (0 : Int))) (∃ (x_2 : List Nd × Int), (okNds x_2.fst ∧ List.length x_2.fst ≤ (1073741824 : Nat) ∧ deepOf x_2.fst x_2.snd ≠ (0 : Int)) ∧ AV.sl false (0 : Nat) (4 : Nat) Nd (ndA false) x.fst = AV.sl false (0 : Nat) (4 : Nat) Nd (ndA false) x_2.fst ∧ x.snd = x_2.snd ∧ ∀ (y : Unit), True → ∃ (y : Unit), True ∧ foldB x_2.fst x_2.snd = foldB x.fst x.snd ∧ True) (∃ (y : Unit), True ∧ false = foldB x.fst x.snd ∧ True)) := by kernel_rfl
theorem iFoldable_ok  : Contract Tryd.prog 13 s_iFoldable :=
  vcFun_ok (Γ := Γof [(27, 0, s_isValueAt), (31, 0, s_iFold1)]) (E := Eof []) (ov := false) (L := fun x => Lof ([])) Tryd.func13 rfl (by decide) (Γof_ok (l := [(27, 0, s_isValueAt), (31, 0, s_iFold1)]) ⟨isValueAt_ok, iFold1_ok, trivial⟩) fun (x : List Nd × Int) (hx : okNds x.1 ∧ x.1.length ≤ 2 ^ 30) => (iFoldable_vc  x).mpr (by
  obtain ⟨h1, h2⟩ := hx
  (repeat' first | with_reducible rfl | exact True.intro | refine inR_i64 ?_ ?_ | with_reducible refine And.intro ?_ ?_ | with_reducible refine bcase_dec (fun _ => ?_) (fun _ => ?_) | with_reducible refine bcase_bne (fun _ => ?_) (fun _ => ?_) | with_reducible refine bcase_beq (fun _ => ?_) (fun _ => ?_) | with_reducible refine bcase_not (fun _ => ?_) (fun _ => ?_) | refine bcase_intro (fun _ => ?_) (fun _ => ?_) | refine sl_eq ?_ | refine ex_flip () ?_ ?_ | (apply ex_flip6 <;> try dsimp only) | (apply ex_flip5 <;> try dsimp only) | (apply ex_flip4 <;> try dsimp only) | (apply ex_flip3 <;> try dsimp only) | (apply ex_flip2 <;> try dsimp only) | apply ex_flip | (refine Prod.forall.2 ?_; intro _; try dsimp only) | (intro _; try dsimp only))
  all_goals try (have hd0 := valAt (by assumption))
  all_goals first
    | exact h1
    | exact h2
    | contradiction
    | omega
    | exact consP_top h1 h2 (by assumption)
    | (have hr := isNd_iff.1 (okUp_of (show deepOf x.1 x.2 ≠ 0 by assumption)).1; omega)
    | exact foldB_no (by assumption)
    | (rw [topV, if_pos (by assumption)]; done)
    | (simp [topV, foldB, oI, *]; done)
    | (simp [topV, foldB, kindAt, ndAt_of (show x.1[Int.toNat x.2]? = some _ by assumption), oI, *]; done)
    | skip)

def s_sFold1  : Sig := { X := List Nd × Int, args := fun x => [nds x.1, .int .i64 x.2], pre := fun x => okNds x.1 ∧ x.1.length ≤ 2 ^ 30 ∧ deepOf x.1 x.2 ≠ 0, Y := Unit, post := fun x y => True, res := fun x y => .tup [.int .i64 (if kindAt x.1 x.2 = 7 then oI (cV x.1 x.2) else 0), .bool (foldB x.1 x.2)], outs := fun x y => [.top, .top], keep := false }
theorem sFold1_vc (x : List Nd × Int) : vcFun Go.Proofs.Tryd.prog (Γof [(25, 0, (s_lR topN)), (44, 0, s_l01In)]) (Eof []) false (Lof ([])) Go.Proofs.Tryd.f30.ntmps Go.Proofs.Tryd.f30.results.toList (Go.Proofs.Tryd.f30.body.getD .skip) s_sFold1 x = ((∀ (y : Unit), True → (True ∧ True ∧ True) ∧ True ∧ True ∧ True) ∧ ((0 : Int) ≤ x.snd ∧ x.snd < (↑(List.length x.fst) : Int)) ∧ ∀ (e : Nd), x.fst[Int.toNat x.snd]? = some e → bcase (e.kind != (7 : Int)) (∃ (y : Unit), True ∧ ((0 : Int) = if kindAt x.fst x.snd = (7 : Int) then oI (cV x.fst x.snd) else (0 : Int)) ∧ false = foldB x.fst x.snd ∧ True) (∃ (x_1 : List Nd × Int), consP topN x_1 ∧ AV.sl false (0 : Nat) (4 : Nat) Nd (ndA false) x.fst = AV.sl false (0 : Nat) (4 : Nat) Nd (ndA false) x_1.fst ∧ x.snd = x_1.snd ∧ ∀ (y : Unit), True → bcase (Option.isSome (cV x_1.fst x_1.snd)) (∃ (x_2 : Int × Int × Int), True ∧ oI (cV x_1.fst x_1.snd) = x_2.fst ∧ (0 : Int) = x_2.snd.fst ∧ (999999999 : Int) = x_2.snd.snd ∧ ∀ (y : Unit), True → ∃ (y : Unit), True ∧ (oI (cV x_1.fst x_1.snd) = if kindAt x.fst x.snd = (7 : Int) then oI (cV x.fst x.snd) else (0 : Int)) ∧ inn x_2.fst x_2.snd.fst x_2.snd.snd = foldB x.fst x.snd ∧ True) (∃ (y : Unit), True ∧ (oI (cV x_1.fst x_1.snd) = if kindAt x.fst x.snd = (7 : Int) then oI (cV x.fst x.snd) else (0 : Int)) ∧ false = foldB x.fst x.snd ∧ True))) := by kernel_rfl
theorem sFold1_ok  : Contract Tryd.prog 30 s_sFold1 :=
  vcFun_ok (Γ := Γof [(25, 0, (s_lR topN)), (44, 0, s_l01In)]) (E := Eof []) (ov := false) (L := fun x => Lof ([])) Tryd.func30 rfl (by decide) (Γof_ok (l := [(25, 0, (s_lR topN)), (44, 0, s_l01In)]) ⟨(l25_all topN), l01In_ok, trivial⟩) fun (x : List Nd × Int) (hx : okNds x.1 ∧ x.1.length ≤ 2 ^ 30 ∧ deepOf x.1 x.2 ≠ 0) => (sFold1_vc  x).mpr (by
  obtain ⟨h1, h2, h3⟩ := hx
  (repeat' first | with_reducible rfl | exact True.intro | refine inR_i64 ?_ ?_ | with_reducible refine And.intro ?_ ?_ | with_reducible refine bcase_dec (fun _ => ?_) (fun _ => ?_) | with_reducible refine bcase_bne (fun _ => ?_) (fun _ => ?_) | with_reducible refine bcase_beq (fun _ => ?_) (fun _ => ?_) | with_reducible refine bcase_not (fun _ => ?_) (fun _ => ?_) | refine bcase_intro (fun _ => ?_) (fun _ => ?_) | refine sl_eq ?_ | refine ex_flip () ?_ ?_ | (apply ex_flip6 <;> try dsimp only) | (apply ex_flip5 <;> try dsimp only) | (apply ex_flip4 <;> try dsimp only) | (apply ex_flip3 <;> try dsimp only) | (apply ex_flip2 <;> try dsimp only) | apply ex_flip | (refine Prod.forall.2 ?_; intro _; try dsimp only) | (intro _; try dsimp only))
  all_goals try (have hd0 := valAt (by assumption))
  all_goals first
    | exact h1
    | exact h2
    | contradiction
    | omega
    | exact consP_top h1 h2 (by assumption)
    | (have hr := isNd_iff.1 (okUp_of (show deepOf x.1 x.2 ≠ 0 by assumption)).1; omega)
    | exact foldB_no (by assumption)
    | (rw [topV, if_pos (by assumption)]; done)
    | (simp [topV, foldB, oI, *]; done)
    | (simp [topV, foldB, kindAt, ndAt_of (show x.1[Int.toNat x.2]? = some _ by assumption), oI, *]; done)
    | skip)

def s_sFoldable  : Sig := { X := List Nd × Int, args := fun x => [nds x.1, .int .i64 x.2], pre := fun x => okNds x.1 ∧ x.1.length ≤ 2 ^ 30, Y := Unit, post := fun x y => True, res := fun x y => .bool (foldB x.1 x.2), outs := fun x y => [.top, .top], keep := false }
theorem sFoldable_vc (x : List Nd × Int) : vcFun Go.Proofs.Tryd.prog (Γof [(23, 0, s_sDeepOf), (30, 0, s_sFold1)]) (Eof []) false (Lof ([])) Go.Proofs.Tryd.f12.ntmps Go.Proofs.Tryd.f12.results.toList (Go.Proofs.Tryd.f12.body.getD .skip) s_sFoldable x = ((∀ (y : Unit), True → True ∧ True ∧ True ∧ True) ∧ ∃ (x_1 : List Nd × Int), (okNds x_1.fst ∧ List.length x_1.fst ≤ (1073741824 : Nat)) ∧ AV.sl false (0 : Nat) (4 : Nat) Nd (ndA false) x.fst = AV.sl false (0 : Nat) (4 : Nat) Nd (ndA false) x_1.fst ∧ x.snd = x_1.snd ∧ ∀ (y : Unit), True → bcase (deepOf x_1.fst x_1.snd == (0 : Int)) (∃ (y : Unit), True ∧ false = foldB x.fst x.snd ∧ True) (∃ (x_2 : List Nd × Int), (okNds x_2.fst ∧ List.length x_2.fst ≤ (1073741824 : Nat) ∧ deepOf x_2.fst x_2.snd ≠ (0 : Int)) ∧ AV.sl false (0 : Nat) (4 : Nat) Nd (ndA false) x.fst = AV.sl false (0 : Nat) (4 : Nat) Nd (ndA false) x_2.fst ∧ x.snd = x_2.snd ∧ ∀ (y : Unit), True → ∃ (y : Unit), True ∧ foldB x_2.fst x_2.snd = foldB x.fst x.snd ∧ True)) := by kernel_rfl
theorem sFoldable_ok  : Contract Tryd.prog 12 s_sFoldable :=
  vcFun_ok (Γ := Γof [(23, 0, s_sDeepOf), (30, 0, s_sFold1)]) (E := Eof []) (ov := false) (L := fun x => Lof ([])) Tryd.func12 rfl (by decide) (Γof_ok (l := [(23, 0, s_sDeepOf), (30, 0, s_sFold1)]) ⟨sDeepOf_ok, sFold1_ok, trivial⟩) fun (x : List Nd × Int) (hx : okNds x.1 ∧ x.1.length ≤ 2 ^ 30) => (sFoldable_vc  x).mpr (by
  obtain ⟨h1, h2⟩ := hx
  (repeat' first | with_reducible rfl | exact True.intro | refine inR_i64 ?_ ?_ | with_reducible refine And.intro ?_ ?_ | with_reducible refine bcase_dec (fun _ => ?_) (fun _ => ?_) | with_reducible refine bcase_bne (fun _ => ?_) (fun _ => ?_) | with_reducible refine bcase_beq (fun _ => ?_) (fun _ => ?_) | with_reducible refine bcase_not (fun _ => ?_) (fun _ => ?_) | refine bcase_intro (fun _ => ?_) (fun _ => ?_) | refine sl_eq ?_ | refine ex_flip () ?_ ?_ | (apply ex_flip6 <;> try dsimp only) | (apply ex_flip5 <;> try dsimp only) | (apply ex_flip4 <;> try dsimp only) | (apply ex_flip3 <;> try dsimp only) | (apply ex_flip2 <;> try dsimp only) | apply ex_flip | (refine Prod.forall.2 ?_; intro _; try dsimp only) | (intro _; try dsimp only))
  all_goals try (have hd0 := valAt (by assumption))
  all_goals first
    | exact h1
    | exact h2
    | contradiction
    | omega
    | exact consP_top h1 h2 (by assumption)
    | (have hr := isNd_iff.1 (okUp_of (show deepOf x.1 x.2 ≠ 0 by assumption)).1; omega)
    | exact foldB_no (by assumption)
    | (rw [topV, if_pos (by assumption)]; done)
    | (simp [topV, foldB, oI, *]; done)
    | (simp [topV, foldB, kindAt, ndAt_of (show x.1[Int.toNat x.2]? = some _ by assumption), oI, *]; done)
    | skip)

theorem gOk {l : List Nd} (h : ¬ szNds l 1048576 < 0) : okNds l := by
  refine ⟨by have := gB1 h; have := gB3 h; omega, fun e he => ?_⟩
  have h1 := gB2 h he; have h2 := gB4 h he
  unfold okNd; omega
def s_lawConstOf  : Sig := { X := List Nd × Int, args := fun x => [nds x.1, .int .i64 x.2], pre := fun x => smallNds x.1, Y := Unit, post := fun x y => True, res := fun x y => .bool true, outs := fun x y => [.top, .top], keep := false }
theorem lawConstOf_vc (x : List Nd × Int) : vcFun Go.Proofs.Tryd.prog (Γof [(7, 0, s_szNds), (9, 0, s_toNds), (8, 0, s_sConstOf), (10, 0, s_iConstOf), (11, 0, s_eqNds)]) (Eof []) false (Lof ([])) Go.Proofs.Tryd.f3.ntmps Go.Proofs.Tryd.f3.results.toList (Go.Proofs.Tryd.f3.body.getD .skip) s_lawConstOf x = ((∀ (y : Unit), True → True ∧ True ∧ True ∧ True) ∧ ∃ (x_1 : List Nd × Int), ((-1 : Int) ≤ x_1.snd ∧ x_1.snd ≤ (2 : Int) ^ (50 : Nat) ∧ smallNds x_1.fst) ∧ AV.sl false (0 : Nat) (4 : Nat) Nd (ndA false) x.fst = AV.sl false (0 : Nat) (4 : Nat) Nd (ndA false) x_1.fst ∧ (1048576 : Int) = x_1.snd ∧ ∀ (y : Unit), True → bcase (decide (szNds x_1.fst x_1.snd < (0 : Int))) (∃ (y : Unit), True ∧ true = true ∧ True) (∃ (x_2 : List Nd), (List.length x_2 ≤ (1073741824 : Nat) ∧ ∀ (e : Nd), e ∈ x_2 → List.length e.kids ≤ (1073741824 : Nat)) ∧ AV.sl false (0 : Nat) (4 : Nat) Nd (ndA false) x.fst = AV.sl false (0 : Nat) (4 : Nat) Nd (ndA false) x_2 ∧ ∀ (y : Unit), True → ∃ (x_3 : List Nd × Int), (okNds x_3.fst ∧ List.length x_3.fst ≤ (1073741824 : Nat)) ∧ AV.sl false (0 : Nat) (4 : Nat) Nd (fun (x : Nd) => fzL (ndA true x)) x_2 = AV.sl false (0 : Nat) (4 : Nat) Nd (ndA false) x_3.fst ∧ x.snd = x_3.snd ∧ ∀ (y : Unit), True → ∃ (x_4 : List Nd), (List.length x_4 ≤ (1073741824 : Nat) ∧ ∀ (e : Nd), e ∈ x_4 → List.length e.kids ≤ (1073741824 : Nat)) ∧ AV.sl false (0 : Nat) (4 : Nat) Nd (ndA false) x.fst = AV.sl false (0 : Nat) (4 : Nat) Nd (ndA false) x_4 ∧ ∀ (y : Unit), True → ∃ (x_5 : List Nd × Int), (okNds x_5.fst ∧ List.length x_5.fst ≤ (1073741824 : Nat)) ∧ AV.sl false (0 : Nat) (4 : Nat) Nd (fun (x : Nd) => fzL (ndA true x)) x_4 = AV.sl false (0 : Nat) (4 : Nat) Nd (ndA false) x_5.fst ∧ x.snd = x_5.snd ∧ ∀ (y : Unit), True → bcase (oI (topV x_5.fst x_5.snd) != oI (topV x_3.fst x_3.snd)) (∃ (y : Unit), True ∧ false = true ∧ True) (bcase (!Option.isSome (topV x_5.fst x_5.snd) == Option.isSome (topV x_3.fst x_3.snd)) (∃ (y : Unit), True ∧ false = true ∧ True) (∃ (x_6 : List Nd), (List.length x_6 ≤ (1073741824 : Nat) ∧ ∀ (e : Nd), e ∈ x_6 → List.length e.kids ≤ (1073741824 : Nat)) ∧ AV.sl false (0 : Nat) (4 : Nat) Nd (ndA false) x.fst = AV.sl false (0 : Nat) (4 : Nat) Nd (ndA false) x_6 ∧ ∀ (y : Unit), True → ∃ (x : List Nd × List Nd), (smallNds x.fst ∧ smallNds x.snd) ∧ AV.sl false (0 : Nat) (4 : Nat) Nd (fun (x : Nd) => fzL (ndA true x)) x_4 = AV.sl false (0 : Nat) (4 : Nat) Nd (ndA false) x.fst ∧ AV.sl false (0 : Nat) (4 : Nat) Nd (fun (x : Nd) => fzL (ndA true x)) x_6 = AV.sl false (0 : Nat) (4 : Nat) Nd (ndA false) x.snd ∧ ∀ (y : Unit), True → bcase (!beqNds x.fst x.snd) (∃ (y : Unit), True ∧ false = true ∧ True) (∃ (y : Unit), True ∧ true = true ∧ True))))) := by kernel_rfl
theorem lawConstOf_ok  : Contract Tryd.prog 3 s_lawConstOf :=
  vcFun_ok (Γ := Γof [(7, 0, s_szNds), (9, 0, s_toNds), (8, 0, s_sConstOf), (10, 0, s_iConstOf), (11, 0, s_eqNds)]) (E := Eof []) (ov := false) (L := fun x => Lof ([])) Tryd.func3 rfl (by decide) (Γof_ok (l := [(7, 0, s_szNds), (9, 0, s_toNds), (8, 0, s_sConstOf), (10, 0, s_iConstOf), (11, 0, s_eqNds)]) ⟨szNds_ok, toNds_ok, sConstOf_ok, iConstOf_ok, eqNds_ok, trivial⟩) fun (x : List Nd × Int) (hx : smallNds x.1) => (lawConstOf_vc  x).mpr (by
  have h1 : smallNds x.1 := hx
  simp only [fz_nds]
  (repeat' first | with_reducible rfl | exact True.intro | refine inR_i64 ?_ ?_ | with_reducible refine And.intro ?_ ?_ | with_reducible refine bcase_dec (fun _ => ?_) (fun _ => ?_) | with_reducible refine bcase_bne (fun _ => ?_) (fun _ => ?_) | with_reducible refine bcase_beq (fun _ => ?_) (fun _ => ?_) | with_reducible refine bcase_not (fun _ => ?_) (fun _ => ?_) | refine bcase_intro (fun _ => ?_) (fun _ => ?_) | refine sl_eq ?_ | refine ex_flip () ?_ ?_ | (apply ex_flip6 <;> try dsimp only) | (apply ex_flip5 <;> try dsimp only) | (apply ex_flip4 <;> try dsimp only) | (apply ex_flip3 <;> try dsimp only) | (apply ex_flip2 <;> try dsimp only) | apply ex_flip | (refine Prod.forall.2 ?_; intro _; try dsimp only) | (intro _; try dsimp only))
  all_goals first
    | exact h1
    | contradiction
    | (simp only [ne_eq, not_true_eq_false] at *; done)
    | exact gB6 (by assumption)
    | exact gOk (by assumption)
    | exact gB3 (by assumption)
    | (exact fun e he => gB4 (by assumption) he)
    | (have := gB4 (by assumption) (by assumption); omega)
    | (have := gB3 (by assumption); omega)
    | (exfalso; simp [beqNds_self] at *; done)
    | omega
    | skip)

def s_lawFoldable  : Sig := { X := List Nd × Int, args := fun x => [nds x.1, .int .i64 x.2], pre := fun x => smallNds x.1, Y := Unit, post := fun x y => True, res := fun x y => .bool true, outs := fun x y => [.top, .top], keep := false }
theorem lawFoldable_vc (x : List Nd × Int) : vcFun Go.Proofs.Tryd.prog (Γof [(7, 0, s_szNds), (9, 0, s_toNds), (12, 0, s_sFoldable), (13, 0, s_iFoldable), (11, 0, s_eqNds)]) (Eof []) false (Lof ([])) Go.Proofs.Tryd.f4.ntmps Go.Proofs.Tryd.f4.results.toList (Go.Proofs.Tryd.f4.body.getD .skip) s_lawFoldable x = ((∀ (y : Unit), True → True ∧ True ∧ True ∧ True) ∧ ∃ (x_1 : List Nd × Int), ((-1 : Int) ≤ x_1.snd ∧ x_1.snd ≤ (2 : Int) ^ (50 : Nat) ∧ smallNds x_1.fst) ∧ AV.sl false (0 : Nat) (4 : Nat) Nd (ndA false) x.fst = AV.sl false (0 : Nat) (4 : Nat) Nd (ndA false) x_1.fst ∧ (1048576 : Int) = x_1.snd ∧ ∀ (y : Unit), True → bcase (decide (szNds x_1.fst x_1.snd < (0 : Int))) (∃ (y : Unit), True ∧ true = true ∧ True) (∃ (x_2 : List Nd), (List.length x_2 ≤ (1073741824 : Nat) ∧ ∀ (e : Nd), e ∈ x_2 → List.length e.kids ≤ (1073741824 : Nat)) ∧ AV.sl false (0 : Nat) (4 : Nat) Nd (ndA false) x.fst = AV.sl false (0 : Nat) (4 : Nat) Nd (ndA false) x_2 ∧ ∀ (y : Unit), True → ∃ (x_3 : List Nd × Int), (okNds x_3.fst ∧ List.length x_3.fst ≤ (1073741824 : Nat)) ∧ AV.sl false (0 : Nat) (4 : Nat) Nd (fun (x : Nd) => fzL (ndA true x)) x_2 = AV.sl false (0 : Nat) (4 : Nat) Nd (ndA false) x_3.fst ∧ x.snd = x_3.snd ∧ ∀ (y : Unit), True → ∃ (x_4 : List Nd), (List.length x_4 ≤ (1073741824 : Nat) ∧ ∀ (e : Nd), e ∈ x_4 → List.length e.kids ≤ (1073741824 : Nat)) ∧ AV.sl false (0 : Nat) (4 : Nat) Nd (ndA false) x.fst = AV.sl false (0 : Nat) (4 : Nat) Nd (ndA false) x_4 ∧ ∀ (y : Unit), True → ∃ (x_5 : List Nd × Int), (okNds x_5.fst ∧ List.length x_5.fst ≤ (1073741824 : Nat)) ∧ AV.sl false (0 : Nat) (4 : Nat) Nd (fun (x : Nd) => fzL (ndA true x)) x_4 = AV.sl false (0 : Nat) (4 : Nat) Nd (ndA false) x_5.fst ∧ x.snd = x_5.snd ∧ ∀ (y : Unit), True → bcase (!foldB x_5.fst x_5.snd == foldB x_3.fst x_3.snd) (∃ (y : Unit), True ∧ false = true ∧ True) (∃ (x_6 : List Nd), (List.length x_6 ≤ (1073741824 : Nat) ∧ ∀ (e : Nd), e ∈ x_6 → List.length e.kids ≤ (1073741824 : Nat)) ∧ AV.sl false (0 : Nat) (4 : Nat) Nd (ndA false) x.fst = AV.sl false (0 : Nat) (4 : Nat) Nd (ndA false) x_6 ∧ ∀ (y : Unit), True → ∃ (x : List Nd × List Nd), (smallNds x.fst ∧ smallNds x.snd) ∧ AV.sl false (0 : Nat) (4 : Nat) Nd (fun (x : Nd) => fzL (ndA true x)) x_4 = AV.sl false (0 : Nat) (4 : Nat) Nd (ndA false) x.fst ∧ AV.sl false (0 : Nat) (4 : Nat) Nd (fun (x : Nd) => fzL (ndA true x)) x_6 = AV.sl false (0 : Nat) (4 : Nat) Nd (ndA false) x.snd ∧ ∀ (y : Unit), True → bcase (!beqNds x.fst x.snd) (∃ (y : Unit), True ∧ false = true ∧ True) (∃ (y : Unit), True ∧ true = true ∧ True)))) := by kernel_rfl
theorem lawFoldable_ok  : Contract Tryd.prog 4 s_lawFoldable :=
  vcFun_ok (Γ := Γof [(7, 0, s_szNds), (9, 0, s_toNds), (12, 0, s_sFoldable), (13, 0, s_iFoldable), (11, 0, s_eqNds)]) (E := Eof []) (ov := false) (L := fun x => Lof ([])) Tryd.func4 rfl (by decide) (Γof_ok (l := [(7, 0, s_szNds), (9, 0, s_toNds), (12, 0, s_sFoldable), (13, 0, s_iFoldable), (11, 0, s_eqNds)]) ⟨szNds_ok, toNds_ok, sFoldable_ok, iFoldable_ok, eqNds_ok, trivial⟩) fun (x : List Nd × Int) (hx : smallNds x.1) => (lawFoldable_vc  x).mpr (by
  have h1 : smallNds x.1 := hx
  simp only [fz_nds]
  (repeat' first | with_reducible rfl | exact True.intro | refine inR_i64 ?_ ?_ | with_reducible refine And.intro ?_ ?_ | with_reducible refine bcase_dec (fun _ => ?_) (fun _ => ?_) | with_reducible refine bcase_bne (fun _ => ?_) (fun _ => ?_) | with_reducible refine bcase_beq (fun _ => ?_) (fun _ => ?_) | with_reducible refine bcase_not (fun _ => ?_) (fun _ => ?_) | refine bcase_intro (fun _ => ?_) (fun _ => ?_) | refine sl_eq ?_ | refine ex_flip () ?_ ?_ | (apply ex_flip6 <;> try dsimp only) | (apply ex_flip5 <;> try dsimp only) | (apply ex_flip4 <;> try dsimp only) | (apply ex_flip3 <;> try dsimp only) | (apply ex_flip2 <;> try dsimp only) | apply ex_flip | (refine Prod.forall.2 ?_; intro _; try dsimp only) | (intro _; try dsimp only))
  all_goals first
    | exact h1
    | contradiction
    | (simp only [ne_eq, not_true_eq_false] at *; done)
    | exact gB6 (by assumption)
    | exact gOk (by assumption)
    | exact gB3 (by assumption)
    | (exact fun e he => gB4 (by assumption) he)
    | (have := gB4 (by assumption) (by assumption); omega)
    | (have := gB3 (by assumption); omega)
    | (exfalso; simp [beqNds_self] at *; done)
    | omega
    | skip)

end Go.My
