/- A part of the proof: the engine and the contracts, joined. -/
import Derived.Test.YtinkjpfkemkhaaaDoorQI
section
/- What is reckoned ahead: the exported functions, and the two laws over them. -/
set_option linter.unusedVariables false
set_option linter.unusedSimpArgs false
namespace Go.My
open Go.Eng Go.Proofs
variable {G : GInv}

def topN : Nat := 1073741825
def topV (ns : List Nd) (k : Int) : Option Int := if isVal (kindAt ns k) && !decide (deepOf ns k = 0) then cV ns k else none
theorem consP_top {ns : List Nd} {k : Int} (h : okNds ns) (hl : ns.length ≤ 2 ^ 30) (hd : deepOf ns k ≠ 0) : consP topN (ns, k) := by
  have := isNd_iff.1 (okUp_of hd).1
  refine ⟨h, okUp_of hd, ?_⟩
  simp only [topN]; omega
theorem valAt {ns : List Nd} {k : Int} (h : (isVal (kindAt ns k) && !decide (deepOf ns k = 0)) = true) : deepOf ns k ≠ 0 := by
  simp only [Bool.and_eq_true, Bool.not_eq_true', decide_eq_false_iff_not] at h; exact h.2
def foldB (ns : List Nd) (k : Int) : Bool := decide (deepOf ns k ≠ 0) && (decide (kindAt ns k = 7) && ((cV ns k).isSome && inn (oI (cV ns k)) 0 999999999))
theorem foldB_no {ns : List Nd} {k : Int} (h : (isVal (kindAt ns k) && !decide (deepOf ns k = 0)) = false) : false = foldB ns k := by
  unfold foldB
  by_cases h7 : kindAt ns k = 7
  · by_cases h0 : deepOf ns k = 0
    · simp [h0]
    · have : isVal (kindAt ns k) = true := by rw [h7]; rfl
      simp [this, h0] at h
  · simp [h7]
def s_iConstOf  : Sig := { X := List Nd × Int, args := fun x => [nds x.1, .int .i64 x.2], pre := fun x => okNds x.1 ∧ x.1.length ≤ 2 ^ 30, Y := Unit, post := fun x y => True, res := fun x y => .tup [.int .i64 (oI (topV x.1 x.2)), .bool (topV x.1 x.2).isSome], outs := fun x y => [.top, .top], keep := false }
theorem iConstOf_vc (x : List Nd × Int) : vcFun Go.Proofs.Tryd.prog (Γof [(27, 0, s_isValueAt), (28, 0, (s_cR topN))]) (Eof []) false (Lof ([])) Go.Proofs.Tryd.f10.ntmps Go.Proofs.Tryd.f10.results.toList (Go.Proofs.Tryd.f10.body.getD .skip) s_iConstOf x = ((∀ (y : Unit), True → (True ∧ True ∧ True) ∧ True ∧ True ∧ True) ∧ ∃ (x_1 : List Nd × Int), (okNds x_1.fst ∧ List.length x_1.fst ≤ (1073741824 : Nat)) ∧ AV.sl false (0 : Nat) (4 : Nat) Nd (ndA false) x.fst = AV.sl false (0 : Nat) (4 : Nat) Nd (ndA false) x_1.fst ∧ x.snd = x_1.snd ∧ ∀ (y : Unit), True → bcase (!(isVal (kindAt x_1.fst x_1.snd) && !decide (deepOf x_1.fst x_1.snd = (0 : Int)))) (∃ (y : Unit), True ∧ (0 : Int) = oI (topV x.fst x.snd) ∧ false = Option.isSome (topV x.fst x.snd) ∧ True) (∃ (x_2 : List Nd × Int), consP topN x_2 ∧ AV.sl false (0 : Nat) (4 : Nat) Nd (ndA false) x.fst = AV.sl false (0 : Nat) (4 : Nat) Nd (ndA false) x_2.fst ∧ x.snd = x_2.snd ∧ ∀ (y : Unit), True → ∃ (y : Unit), True ∧ oI (cV x_2.fst x_2.snd) = oI (topV x.fst x.snd) ∧ Option.isSome (cV x_2.fst x_2.snd) = Option.isSome (topV x.fst x.snd) ∧ True)) := by kernel_rfl
theorem iConstOf_ok  : Contract G Tryd.prog 10 s_iConstOf :=
  vcFun_ok (Γ := Γof [(27, 0, s_isValueAt), (28, 0, (s_cR topN))]) (E := Eof []) (ov := false) (L := fun x => Lof ([])) Tryd.func10 rfl (by decide) (Γof_ok (l := [(27, 0, s_isValueAt), (28, 0, (s_cR topN))]) ⟨isValueAt_ok, (constOf_all topN), trivial⟩) fun (x : List Nd × Int) (hx : okNds x.1 ∧ x.1.length ≤ 2 ^ 30) => (iConstOf_vc  x).mpr (by
  obtain ⟨h1, h2⟩ := hx
  (repeat' first | with_reducible rfl | exact True.intro | refine inR_i64 ?_ ?_ | with_reducible refine And.intro ?_ ?_ | with_reducible refine bcase_dec (fun _ => ?_) (fun _ => ?_) | with_reducible refine bcase_bne (fun _ => ?_) (fun _ => ?_) | with_reducible refine bcase_beq (fun _ => ?_) (fun _ => ?_) | with_reducible refine bcase_not (fun _ => ?_) (fun _ => ?_) | refine bcase_intro (fun _ => ?_) (fun _ => ?_) | refine sl_eq ?_ | refine ex_flip () ?_ ?_ | (apply ex_flip6 <;> try dsimp only) | (apply ex_flip5 <;> try dsimp only) | (apply ex_flip4 <;> try dsimp only) | (apply ex_flip3 <;> try dsimp only) | (apply ex_flip2 <;> try dsimp only) | apply ex_flip | (refine Prod.forall.2 ?_; intro _; try dsimp only) | (intro _; try dsimp only))
  all_goals try (have hd0 := valAt (by assumption))
  all_goals first
    | exact h1
    | exact h2
    | contradiction
    | omega
    | exact consP_top h1 h2 (by assumption)
    | (have hr := isNd_iff.1 (okUp_of (show deepOf x.1 x.2 ≠ 0 by assumption)).1; omega)
    | exact foldB_no (by assumption)
    | (rw [topV, if_pos (by assumption)]; done)
    | (simp [topV, foldB, oI, *]; done)
    | (simp [topV, foldB, kindAt, ndAt_of (show x.1[Int.toNat x.2]? = some _ by assumption), oI, *]; done)
    | skip)

def s_sConstOf  : Sig := { X := List Nd × Int, args := fun x => [nds x.1, .int .i64 x.2], pre := fun x => okNds x.1 ∧ x.1.length ≤ 2 ^ 30, Y := Unit, post := fun x y => True, res := fun x y => .tup [.int .i64 (oI (topV x.1 x.2)), .bool (topV x.1 x.2).isSome], outs := fun x y => [.top, .top], keep := false }
theorem sConstOf_vc (x : List Nd × Int) : vcFun Go.Proofs.Tryd.prog (Γof [(23, 0, s_sDeepOf), (24, 0, s_l05Value), (25, 0, (s_lR topN))]) (Eof []) false (Lof ([])) Go.Proofs.Tryd.f8.ntmps Go.Proofs.Tryd.f8.results.toList (Go.Proofs.Tryd.f8.body.getD .skip) s_sConstOf x = ((∀ (y : Unit), True → (True ∧ True ∧ True) ∧ True ∧ True ∧ True) ∧ ∃ (x_1 : List Nd × Int), (okNds x_1.fst ∧ List.length x_1.fst ≤ (1073741824 : Nat)) ∧ AV.sl false (0 : Nat) (4 : Nat) Nd (ndA false) x.fst = AV.sl false (0 : Nat) (4 : Nat) Nd (ndA false) x_1.fst ∧ x.snd = x_1.snd ∧ ∀ (y : Unit), True → bcase (deepOf x_1.fst x_1.snd == (0 : Int)) (∃ (y : Unit), True ∧ (0 : Int) = oI (topV x.fst x.snd) ∧ false = Option.isSome (topV x.fst x.snd) ∧ True) (((0 : Int) ≤ x.snd ∧ x.snd < (↑(List.length x.fst) : Int)) ∧ ∀ (e : Nd), x.fst[Int.toNat x.snd]? = some e → ∃ (x_2 : Int), True ∧ e.kind = x_2 ∧ ∀ (y : Unit), True → bcase (!isVal x_2) (∃ (y : Unit), True ∧ (0 : Int) = oI (topV x.fst x.snd) ∧ false = Option.isSome (topV x.fst x.snd) ∧ True) (∃ (x_3 : List Nd × Int), consP topN x_3 ∧ AV.sl false (0 : Nat) (4 : Nat) Nd (ndA false) x.fst = AV.sl false (0 : Nat) (4 : Nat) Nd (ndA false) x_3.fst ∧ x.snd = x_3.snd ∧ ∀ (y : Unit), True → ∃ (y : Unit), True ∧ oI (cV x_3.fst x_3.snd) = oI (topV x.fst x.snd) ∧ Option.isSome (cV x_3.fst x_3.snd) = Option.isSome (topV x.fst x.snd) ∧ True))) := by kernel_rfl
theorem sConstOf_ok  : Contract G Tryd.prog 8 s_sConstOf :=
  vcFun_ok (Γ := Γof [(23, 0, s_sDeepOf), (24, 0, s_l05Value), (25, 0, (s_lR topN))]) (E := Eof []) (ov := false) (L := fun x => Lof ([])) Tryd.func8 rfl (by decide) (Γof_ok (l := [(23, 0, s_sDeepOf), (24, 0, s_l05Value), (25, 0, (s_lR topN))]) ⟨sDeepOf_ok, l05Value_ok, (l25_all topN), trivial⟩) fun (x : List Nd × Int) (hx : okNds x.1 ∧ x.1.length ≤ 2 ^ 30) => (sConstOf_vc  x).mpr (by
  obtain ⟨h1, h2⟩ := hx
  (repeat' first | with_reducible rfl | exact True.intro | refine inR_i64 ?_ ?_ | with_reducible refine And.intro ?_ ?_ | with_reducible refine bcase_dec (fun _ => ?_) (fun _ => ?_) | with_reducible refine bcase_bne (fun _ => ?_) (fun _ => ?_) | with_reducible refine bcase_beq (fun _ => ?_) (fun _ => ?_) | with_reducible refine bcase_not (fun _ => ?_) (fun _ => ?_) | refine bcase_intro (fun _ => ?_) (fun _ => ?_) | refine sl_eq ?_ | refine ex_flip () ?_ ?_ | (apply ex_flip6 <;> try dsimp only) | (apply ex_flip5 <;> try dsimp only) | (apply ex_flip4 <;> try dsimp only) | (apply ex_flip3 <;> try dsimp only) | (apply ex_flip2 <;> try dsimp only) | apply ex_flip | (refine Prod.forall.2 ?_; intro _; try dsimp only) | (intro _; try dsimp only))
  all_goals try (have hd0 := valAt (by assumption))
  all_goals first
    | exact h1
    | exact h2
    | contradiction
    | omega
    | exact consP_top h1 h2 (by assumption)
    | (have hr := isNd_iff.1 (okUp_of (show deepOf x.1 x.2 ≠ 0 by assumption)).1; omega)
    | exact foldB_no (by assumption)
    | (rw [topV, if_pos (by assumption)]; done)
    | (simp [topV, foldB, oI, *]; done)
    | (simp [topV, foldB, kindAt, ndAt_of (show x.1[Int.toNat x.2]? = some _ by assumption), oI, *]; done)
    | skip)

def s_iFold1  : Sig := { X := List Nd × Int, args := fun x => [nds x.1, .int .i64 x.2], pre := fun x => okNds x.1 ∧ x.1.length ≤ 2 ^ 30 ∧ deepOf x.1 x.2 ≠ 0, Y := Unit, post := fun x y => True, res := fun x y => .bool (foldB x.1 x.2), outs := fun x y => [.top, .top], keep := false }
theorem iFold1_vc (x : List Nd × Int) : vcFun Go.Proofs.Tryd.prog (Γof [(28, 0, (s_cR topN)), (54, 0, s_inRange)]) (Eof []) false (Lof ([])) Go.Proofs.Tryd.f31.ntmps Go.Proofs.Tryd.f31.results.toList (Go.Proofs.Tryd.f31.body.getD .skip) s_iFold1 x = ((∀ (y : Unit), True → True ∧ True ∧ True ∧ True) ∧ ((0 : Int) ≤ x.snd ∧ x.snd < (↑(List.length x.fst) : Int)) ∧ ∀ (e : Nd), x.fst[Int.toNat x.snd]? = some e → bcase (e.kind != (7 : Int)) (∃ (y : Unit), True ∧ false = foldB x.fst x.snd ∧ True) (∃ (x_1 : List Nd × Int), consP topN x_1 ∧ AV.sl false (0 : Nat) (4 : Nat) Nd (ndA false) x.fst = AV.sl false (0 : Nat) (4 : Nat) Nd (ndA false) x_1.fst ∧ x.snd = x_1.snd ∧ ∀ (y : Unit), True → bcase (Option.isSome (cV x_1.fst x_1.snd)) (∃ (x_2 : Int × Int × Int), True ∧ oI (cV x_1.fst x_1.snd) = x_2.fst ∧ (0 : Int) = x_2.snd.fst ∧ (999999999 : Int) = x_2.snd.snd ∧ ∀ (y : Unit), True → ∃ (y : Unit), True ∧ inn x_2.fst x_2.snd.fst x_2.snd.snd = foldB x.fst x.snd ∧ True) (∃ (y : Unit), True ∧ false = foldB x.fst x.snd ∧ True))) := by kernel_rfl
theorem iFold1_ok  : Contract G Tryd.prog 31 s_iFold1 :=
  vcFun_ok (Γ := Γof [(28, 0, (s_cR topN)), (54, 0, s_inRange)]) (E := Eof []) (ov := false) (L := fun x => Lof ([])) Tryd.func31 rfl (by decide) (Γof_ok (l := [(28, 0, (s_cR topN)), (54, 0, s_inRange)]) ⟨(constOf_all topN), inRange_ok, trivial⟩) fun (x : List Nd × Int) (hx : okNds x.1 ∧ x.1.length ≤ 2 ^ 30 ∧ deepOf x.1 x.2 ≠ 0) => (iFold1_vc  x).mpr (by
  obtain ⟨h1, h2, h3⟩ := hx
  (repeat' first | with_reducible rfl | exact True.intro | refine inR_i64 ?_ ?_ | with_reducible refine And.intro ?_ ?_ | with_reducible refine bcase_dec (fun _ => ?_) (fun _ => ?_) | with_reducible refine bcase_bne (fun _ => ?_) (fun _ => ?_) | with_reducible refine bcase_beq (fun _ => ?_) (fun _ => ?_) | with_reducible refine bcase_not (fun _ => ?_) (fun _ => ?_) | refine bcase_intro (fun _ => ?_) (fun _ => ?_) | refine sl_eq ?_ | refine ex_flip () ?_ ?_ | (apply ex_flip6 <;> try dsimp only) | (apply ex_flip5 <;> try dsimp only) | (apply ex_flip4 <;> try dsimp only) | (apply ex_flip3 <;> try dsimp only) | (apply ex_flip2 <;> try dsimp only) | apply ex_flip | (refine Prod.forall.2 ?_; intro _; try dsimp only) | (intro _; try dsimp only))
  all_goals try (have hd0 := valAt (by assumption))
  all_goals first
    | exact h1
    | exact h2
    | contradiction
    | omega
    | exact consP_top h1 h2 (by assumption)
    | (have hr := isNd_iff.1 (okUp_of (show deepOf x.1 x.2 ≠ 0 by assumption)).1; omega)
    | exact foldB_no (by assumption)
    | (rw [topV, if_pos (by assumption)]; done)
    | (simp [topV, foldB, oI, *]; done)
    | (simp [topV, foldB, kindAt, ndAt_of (show x.1[Int.toNat x.2]? = some _ by assumption), oI, *]; done)
    | skip)

def s_iFoldable  : Sig := { X := List Nd × Int, args := fun x => [nds x.1, .int .i64 x.2], pre := fun x => okNds x.1 ∧ x.1.length ≤ 2 ^ 30, Y := Unit, post := fun x y => True, res := fun x y => .bool (foldB x.1 x.2), outs := fun x y => [.top, .top], keep := false }
theorem iFoldable_vc (x : List Nd × Int) : vcFun Go.Proofs.Tryd.prog (Γof [(27, 0, s_isValueAt), (31, 0, s_iFold1)]) (Eof []) false (Lof ([])) Go.Proofs.Tryd.f13.ntmps Go.Proofs.Tryd.f13.results.toList (Go.Proofs.Tryd.f13.body.getD .skip) s_iFoldable x = ((∀ (y : Unit), True → True ∧ True ∧ True ∧ True) ∧ ∃ (x_1 : List Nd × Int), (okNds x_1.fst ∧ List.length x_1.fst ≤ (1073741824 : Nat)) ∧ AV.sl false (0 : Nat) (4 : Nat) Nd (ndA false) x.fst = AV.sl false (0 : Nat) (4 : Nat) Nd (ndA false) x_1.fst ∧ x.snd = x_1.snd ∧ ∀ (y : Unit), True → bcase (isVal (kindAt x_1.fst x_1.snd) && !decide (deepOf x_1.fst x_1.snd = (0 : Int))) (∃ (x_2 : List Nd × Int), (okNds x_2.fst ∧ List.length x_2.fst ≤ (1073741824 : Nat) ∧ deepOf x_2.fst x_2.snd ≠ (0 : Int)) ∧ AV.sl false (0 : Nat) (4 : Nat) Nd (ndA false) x.fst = AV.sl false (0 : Nat) (4 : Nat) Nd (ndA false) x_2.fst ∧ x.snd = x_2.snd ∧ ∀ (y : Unit), True → ∃ (y : Unit), True ∧ foldB x_2.fst x_2.snd = foldB x.fst x.snd ∧ True) (∃ (y : Unit), True ∧ false = foldB x.fst x.snd ∧ True)) := by kernel_rfl
theorem iFoldable_ok  : Contract G Tryd.prog 13 s_iFoldable :=
  vcFun_ok (Γ := Γof [(27, 0, s_isValueAt), (31, 0, s_iFold1)]) (E := Eof []) (ov := false) (L := fun x => Lof ([])) Tryd.func13 rfl (by decide) (Γof_ok (l := [(27, 0, s_isValueAt), (31, 0, s_iFold1)]) ⟨isValueAt_ok, iFold1_ok, trivial⟩) fun (x : List Nd × Int) (hx : okNds x.1 ∧ x.1.length ≤ 2 ^ 30) => (iFoldable_vc  x).mpr (by
  obtain ⟨h1, h2⟩ := hx
  (repeat' first | with_reducible rfl | exact True.intro | refine inR_i64 ?_ ?_ | with_reducible refine And.intro ?_ ?_ | with_reducible refine bcase_dec (fun _ => ?_) (fun _ => ?_) | with_reducible refine bcase_bne (fun _ => ?_) (fun _ => ?_) | with_reducible refine bcase_beq (fun _ => ?_) (fun _ => ?_) | with_reducible refine bcase_not (fun _ => ?_) (fun _ => ?_) | refine bcase_intro (fun _ => ?_) (fun _ => ?_) | refine sl_eq ?_ | refine ex_flip () ?_ ?_ | (apply ex_flip6 <;> try dsimp only) | (apply ex_flip5 <;> try dsimp only) | (apply ex_flip4 <;> try dsimp only) | (apply ex_flip3 <;> try dsimp only) | (apply ex_flip2 <;> try dsimp only) | apply ex_flip | (refine Prod.forall.2 ?_; intro _; try dsimp only) | (intro _; try dsimp only))
  all_goals try (have hd0 := valAt (by assumption))
  all_goals first
    | exact h1
    | exact h2
    | contradiction
    | omega
    | exact consP_top h1 h2 (by assumption)
    | (have hr := isNd_iff.1 (okUp_of (show deepOf x.1 x.2 ≠ 0 by assumption)).1; omega)
    | exact foldB_no (by assumption)
    | (rw [topV, if_pos (by assumption)]; done)
    | (simp [topV, foldB, oI, *]; done)
    | (simp [topV, foldB, kindAt, ndAt_of (show x.1[Int.toNat x.2]? = some _ by assumption), oI, *]; done)
    | skip)

def s_sFold1  : Sig := { X := List Nd × Int, args := fun x => [nds x.1, .int .i64 x.2], pre := fun x => okNds x.1 ∧ x.1.length ≤ 2 ^ 30 ∧ deepOf x.1 x.2 ≠ 0, Y := Unit, post := fun x y => True, res := fun x y => .tup [.int .i64 (if kindAt x.1 x.2 = 7 then oI (cV x.1 x.2) else 0), .bool (foldB x.1 x.2)], outs := fun x y => [.top, .top], keep := false }
theorem sFold1_vc (x : List Nd × Int) : vcFun Go.Proofs.Tryd.prog (Γof [(25, 0, (s_lR topN)), (44, 0, s_l01In)]) (Eof []) false (Lof ([])) Go.Proofs.Tryd.f30.ntmps Go.Proofs.Tryd.f30.results.toList (Go.Proofs.Tryd.f30.body.getD .skip) s_sFold1 x = ((∀ (y : Unit), True → (True ∧ True ∧ True) ∧ True ∧ True ∧ True) ∧ ((0 : Int) ≤ x.snd ∧ x.snd < (↑(List.length x.fst) : Int)) ∧ ∀ (e : Nd), x.fst[Int.toNat x.snd]? = some e → bcase (e.kind != (7 : Int)) (∃ (y : Unit), True ∧ ((0 : Int) = if kindAt x.fst x.snd = (7 : Int) then oI (cV x.fst x.snd) else (0 : Int)) ∧ false = foldB x.fst x.snd ∧ True) (∃ (x_1 : List Nd × Int), consP topN x_1 ∧ AV.sl false (0 : Nat) (4 : Nat) Nd (ndA false) x.fst = AV.sl false (0 : Nat) (4 : Nat) Nd (ndA false) x_1.fst ∧ x.snd = x_1.snd ∧ ∀ (y : Unit), True → bcase (Option.isSome (cV x_1.fst x_1.snd)) (∃ (x_2 : Int × Int × Int), True ∧ oI (cV x_1.fst x_1.snd) = x_2.fst ∧ (0 : Int) = x_2.snd.fst ∧ (999999999 : Int) = x_2.snd.snd ∧ ∀ (y : Unit), True → ∃ (y : Unit), True ∧ (oI (cV x_1.fst x_1.snd) = if kindAt x.fst x.snd = (7 : Int) then oI (cV x.fst x.snd) else (0 : Int)) ∧ inn x_2.fst x_2.snd.fst x_2.snd.snd = foldB x.fst x.snd ∧ True) (∃ (y : Unit), True ∧ (oI (cV x_1.fst x_1.snd) = if kindAt x.fst x.snd = (7 : Int) then oI (cV x.fst x.snd) else (0 : Int)) ∧ false = foldB x.fst x.snd ∧ True))) := by kernel_rfl
theorem sFold1_ok  : Contract G Tryd.prog 30 s_sFold1 :=
  vcFun_ok (Γ := Γof [(25, 0, (s_lR topN)), (44, 0, s_l01In)]) (E := Eof []) (ov := false) (L := fun x => Lof ([])) Tryd.func30 rfl (by decide) (Γof_ok (l := [(25, 0, (s_lR topN)), (44, 0, s_l01In)]) ⟨(l25_all topN), l01In_ok, trivial⟩) fun (x : List Nd × Int) (hx : okNds x.1 ∧ x.1.length ≤ 2 ^ 30 ∧ deepOf x.1 x.2 ≠ 0) => (sFold1_vc  x).mpr (by
  obtain ⟨h1, h2, h3⟩ := hx
  (repeat' first | with_reducible rfl | exact True.intro | refine inR_i64 ?_ ?_ | with_reducible refine And.intro ?_ ?_ | with_reducible refine bcase_dec (fun _ => ?_) (fun _ => ?_) | with_reducible refine bcase_bne (fun _ => ?_) (fun _ => ?_) | with_reducible refine bcase_beq (fun _ => ?_) (fun _ => ?_) | with_reducible refine bcase_not (fun _ => ?_) (fun _ => ?_) | refine bcase_intro (fun _ => ?_) (fun _ => ?_) | refine sl_eq ?_ | refine ex_flip () ?_ ?_ | (apply ex_flip6 <;> try dsimp only) | (apply ex_flip5 <;> try dsimp only) | (apply ex_flip4 <;> try dsimp only) | (apply ex_flip3 <;> try dsimp only) | (apply ex_flip2 <;> try dsimp only) | apply ex_flip | (refine Prod.forall.2 ?_; intro _; try dsimp only) | (intro _; try dsimp only))
  all_goals try (have hd0 := valAt (by assumption))
  all_goals first
    | exact h1
    | exact h2
    | contradiction
    | omega
    | exact consP_top h1 h2 (by assumption)
    | (have hr := isNd_iff.1 (okUp_of (show deepOf x.1 x.2 ≠ 0 by assumption)).1; omega)
    | exact foldB_no (by assumption)
    | (rw [topV, if_pos (by assumption)]; done)
    | (simp [topV, foldB, oI, *]; done)
    | (simp [topV, foldB, kindAt, ndAt_of (show x.1[Int.toNat x.2]? = some _ by assumption), oI, *]; done)
    | skip)

def s_sFoldable  : Sig := { X := List Nd × Int, args := fun x => [nds x.1, .int .i64 x.2], pre := fun x => okNds x.1 ∧ x.1.length ≤ 2 ^ 30, Y := Unit, post := fun x y => True, res := fun x y => .bool (foldB x.1 x.2), outs := fun x y => [.top, .top], keep := false }
theorem sFoldable_vc (x : List Nd × Int) : vcFun Go.Proofs.Tryd.prog (Γof [(23, 0, s_sDeepOf), (30, 0, s_sFold1)]) (Eof []) false (Lof ([])) Go.Proofs.Tryd.f12.ntmps Go.Proofs.Tryd.f12.results.toList (Go.Proofs.Tryd.f12.body.getD .skip) s_sFoldable x = ((∀ (y : Unit), True → True ∧ True ∧ True ∧ True) ∧ ∃ (x_1 : List Nd × Int), (okNds x_1.fst ∧ List.length x_1.fst ≤ (1073741824 : Nat)) ∧ AV.sl false (0 : Nat) (4 : Nat) Nd (ndA false) x.fst = AV.sl false (0 : Nat) (4 : Nat) Nd (ndA false) x_1.fst ∧ x.snd = x_1.snd ∧ ∀ (y : Unit), True → bcase (deepOf x_1.fst x_1.snd == (0 : Int)) (∃ (y : Unit), True ∧ false = foldB x.fst x.snd ∧ True) (∃ (x_2 : List Nd × Int), (okNds x_2.fst ∧ List.length x_2.fst ≤ (1073741824 : Nat) ∧ deepOf x_2.fst x_2.snd ≠ (0 : Int)) ∧ AV.sl false (0 : Nat) (4 : Nat) Nd (ndA false) x.fst = AV.sl false (0 : Nat) (4 : Nat) Nd (ndA false) x_2.fst ∧ x.snd = x_2.snd ∧ ∀ (y : Unit), True → ∃ (y : Unit), True ∧ foldB x_2.fst x_2.snd = foldB x.fst x.snd ∧ True)) := by kernel_rfl
theorem sFoldable_ok  : Contract G Tryd.prog 12 s_sFoldable :=
  vcFun_ok (Γ := Γof [(23, 0, s_sDeepOf), (30, 0, s_sFold1)]) (E := Eof []) (ov := false) (L := fun x => Lof ([])) Tryd.func12 rfl (by decide) (Γof_ok (l := [(23, 0, s_sDeepOf), (30, 0, s_sFold1)]) ⟨sDeepOf_ok, sFold1_ok, trivial⟩) fun (x : List Nd × Int) (hx : okNds x.1 ∧ x.1.length ≤ 2 ^ 30) => (sFoldable_vc  x).mpr (by
  obtain ⟨h1, h2⟩ := hx
  (repeat' first | with_reducible rfl | exact True.intro | refine inR_i64 ?_ ?_ | with_reducible refine And.intro ?_ ?_ | with_reducible refine bcase_dec (fun _ => ?_) (fun _ => ?_) | with_reducible refine bcase_bne (fun _ => ?_) (fun _ => ?_) | with_reducible refine bcase_beq (fun _ => ?_) (fun _ => ?_) | with_reducible refine bcase_not (fun _ => ?_) (fun _ => ?_) | refine bcase_intro (fun _ => ?_) (fun _ => ?_) | refine sl_eq ?_ | refine ex_flip () ?_ ?_ | (apply ex_flip6 <;> try dsimp only) | (apply ex_flip5 <;> try dsimp only) | (apply ex_flip4 <;> try dsimp only) | (apply ex_flip3 <;> try dsimp only) | (apply ex_flip2 <;> try dsimp only) | apply ex_flip | (refine Prod.forall.2 ?_; intro _; try dsimp only) | (intro _; try dsimp only))
  all_goals try (have hd0 := valAt (by assumption))
  all_goals first
    | exact h1
    | exact h2
    | contradiction
    | omega
    | exact consP_top h1 h2 (by assumption)
    | (have hr := isNd_iff.1 (okUp_of (show deepOf x.1 x.2 ≠ 0 by assumption)).1; omega)
    | exact foldB_no (by assumption)
    | (rw [topV, if_pos (by assumption)]; done)
    | (simp [topV, foldB, oI, *]; done)
    | (simp [topV, foldB, kindAt, ndAt_of (show x.1[Int.toNat x.2]? = some _ by assumption), oI, *]; done)
    | skip)

theorem gOk {l : List Nd} (h : ¬ szNds l 1048576 < 0) : okNds l := by
  refine ⟨by have := gB1 h; have := gB3 h; omega, fun e he => ?_⟩
  have h1 := gB2 h he; have h2 := gB4 h he
  unfold okNd; omega
def s_lawConstOf  : Sig := { X := List Nd × Int, args := fun x => [nds x.1, .int .i64 x.2], pre := fun x => smallNds x.1, Y := Unit, post := fun x y => True, res := fun x y => .bool true, outs := fun x y => [.top, .top], keep := false }
theorem lawConstOf_vc (x : List Nd × Int) : vcFun Go.Proofs.Tryd.prog (Γof [(7, 0, s_szNds), (9, 0, s_toNds), (8, 0, s_sConstOf), (10, 0, s_iConstOf), (11, 0, s_eqNds)]) (Eof []) false (Lof ([])) Go.Proofs.Tryd.f3.ntmps Go.Proofs.Tryd.f3.results.toList (Go.Proofs.Tryd.f3.body.getD .skip) s_lawConstOf x = ((∀ (y : Unit), True → True ∧ True ∧ True ∧ True) ∧ ∃ (x_1 : List Nd × Int), ((-1 : Int) ≤ x_1.snd ∧ x_1.snd ≤ (2 : Int) ^ (50 : Nat) ∧ smallNds x_1.fst) ∧ AV.sl false (0 : Nat) (4 : Nat) Nd (ndA false) x.fst = AV.sl false (0 : Nat) (4 : Nat) Nd (ndA false) x_1.fst ∧ (1048576 : Int) = x_1.snd ∧ ∀ (y : Unit), True → bcase (decide (szNds x_1.fst x_1.snd < (0 : Int))) (∃ (y : Unit), True ∧ true = true ∧ True) (∃ (x_2 : List Nd), (List.length x_2 ≤ (1073741824 : Nat) ∧ ∀ (e : Nd), e ∈ x_2 → List.length e.kids ≤ (1073741824 : Nat)) ∧ AV.sl false (0 : Nat) (4 : Nat) Nd (ndA false) x.fst = AV.sl false (0 : Nat) (4 : Nat) Nd (ndA false) x_2 ∧ ∀ (y : Unit), True → ∃ (x_3 : List Nd × Int), (okNds x_3.fst ∧ List.length x_3.fst ≤ (1073741824 : Nat)) ∧ AV.sl false (0 : Nat) (4 : Nat) Nd (fun (x : Nd) => fzL (ndA true x)) x_2 = AV.sl false (0 : Nat) (4 : Nat) Nd (ndA false) x_3.fst ∧ x.snd = x_3.snd ∧ ∀ (y : Unit), True → ∃ (x_4 : List Nd), (List.length x_4 ≤ (1073741824 : Nat) ∧ ∀ (e : Nd), e ∈ x_4 → List.length e.kids ≤ (1073741824 : Nat)) ∧ AV.sl false (0 : Nat) (4 : Nat) Nd (ndA false) x.fst = AV.sl false (0 : Nat) (4 : Nat) Nd (ndA false) x_4 ∧ ∀ (y : Unit), True → ∃ (x_5 : List Nd × Int), (okNds x_5.fst ∧ List.length x_5.fst ≤ (1073741824 : Nat)) ∧ AV.sl false (0 : Nat) (4 : Nat) Nd (fun (x : Nd) => fzL (ndA true x)) x_4 = AV.sl false (0 : Nat) (4 : Nat) Nd (ndA false) x_5.fst ∧ x.snd = x_5.snd ∧ ∀ (y : Unit), True → bcase (oI (topV x_5.fst x_5.snd) != oI (topV x_3.fst x_3.snd)) (∃ (y : Unit), True ∧ false = true ∧ True) (bcase (!Option.isSome (topV x_5.fst x_5.snd) == Option.isSome (topV x_3.fst x_3.snd)) (∃ (y : Unit), True ∧ false = true ∧ True) (∃ (x_6 : List Nd), (List.length x_6 ≤ (1073741824 : Nat) ∧ ∀ (e : Nd), e ∈ x_6 → List.length e.kids ≤ (1073741824 : Nat)) ∧ AV.sl false (0 : Nat) (4 : Nat) Nd (ndA false) x.fst = AV.sl false (0 : Nat) (4 : Nat) Nd (ndA false) x_6 ∧ ∀ (y : Unit), True → ∃ (x : List Nd × List Nd), (smallNds x.fst ∧ smallNds x.snd) ∧ AV.sl false (0 : Nat) (4 : Nat) Nd (fun (x : Nd) => fzL (ndA true x)) x_4 = AV.sl false (0 : Nat) (4 : Nat) Nd (ndA false) x.fst ∧ AV.sl false (0 : Nat) (4 : Nat) Nd (fun (x : Nd) => fzL (ndA true x)) x_6 = AV.sl false (0 : Nat) (4 : Nat) Nd (ndA false) x.snd ∧ ∀ (y : Unit), True → bcase (!beqNds x.fst x.snd) (∃ (y : Unit), True ∧ false = true ∧ True) (∃ (y : Unit), True ∧ true = true ∧ True))))) := by kernel_rfl
theorem lawConstOf_ok  : Contract G Tryd.prog 3 s_lawConstOf :=
  vcFun_ok (Γ := Γof [(7, 0, s_szNds), (9, 0, s_toNds), (8, 0, s_sConstOf), (10, 0, s_iConstOf), (11, 0, s_eqNds)]) (E := Eof []) (ov := false) (L := fun x => Lof ([])) Tryd.func3 rfl (by decide) (Γof_ok (l := [(7, 0, s_szNds), (9, 0, s_toNds), (8, 0, s_sConstOf), (10, 0, s_iConstOf), (11, 0, s_eqNds)]) ⟨szNds_ok, toNds_ok, sConstOf_ok, iConstOf_ok, eqNds_ok, trivial⟩) fun (x : List Nd × Int) (hx : smallNds x.1) => (lawConstOf_vc  x).mpr (by
  have h1 : smallNds x.1 := hx
  simp only [fz_nds]
  (repeat' first | with_reducible rfl | exact True.intro | refine inR_i64 ?_ ?_ | with_reducible refine And.intro ?_ ?_ | with_reducible refine bcase_dec (fun _ => ?_) (fun _ => ?_) | with_reducible refine bcase_bne (fun _ => ?_) (fun _ => ?_) | with_reducible refine bcase_beq (fun _ => ?_) (fun _ => ?_) | with_reducible refine bcase_not (fun _ => ?_) (fun _ => ?_) | refine bcase_intro (fun _ => ?_) (fun _ => ?_) | refine sl_eq ?_ | refine ex_flip () ?_ ?_ | (apply ex_flip6 <;> try dsimp only) | (apply ex_flip5 <;> try dsimp only) | (apply ex_flip4 <;> try dsimp only) | (apply ex_flip3 <;> try dsimp only) | (apply ex_flip2 <;> try dsimp only) | apply ex_flip | (refine Prod.forall.2 ?_; intro _; try dsimp only) | (intro _; try dsimp only))
  all_goals first
    | exact h1
    | contradiction
    | (simp only [ne_eq, not_true_eq_false] at *; done)
    | exact gB6 (by assumption)
    | exact gOk (by assumption)
    | exact gB3 (by assumption)
    | (exact fun e he => gB4 (by assumption) he)
    | (have := gB4 (by assumption) (by assumption); omega)
    | (have := gB3 (by assumption); omega)
    | (exfalso; simp [beqNds_self] at *; done)
    | omega
    | skip)

def s_lawFoldable  : Sig := { X := List Nd × Int, args := fun x => [nds x.1, .int .i64 x.2], pre := fun x => smallNds x.1, Y := Unit, post := fun x y => True, res := fun x y => .bool true, outs := fun x y => [.top, .top], keep := false }
theorem lawFoldable_vc (x : List Nd × Int) : vcFun Go.Proofs.Tryd.prog (Γof [(7, 0, s_szNds), (9, 0, s_toNds), (12, 0, s_sFoldable), (13, 0, s_iFoldable), (11, 0, s_eqNds)]) (Eof []) false (Lof ([])) Go.Proofs.Tryd.f4.ntmps Go.Proofs.Tryd.f4.results.toList (Go.Proofs.Tryd.f4.body.getD .skip) s_lawFoldable x = ((∀ (y : Unit), True → True ∧ True ∧ True ∧ True) ∧ ∃ (x_1 : List Nd × Int), ((-1 : Int) ≤ x_1.snd ∧ x_1.snd ≤ (2 : Int) ^ (50 : Nat) ∧ smallNds x_1.fst) ∧ AV.sl false (0 : Nat) (4 : Nat) Nd (ndA false) x.fst = AV.sl false (0 : Nat) (4 : Nat) Nd (ndA false) x_1.fst ∧ (1048576 : Int) = x_1.snd ∧ ∀ (y : Unit), True → bcase (decide (szNds x_1.fst x_1.snd < (0 : Int))) (∃ (y : Unit), True ∧ true = true ∧ True) (∃ (x_2 : List Nd), (List.length x_2 ≤ (1073741824 : Nat) ∧ ∀ (e : Nd), e ∈ x_2 → List.length e.kids ≤ (1073741824 : Nat)) ∧ AV.sl false (0 : Nat) (4 : Nat) Nd (ndA false) x.fst = AV.sl false (0 : Nat) (4 : Nat) Nd (ndA false) x_2 ∧ ∀ (y : Unit), True → ∃ (x_3 : List Nd × Int), (okNds x_3.fst ∧ List.length x_3.fst ≤ (1073741824 : Nat)) ∧ AV.sl false (0 : Nat) (4 : Nat) Nd (fun (x : Nd) => fzL (ndA true x)) x_2 = AV.sl false (0 : Nat) (4 : Nat) Nd (ndA false) x_3.fst ∧ x.snd = x_3.snd ∧ ∀ (y : Unit), True → ∃ (x_4 : List Nd), (List.length x_4 ≤ (1073741824 : Nat) ∧ ∀ (e : Nd), e ∈ x_4 → List.length e.kids ≤ (1073741824 : Nat)) ∧ AV.sl false (0 : Nat) (4 : Nat) Nd (ndA false) x.fst = AV.sl false (0 : Nat) (4 : Nat) Nd (ndA false) x_4 ∧ ∀ (y : Unit), True → ∃ (x_5 : List Nd × Int), (okNds x_5.fst ∧ List.length x_5.fst ≤ (1073741824 : Nat)) ∧ AV.sl false (0 : Nat) (4 : Nat) Nd (fun (x : Nd) => fzL (ndA true x)) x_4 = AV.sl false (0 : Nat) (4 : Nat) Nd (ndA false) x_5.fst ∧ x.snd = x_5.snd ∧ ∀ (y : Unit), True → bcase (!foldB x_5.fst x_5.snd == foldB x_3.fst x_3.snd) (∃ (y : Unit), True ∧ false = true ∧ True) (∃ (x_6 : List Nd), (List.length x_6 ≤ (1073741824 : Nat) ∧ ∀ (e : Nd), e ∈ x_6 → List.length e.kids ≤ (1073741824 : Nat)) ∧ AV.sl false (0 : Nat) (4 : Nat) Nd (ndA false) x.fst = AV.sl false (0 : Nat) (4 : Nat) Nd (ndA false) x_6 ∧ ∀ (y : Unit), True → ∃ (x : List Nd × List Nd), (smallNds x.fst ∧ smallNds x.snd) ∧ AV.sl false (0 : Nat) (4 : Nat) Nd (fun (x : Nd) => fzL (ndA true x)) x_4 = AV.sl false (0 : Nat) (4 : Nat) Nd (ndA false) x.fst ∧ AV.sl false (0 : Nat) (4 : Nat) Nd (fun (x : Nd) => fzL (ndA true x)) x_6 = AV.sl false (0 : Nat) (4 : Nat) Nd (ndA false) x.snd ∧ ∀ (y : Unit), True → bcase (!beqNds x.fst x.snd) (∃ (y : Unit), True ∧ false = true ∧ True) (∃ (y : Unit), True ∧ true = true ∧ True)))) := by kernel_rfl
theorem lawFoldable_ok  : Contract G Tryd.prog 4 s_lawFoldable :=
  vcFun_ok (Γ := Γof [(7, 0, s_szNds), (9, 0, s_toNds), (12, 0, s_sFoldable), (13, 0, s_iFoldable), (11, 0, s_eqNds)]) (E := Eof []) (ov := false) (L := fun x => Lof ([])) Tryd.func4 rfl (by decide) (Γof_ok (l := [(7, 0, s_szNds), (9, 0, s_toNds), (12, 0, s_sFoldable), (13, 0, s_iFoldable), (11, 0, s_eqNds)]) ⟨szNds_ok, toNds_ok, sFoldable_ok, iFoldable_ok, eqNds_ok, trivial⟩) fun (x : List Nd × Int) (hx : smallNds x.1) => (lawFoldable_vc  x).mpr (by
  have h1 : smallNds x.1 := hx
  simp only [fz_nds]
  (repeat' first | with_reducible rfl | exact True.intro | refine inR_i64 ?_ ?_ | with_reducible refine And.intro ?_ ?_ | with_reducible refine bcase_dec (fun _ => ?_) (fun _ => ?_) | with_reducible refine bcase_bne (fun _ => ?_) (fun _ => ?_) | with_reducible refine bcase_beq (fun _ => ?_) (fun _ => ?_) | with_reducible refine bcase_not (fun _ => ?_) (fun _ => ?_) | refine bcase_intro (fun _ => ?_) (fun _ => ?_) | refine sl_eq ?_ | refine ex_flip () ?_ ?_ | (apply ex_flip6 <;> try dsimp only) | (apply ex_flip5 <;> try dsimp only) | (apply ex_flip4 <;> try dsimp only) | (apply ex_flip3 <;> try dsimp only) | (apply ex_flip2 <;> try dsimp only) | apply ex_flip | (refine Prod.forall.2 ?_; intro _; try dsimp only) | (intro _; try dsimp only))
  all_goals first
    | exact h1
    | contradiction
    | (simp only [ne_eq, not_true_eq_false] at *; done)
    | exact gB6 (by assumption)
    | exact gOk (by assumption)
    | exact gB3 (by assumption)
    | (exact fun e he => gB4 (by assumption) he)
    | (have := gB4 (by assumption) (by assumption); omega)
    | (have := gB3 (by assumption); omega)
    | (exfalso; simp [beqNds_self] at *; done)
    | omega
    | skip)

end Go.My
end
section
/- Groups: keys, and what GroupsOf returns. -/
set_option linter.unusedVariables false
set_option linter.unusedSimpArgs false
namespace Go.My
open Go.Eng Go.Proofs
variable {G : GInv}

structure Gr where
  notes : List Int
  member : Int
def grA (o : Bool) : Gr → List AV := fun g => [.sl o 0 1 Int intA g.notes, .int .i64 g.member]
def grs (l : List Gr) : AV := .sl false 0 2 Gr (grA false) l
def ogrs (l : List Gr) : AV := .sl true 0 2 Gr (grA true) l
def gkey (l : List Nd) (m : Int) : List UInt8 :=
  if isNd l m then (if kindAt l m = 12 then [97] ++ (ndAt l m).text else if kindAt l m = 21 then [98] ++ (ndAt l m).text else if kindAt l m = 20 then [99] ++ (ndAt l m).text else [100])
  else [100]
theorem gkey_of {l : List Nd} {m : Int} {x : Nd} (hx : l[m.toNat]? = some x) (h : isNd l m = true) : gkey l m = if x.kind = 12 then [97] ++ x.text else if x.kind = 21 then [98] ++ x.text else if x.kind = 20 then [99] ++ x.text else [100] := by
  rw [gkey, if_pos h, kindAt, ndAt_of hx]
def s_iGroupKey  : Sig := { X := List Nd × Int, args := fun x => [nds x.1, .agg [.any, .int .i64 x.2]], pre := fun x => x.1.length < 2 ^ 62 ∧ ∀ e ∈ x.1, e.text.length ≤ 2 ^ 40, Y := Unit, post := fun x y => True, res := fun x y => .str (gkey x.1 x.2), outs := fun x y => [.top, .top], keep := false }
theorem iGroupKey_vc (x : List Nd × Int) : vcFun Go.Proofs.Tryd.prog (Γof [(48, 0, s_isNode)]) (Eof []) false (Lof ([])) Go.Proofs.Tryd.f36.ntmps Go.Proofs.Tryd.f36.results.toList (Go.Proofs.Tryd.f36.body.getD .skip) s_iGroupKey x = ((∀ (y : Unit), True → True ∧ True ∧ True ∧ True) ∧ ∃ (x_1 : List Nd × Int), List.length x_1.fst < (4611686018427387904 : Nat) ∧ AV.sl false (0 : Nat) (4 : Nat) Nd (ndA false) x.fst = AV.sl false (0 : Nat) (4 : Nat) Nd (ndA false) x_1.fst ∧ x.snd = x_1.snd ∧ ∀ (y : Unit), True → bcase (!isNd x_1.fst x_1.snd) (∃ (y : Unit), True ∧ #[(100 : UInt8)].toList = gkey x.fst x.snd ∧ True) (((0 : Int) ≤ x.snd ∧ x.snd < (↑(List.length x.fst) : Int)) ∧ ∀ (e : Nd), x.fst[Int.toNat x.snd]? = some e → bcase (e.kind == (12 : Int)) ((↑((1 : Nat) + List.length e.text) : Int) ≤ IntKind.max IntKind.i64 ∧ ∃ (y : Unit), True ∧ #[(97 : UInt8)].toList ++ e.text = gkey x.fst x.snd ∧ True) (bcase (e.kind == (21 : Int)) ((↑((1 : Nat) + List.length e.text) : Int) ≤ IntKind.max IntKind.i64 ∧ ∃ (y : Unit), True ∧ #[(98 : UInt8)].toList ++ e.text = gkey x.fst x.snd ∧ True) (bcase (e.kind == (20 : Int)) ((↑((1 : Nat) + List.length e.text) : Int) ≤ IntKind.max IntKind.i64 ∧ ∃ (y : Unit), True ∧ #[(99 : UInt8)].toList ++ e.text = gkey x.fst x.snd ∧ True) (∃ (y : Unit), True ∧ #[(100 : UInt8)].toList = gkey x.fst x.snd ∧ True))))) := by kernel_rfl
theorem iGroupKey_ok  : Contract G Tryd.prog 36 s_iGroupKey :=
  vcFun_ok (Γ := Γof [(48, 0, s_isNode)]) (E := Eof []) (ov := false) (L := fun x => Lof ([])) Tryd.func36 rfl (by decide) (Γof_ok (l := [(48, 0, s_isNode)]) ⟨isNode_ok, trivial⟩) fun (x : List Nd × Int) (hx : x.1.length < 2 ^ 62 ∧ ∀ e ∈ x.1, e.text.length ≤ 2 ^ 40) => (iGroupKey_vc  x).mpr (by
  obtain ⟨h1, h2⟩ := hx
  (repeat' first | with_reducible rfl | exact True.intro | refine inR_i64 ?_ ?_ | with_reducible refine And.intro ?_ ?_ | with_reducible refine bcase_dec (fun _ => ?_) (fun _ => ?_) | with_reducible refine bcase_bne (fun _ => ?_) (fun _ => ?_) | with_reducible refine bcase_beq (fun _ => ?_) (fun _ => ?_) | with_reducible refine bcase_not (fun _ => ?_) (fun _ => ?_) | refine bcase_intro (fun _ => ?_) (fun _ => ?_) | refine sl_eq ?_ | refine ex_flip () ?_ ?_ | (apply ex_flip6 <;> try dsimp only) | (apply ex_flip5 <;> try dsimp only) | (apply ex_flip4 <;> try dsimp only) | (apply ex_flip3 <;> try dsimp only) | (apply ex_flip2 <;> try dsimp only) | apply ex_flip | (refine Prod.forall.2 ?_; intro _; try dsimp only) | (intro _; try dsimp only))
  all_goals first
    | omega
    | (have hn := isNd_iff.1 (show isNd x.1 x.2 = true by assumption); omega)
    | (have ht := h2 _ (memE (show x.1[Int.toNat _]? = some _ by assumption)); simp; omega)
    | (rw [gkey_of (by assumption) (by assumption)]; simp [*]; done)
    | (simp [gkey, *]; done)
    | skip)

def s_sGroupKey  : Sig := { X := List Nd × Int, args := fun x => [nds x.1, .agg [.any, .int .i64 x.2]], pre := fun x => x.1.length < 2 ^ 62 ∧ ∀ e ∈ x.1, e.text.length ≤ 2 ^ 40, Y := Unit, post := fun x y => True, res := fun x y => .str (gkey x.1 x.2), outs := fun x y => [.top, .top], keep := false }
theorem sGroupKey_vc (x : List Nd × Int) : vcFun Go.Proofs.Tryd.prog (Γof [(44, 0, s_l01In)]) (Eof []) false (Lof ([])) Go.Proofs.Tryd.f32.ntmps Go.Proofs.Tryd.f32.results.toList (Go.Proofs.Tryd.f32.body.getD .skip) s_sGroupKey x = ((∀ (y : Unit), True → True ∧ True ∧ True ∧ True) ∧ inR IntKind.i64 ((↑(List.length x.fst) : Int) - (1 : Int)) ∧ ∃ (x_1 : Int × Int × Int), True ∧ x.snd = x_1.fst ∧ (0 : Int) = x_1.snd.fst ∧ (↑(List.length x.fst) : Int) - (1 : Int) = x_1.snd.snd ∧ ∀ (y : Unit), True → bcase (!inn x_1.fst x_1.snd.fst x_1.snd.snd) (∃ (y : Unit), True ∧ #[(100 : UInt8)].toList = gkey x.fst x.snd ∧ True) (((0 : Int) ≤ x.snd ∧ x.snd < (↑(List.length x.fst) : Int)) ∧ ∀ (e : Nd), x.fst[Int.toNat x.snd]? = some e → bcase (e.kind == (12 : Int)) ((↑((1 : Nat) + List.length e.text) : Int) ≤ IntKind.max IntKind.i64 ∧ ∃ (y : Unit), True ∧ #[(97 : UInt8)].toList ++ e.text = gkey x.fst x.snd ∧ True) (bcase (e.kind == (21 : Int)) ((↑((1 : Nat) + List.length e.text) : Int) ≤ IntKind.max IntKind.i64 ∧ ∃ (y : Unit), True ∧ #[(98 : UInt8)].toList ++ e.text = gkey x.fst x.snd ∧ True) (bcase (e.kind == (20 : Int)) ((↑((1 : Nat) + List.length e.text) : Int) ≤ IntKind.max IntKind.i64 ∧ ∃ (y : Unit), True ∧ #[(99 : UInt8)].toList ++ e.text = gkey x.fst x.snd ∧ True) (∃ (y : Unit), True ∧ #[(100 : UInt8)].toList = gkey x.fst x.snd ∧ True))))) := by kernel_rfl
theorem sGroupKey_ok  : Contract G Tryd.prog 32 s_sGroupKey :=
  vcFun_ok (Γ := Γof [(44, 0, s_l01In)]) (E := Eof []) (ov := false) (L := fun x => Lof ([])) Tryd.func32 rfl (by decide) (Γof_ok (l := [(44, 0, s_l01In)]) ⟨l01In_ok, trivial⟩) fun (x : List Nd × Int) (hx : x.1.length < 2 ^ 62 ∧ ∀ e ∈ x.1, e.text.length ≤ 2 ^ 40) => (sGroupKey_vc  x).mpr (by
  obtain ⟨h1, h2⟩ := hx
  (repeat' first | with_reducible rfl | exact True.intro | refine inR_i64 ?_ ?_ | with_reducible refine And.intro ?_ ?_ | with_reducible refine bcase_dec (fun _ => ?_) (fun _ => ?_) | with_reducible refine bcase_bne (fun _ => ?_) (fun _ => ?_) | with_reducible refine bcase_beq (fun _ => ?_) (fun _ => ?_) | with_reducible refine bcase_not (fun _ => ?_) (fun _ => ?_) | refine bcase_intro (fun _ => ?_) (fun _ => ?_) | refine sl_eq ?_ | refine ex_flip () ?_ ?_ | (apply ex_flip6 <;> try dsimp only) | (apply ex_flip5 <;> try dsimp only) | (apply ex_flip4 <;> try dsimp only) | (apply ex_flip3 <;> try dsimp only) | (apply ex_flip2 <;> try dsimp only) | apply ex_flip | (refine Prod.forall.2 ?_; intro _; try dsimp only) | (intro _; try dsimp only))
  all_goals try rw [isNd_inn] at *
  all_goals first
    | ((try simp only [i64max]); omega)
    | (have hn := isNd_iff.1 (show isNd x.1 x.2 = true by assumption); omega)
    | (have ht := h2 _ (memE (show x.1[Int.toNat _]? = some _ by assumption)); simp; omega)
    | (rw [gkey_of (by assumption) (by assumption)]; simp [*]; done)
    | (simp [gkey, *]; done)
    | skip)

/- the groups -/
def grp (ns : List Nd) : List Int → List Int → List Gr
  | [], notes => if 0 < notes.length then [⟨notes, -1⟩] else []
  | c :: l, notes => if kindAt ns c = 19 then grp ns l (notes ++ [c]) else ⟨notes, c⟩ :: grp ns l []
def fileKids (ns : List Nd) : List Int := (ndAt ns (ns.length - 1)).kids
def groupsOf (ns : List Nd) : List Gr := if treeOk ns then grp ns (fileKids ns) [] else []
def gI (ns : List Nd) (i : Int) (out : List Gr) (notes : List Int) : Prop :=
  treeOk ns = true ∧ 0 ≤ i ∧ i ≤ (fileKids ns).length ∧ out ++ grp ns ((fileKids ns).drop i.toNat) notes = groupsOf ns ∧ out.length ≤ i ∧ notes.length ≤ i
theorem treeOk_last {ns : List Nd} (h : treeOk ns = true) : 1 ≤ ns.length ∧ nodeOk ns (ns.length - 1) = true := by
  simp only [treeOk, Bool.and_eq_true, decide_eq_true_eq, Bool.not_eq_true', decide_eq_false_iff_not] at h
  exact ⟨h.1.1, okUp_at (okUp_of h.2.2.1)⟩
theorem fileKids_ok {ns : List Nd} (h : treeOk ns = true) : (fileKids ns).length ≤ 12 ∧ ∀ c ∈ fileKids ns, 0 ≤ c ∧ c < ns.length - 1 := by
  have := nodeOk_parts (treeOk_last h).2
  exact ⟨this.2.1, this.2.2.2.1⟩
theorem gI_init {ns : List Nd} (h : treeOk ns = true) : gI ns 0 [] [] := ⟨h, by omega, by omega, by simp [groupsOf, h], by simp, by simp⟩
theorem gI_note {ns : List Nd} {i c c' : Int} {out : List Gr} {notes : List Int} {y : Nd} (h : gI ns i out notes) (hy : ns[c'.toNat]? = some y) (hk : y.kind = 19) (hc' : (fileKids ns)[i.toNat]? = some c') (hc : (fileKids ns)[i.toNat]? = some c) : gI ns (i + 1) out (notes ++ [c]) := by
  obtain ⟨h0, h1, h2, h3, h4, h5⟩ := h
  obtain rfl : c' = c := Option.some.inj (hc'.symm.trans hc)
  have := (getE hc).1
  refine ⟨h0, by omega, by omega, ?_, by omega, by simp; omega⟩
  rw [← h3, dropE hc, toNat1 h1, grp, if_pos (by rw [kindAt, ndAt_of hy, hk])]
theorem gI_mem {ns : List Nd} {i c c' : Int} {out : List Gr} {notes : List Int} {y : Nd} (h : gI ns i out notes) (hy : ns[c'.toNat]? = some y) (hk : y.kind ≠ 19) (hc' : (fileKids ns)[i.toNat]? = some c') (hc : (fileKids ns)[i.toNat]? = some c) : gI ns (i + 1) (out ++ [⟨notes, c⟩]) [] := by
  obtain ⟨h0, h1, h2, h3, h4, h5⟩ := h
  obtain rfl : c' = c := Option.some.inj (hc'.symm.trans hc)
  have := (getE hc).1
  refine ⟨h0, by omega, by omega, ?_, by simp; omega, by simp; omega⟩
  rw [← h3, dropE hc, toNat1 h1, grp, if_neg (by rw [kindAt, ndAt_of hy]; exact hk), List.append_assoc]; rfl
theorem gI_end1 {ns : List Nd} {i : Int} {out : List Gr} {notes : List Int} (h : gI ns i out notes) (hl : ¬ i < (fileKids ns).length) (hn : (notes.length : Int) > 0) : out ++ [⟨notes, -1⟩] = groupsOf ns := by
  have h3 := h.2.2.2.1
  rw [List.drop_eq_nil_of_le (by have := h.2.1; omega), grp, if_pos (by omega)] at h3; exact h3
theorem gI_end2 {ns : List Nd} {i : Int} {out : List Gr} {notes : List Int} (h : gI ns i out notes) (hl : ¬ i < (fileKids ns).length) (hn : ¬ (notes.length : Int) > 0) : out = groupsOf ns := by
  have h3 := h.2.2.2.1
  rw [List.drop_eq_nil_of_le (by have := h.2.1; omega), grp, if_neg (by omega)] at h3; simpa using h3
theorem gI_none {ns : List Nd} (h : treeOk ns = false) : groupsOf ns = [] := by simp [groupsOf, h]
theorem gI_kid {ns : List Nd} {i c : Int} {out : List Gr} {notes : List Int} (h : gI ns i out notes) (hc : (fileKids ns)[i.toNat]? = some c) : 0 ≤ c ∧ c < ns.length := by
  have := (fileKids_ok h.1).2 c (memE hc); omega
theorem gI_len {ns : List Nd} {i : Int} {out : List Gr} {notes : List Int} (h : gI ns i out notes) : (0 ≤ i ∧ i ≤ (fileKids ns).length) ∧ (fileKids ns).length ≤ 12 ∧ out.length ≤ 12 ∧ notes.length ≤ 12 := by
  have h1 := (fileKids_ok h.1).1
  obtain ⟨_, h2, h3, _, h4, h5⟩ := h
  omega
def lGr (x : List Nd) : LS := {
  ι := Int × List Gr × List Int, inv := fun i => gI x i.1 i.2.1 i.2.2,
  regs := fun i => [(0, nds x), (3, ogrs i.2.1), (4, oints i.2.2), (16, ints (fileKids x)), (17, .int .i64 (fileKids x).length), (18, .int .i64 i.1)], als := [], meas := fun i => (fileKids x).length - i.1.toNat }
theorem grp_len {ns : List Nd} : ∀ {l notes : List Int}, (grp ns l notes).length ≤ l.length + (if 0 < notes.length then 1 else 0) ∧ ∀ g ∈ grp ns l notes, g.notes.length ≤ l.length + notes.length
  | [], notes => by
    unfold grp
    split
    · rename_i h; simp [h]
    · simp
  | c :: l, notes => by
    unfold grp
    split
    · obtain ⟨h1, h2⟩ := @grp_len ns l (notes ++ [c])
      refine ⟨?_, fun g hg => ?_⟩
      · simp at h1 ⊢; omega
      · have := h2 g hg; simp at this ⊢; omega
    · obtain ⟨h1, h2⟩ := @grp_len ns l []
      refine ⟨?_, fun g hg => ?_⟩
      · simp at h1 ⊢; omega
      · rcases List.mem_cons.1 hg with h | h
        · subst h; simp
        · have := h2 g h; simp at this ⊢; omega
theorem groupsOf_len {ns : List Nd} : (groupsOf ns).length ≤ 12 ∧ ∀ g ∈ groupsOf ns, g.notes.length ≤ 12 := by
  unfold groupsOf
  split
  · rename_i h
    have h0 := (fileKids_ok h).1
    obtain ⟨h1, h2⟩ := @grp_len ns (fileKids ns) []
    simp at h1 h2
    exact ⟨by omega, fun g hg => by have := h2 g hg; omega⟩
  · simp
def s_iGroupsOf  : Sig := { X := List Nd, args := fun x => [nds x], pre := fun x => okNds x ∧ x.length ≤ 2 ^ 30, Y := Unit, post := fun x y => True, res := fun x y => ogrs (groupsOf x), outs := fun x y => [.top], keep := false }
theorem iGroupsOf_vc (x : List Nd) : vcFun Go.Proofs.Tryd.prog (Γof [(38, 0, s_iTreeOk)]) (Eof [(39, ⟨Int,intA⟩), (33, ⟨Gr,grA true⟩)]) false (Lof ([(6,lGr x)])) Go.Proofs.Tryd.f17.ntmps Go.Proofs.Tryd.f17.results.toList (Go.Proofs.Tryd.f17.body.getD .skip) s_iGroupsOf x = ((∀ (y : Unit), True → (∀ (x : Gr), (∀ (x : Int), True ∧ True) ∧ True ∧ True) ∧ True ∧ True) ∧ ∃ (x_1 : List Nd), (okNds x_1 ∧ List.length x_1 ≤ (1073741824 : Nat)) ∧ AV.sl false (0 : Nat) (4 : Nat) Nd (ndA false) x = AV.sl false (0 : Nat) (4 : Nat) Nd (ndA false) x_1 ∧ ∀ (y : Unit), True → bcase (!treeOk x_1) (∃ (y : Unit), True ∧ groupsOf x = [] ∧ True) (inR IntKind.i64 ((↑(List.length x) : Int) - (1 : Int)) ∧ ((0 : Int) ≤ (↑(List.length x) : Int) - (1 : Int) ∧ (↑(List.length x) : Int) - (1 : Int) < (↑(List.length x) : Int)) ∧ ∀ (e : Nd), x[Int.toNat ((↑(List.length x) : Int) - (1 : Int))]? = some e → (∃ (i : Int × List Gr × List Int), gI x i.fst i.snd.fst i.snd.snd ∧ (AV.sl false (0 : Nat) (4 : Nat) Nd (ndA false) x = AV.sl false (0 : Nat) (4 : Nat) Nd (ndA false) x ∧ i.snd.fst = [] ∧ i.snd.snd = [] ∧ AV.sl false (0 : Nat) (1 : Nat) Int intA e.kids = AV.sl false (0 : Nat) (1 : Nat) Int intA (fileKids x) ∧ (↑(List.length e.kids) : Int) = (↑(List.length (fileKids x)) : Int) ∧ (0 : Int) = i.fst ∧ True) ∧ True) ∧ ∀ (i : Int × List Gr × List Int), gI x i.fst i.snd.fst i.snd.snd → bcase (decide (i.fst < (↑(List.length (fileKids x)) : Int))) (((0 : Int) ≤ i.fst ∧ i.fst < (↑(List.length (fileKids x)) : Int)) ∧ ∀ (e : Int), (fileKids x)[Int.toNat i.fst]? = some e → ((0 : Int) ≤ e ∧ e < (↑(List.length x) : Int)) ∧ ∀ (e_1 : Nd), x[Int.toNat e]? = some e_1 → bcase (e_1.kind == (19 : Int)) (∃ (x_2 : Int), e = x_2 ∧ ∃ (zs : List Int), AV.sl true (0 : Nat) (1 : Nat) Int intA [x_2] = AV.sl true (0 : Nat) (1 : Nat) Int intA zs ∧ leafy intA ∧ room (List.length i.snd.snd + List.length zs) (8 : Nat) ∧ inR IntKind.i64 (i.fst + (1 : Int)) ∧ ∃ (i' : Int × List Gr × List Int), gI x i'.fst i'.snd.fst i'.snd.snd ∧ List.length (fileKids x) - Int.toNat i'.fst < List.length (fileKids x) - Int.toNat i.fst ∧ (AV.sl false (0 : Nat) (4 : Nat) Nd (ndA false) x = AV.sl false (0 : Nat) (4 : Nat) Nd (ndA false) x ∧ AV.sl true (0 : Nat) (2 : Nat) Gr (grA true) i.snd.fst = AV.sl true (0 : Nat) (2 : Nat) Gr (grA true) i'.snd.fst ∧ AV.sl true (0 : Nat) (1 : Nat) Int intA (i.snd.snd ++ zs) = AV.sl true (0 : Nat) (1 : Nat) Int intA i'.snd.snd ∧ AV.sl false (0 : Nat) (1 : Nat) Int intA (fileKids x) = AV.sl false (0 : Nat) (1 : Nat) Int intA (fileKids x) ∧ (↑(List.length (fileKids x)) : Int) = (↑(List.length (fileKids x)) : Int) ∧ i.fst + (1 : Int) = i'.fst ∧ True) ∧ True) (∃ (x_2 : Gr), AV.sl true (0 : Nat) (1 : Nat) Int intA i.snd.snd = AV.sl true (0 : Nat) (1 : Nat) Int intA x_2.notes ∧ e = x_2.member ∧ ∃ (zs : List Gr), AV.sl true (0 : Nat) (2 : Nat) Gr (grA true) [x_2] = AV.sl true (0 : Nat) (2 : Nat) Gr (grA true) zs ∧ leafy (grA true) ∧ room (List.length i.snd.fst + List.length zs) (32 : Nat) ∧ inR IntKind.i64 (i.fst + (1 : Int)) ∧ ∃ (i' : Int × List Gr × List Int), gI x i'.fst i'.snd.fst i'.snd.snd ∧ List.length (fileKids x) - Int.toNat i'.fst < List.length (fileKids x) - Int.toNat i.fst ∧ (AV.sl false (0 : Nat) (4 : Nat) Nd (ndA false) x = AV.sl false (0 : Nat) (4 : Nat) Nd (ndA false) x ∧ AV.sl true (0 : Nat) (2 : Nat) Gr (grA true) (i.snd.fst ++ zs) = AV.sl true (0 : Nat) (2 : Nat) Gr (grA true) i'.snd.fst ∧ i'.snd.snd = [] ∧ AV.sl false (0 : Nat) (1 : Nat) Int intA (fileKids x) = AV.sl false (0 : Nat) (1 : Nat) Int intA (fileKids x) ∧ (↑(List.length (fileKids x)) : Int) = (↑(List.length (fileKids x)) : Int) ∧ i.fst + (1 : Int) = i'.fst ∧ True) ∧ True)) (bcase (decide ((↑(List.length i.snd.snd) : Int) > (0 : Int))) (∃ (x_2 : Gr), AV.sl true (0 : Nat) (1 : Nat) Int intA i.snd.snd = AV.sl true (0 : Nat) (1 : Nat) Int intA x_2.notes ∧ (-1 : Int) = x_2.member ∧ ∃ (zs : List Gr), AV.sl true (0 : Nat) (2 : Nat) Gr (grA true) [x_2] = AV.sl true (0 : Nat) (2 : Nat) Gr (grA true) zs ∧ leafy (grA true) ∧ room (List.length i.snd.fst + List.length zs) (32 : Nat) ∧ ∃ (y : Unit), True ∧ AV.sl true (0 : Nat) (2 : Nat) Gr (grA true) (i.snd.fst ++ zs) = AV.sl true (0 : Nat) (2 : Nat) Gr (grA true) (groupsOf x) ∧ True) (∃ (y : Unit), True ∧ AV.sl true (0 : Nat) (2 : Nat) Gr (grA true) i.snd.fst = AV.sl true (0 : Nat) (2 : Nat) Gr (grA true) (groupsOf x) ∧ True)))) := by kernel_rfl
theorem iGroupsOf_ok  : Contract G Tryd.prog 17 s_iGroupsOf :=
  vcFun_ok (Γ := Γof [(38, 0, s_iTreeOk)]) (E := Eof [(39, ⟨Int,intA⟩), (33, ⟨Gr,grA true⟩)]) (ov := false) (L := fun x => Lof ([(6,lGr x)])) Tryd.func17 rfl (by decide) (Γof_ok (l := [(38, 0, s_iTreeOk)]) ⟨iTreeOk_ok, trivial⟩) fun (x : List Nd) (hx : okNds x ∧ x.length ≤ 2 ^ 30) => (iGroupsOf_vc  x).mpr (by
  obtain ⟨h1, h2⟩ := hx; have hl := h1.1
  (repeat' first | with_reducible rfl | exact True.intro | refine inR_i64 ?_ ?_ | with_reducible refine And.intro ?_ ?_ | with_reducible refine bcase_dec (fun _ => ?_) (fun _ => ?_) | with_reducible refine bcase_bne (fun _ => ?_) (fun _ => ?_) | with_reducible refine bcase_beq (fun _ => ?_) (fun _ => ?_) | with_reducible refine bcase_not (fun _ => ?_) (fun _ => ?_) | refine bcase_intro (fun _ => ?_) (fun _ => ?_) | refine sl_eq ?_ | refine ex_flip () ?_ ?_ | (apply ex_flip6 <;> try dsimp only) | (apply ex_flip5 <;> try dsimp only) | (apply ex_flip4 <;> try dsimp only) | (apply ex_flip3 <;> try dsimp only) | (apply ex_flip2 <;> try dsimp only) | apply ex_flip | (refine Prod.forall.2 ?_; intro _; try dsimp only) | (intro _; try dsimp only))
  all_goals first
    | rfl
    | exact h1
    | exact h2
    | exact gI_init (by assumption)
    | exact gI_none (by assumption)
    | (symm; exact gI_none (by assumption))
    | (rw [fileKids, ndAt_of (by assumption)]; done)
    | ((try simp only [i64max]); omega)
    | exact gI_note (by assumption) (by assumption) (by assumption) (by assumption) (by assumption)
    | exact gI_mem (by assumption) (by assumption) (by assumption) (by assumption) (by assumption)
    | exact gI_end1 (by assumption) (by assumption) (by assumption)
    | exact gI_end2 (by assumption) (by assumption) (by assumption)
    | exact (gI_kid (by assumption) (by assumption)).1
    | exact (gI_kid (by assumption) (by assumption)).2
    | (have ht0 := treeOk_last (show treeOk x = true by assumption); (try simp only [i64max]); omega)
    | (have hg := gI_len (by assumption); (try simp only [i64max, room, List.length_cons, List.length_nil]); omega)
    | skip
  all_goals try rfl)

def lSGrC (x : List Nd) (i : Int) : LS := {
  ι := List Gr × List Int, inv := fun o => gI x (i + 1) o.1 o.2,
  regs := fun o => [(0, nds x), (3, ogrs o.1), (4, .box 0 [oints o.2, .int .i64 (-1)]), (5, ints (fileKids x)), (6, .int .i64 i)], als := [], meas := fun _ => 0 }
def lSGr (x : List Nd) : LS := {
  ι := Int × List Gr × List Int, inv := fun i => gI x i.1 i.2.1 i.2.2,
  regs := fun i => [(0, nds x), (3, ogrs i.2.1), (4, .box 0 [oints i.2.2, .int .i64 (-1)]), (5, ints (fileKids x)), (6, .int .i64 i.1)], als := [], meas := fun i => (fileKids x).length - i.1.toNat, sub := fun i => [(100010, lSGrC x i.1)] }
def s_sGroupsOf  : Sig := { X := List Nd, args := fun x => [nds x], pre := fun x => okNds x ∧ x.length ≤ 2 ^ 30, Y := Unit, post := fun x y => True, res := fun x y => ogrs (groupsOf x), outs := fun x y => [.top], keep := false }
theorem sGroupsOf_vc (x : List Nd) : vcFun Go.Proofs.Tryd.prog (Γof [(37, 0, s_sTreeOk)]) (Eof [(39, ⟨Int,intA⟩), (33, ⟨Gr,grA true⟩)]) false (Lof ([(7,lSGr x)])) Go.Proofs.Tryd.f16.ntmps Go.Proofs.Tryd.f16.results.toList (Go.Proofs.Tryd.f16.body.getD .skip) s_sGroupsOf x = ((∀ (y : Unit), True → (∀ (x : Gr), (∀ (x : Int), True ∧ True) ∧ True ∧ True) ∧ True ∧ True) ∧ ∃ (x_1 : List Nd), (okNds x_1 ∧ List.length x_1 ≤ (1073741824 : Nat)) ∧ AV.sl false (0 : Nat) (4 : Nat) Nd (ndA false) x = AV.sl false (0 : Nat) (4 : Nat) Nd (ndA false) x_1 ∧ ∀ (y : Unit), True → bcase (!treeOk x_1) (∃ (y : Unit), True ∧ AV.sl true (0 : Nat) (2 : Nat) Gr (grA true) [] = AV.sl true (0 : Nat) (2 : Nat) Gr (grA true) (groupsOf x) ∧ True) (inR IntKind.i64 ((↑(List.length x) : Int) - (1 : Int)) ∧ ((0 : Int) ≤ (↑(List.length x) : Int) - (1 : Int) ∧ (↑(List.length x) : Int) - (1 : Int) < (↑(List.length x) : Int)) ∧ ∀ (e : Nd), x[Int.toNat ((↑(List.length x) : Int) - (1 : Int))]? = some e → (∃ (i : Int × List Gr × List Int), gI x i.fst i.snd.fst i.snd.snd ∧ (AV.sl false (0 : Nat) (4 : Nat) Nd (ndA false) x = AV.sl false (0 : Nat) (4 : Nat) Nd (ndA false) x ∧ AV.sl true (0 : Nat) (2 : Nat) Gr (grA true) [] = AV.sl true (0 : Nat) (2 : Nat) Gr (grA true) i.snd.fst ∧ AV.sl true (0 : Nat) (1 : Nat) Int intA [] = AV.sl true (0 : Nat) (1 : Nat) Int intA i.snd.snd ∧ (-1 : Int) = (-1 : Int) ∧ AV.sl false (0 : Nat) (1 : Nat) Int intA e.kids = AV.sl false (0 : Nat) (1 : Nat) Int intA (fileKids x) ∧ (0 : Int) = i.fst ∧ True) ∧ True) ∧ ∀ (i : Int × List Gr × List Int), gI x i.fst i.snd.fst i.snd.snd → bcase (decide (i.fst < (↑(List.length (fileKids x)) : Int))) (((0 : Int) ≤ i.fst ∧ i.fst < (↑(List.length (fileKids x)) : Int)) ∧ ∀ (e : Int), (fileKids x)[Int.toNat i.fst]? = some e → ((0 : Int) ≤ e ∧ e < (↑(List.length x) : Int)) ∧ ∀ (e_1 : Nd), x[Int.toNat e]? = some e_1 → bcase (e_1.kind == (19 : Int)) (true = true ∧ ((((((0 : Int) ≤ i.fst ∧ i.fst < (↑(List.length (fileKids x)) : Int)) ∧ ∀ (e : Int), (fileKids x)[Int.toNat i.fst]? = some e → ∃ (x_2 : Int), e = x_2 ∧ ∃ (zs : List Int), AV.sl true (0 : Nat) (1 : Nat) Int intA [x_2] = AV.sl true (0 : Nat) (1 : Nat) Int intA zs ∧ leafy intA ∧ room (List.length i.snd.snd + List.length zs) (8 : Nat) ∧ true = true ∧ ∃ (i_1 : List Gr × List Int), gI x (i.fst + (1 : Int)) i_1.fst i_1.snd ∧ (AV.sl false (0 : Nat) (4 : Nat) Nd (ndA false) x = AV.sl false (0 : Nat) (4 : Nat) Nd (ndA false) x ∧ AV.sl true (0 : Nat) (2 : Nat) Gr (grA true) i.snd.fst = AV.sl true (0 : Nat) (2 : Nat) Gr (grA true) i_1.fst ∧ AV.sl true (0 : Nat) (1 : Nat) Int intA (i.snd.snd ++ zs) = AV.sl true (0 : Nat) (1 : Nat) Int intA i_1.snd ∧ (-1 : Int) = (-1 : Int) ∧ AV.sl false (0 : Nat) (1 : Nat) Int intA (fileKids x) = AV.sl false (0 : Nat) (1 : Nat) Int intA (fileKids x) ∧ i.fst = i.fst ∧ True) ∧ True) ∧ ((0 : Int) ≤ i.fst ∧ i.fst < (↑(List.length (fileKids x)) : Int)) ∧ ∀ (e : Int), (fileKids x)[Int.toNat i.fst]? = some e → ∃ (x_2 : Int), e = x_2 ∧ ∃ (zs : List Int), AV.sl true (0 : Nat) (1 : Nat) Int intA [x_2] = AV.sl true (0 : Nat) (1 : Nat) Int intA zs ∧ leafy intA ∧ room (List.length i.snd.snd + List.length zs) (8 : Nat) ∧ true = true ∧ ∃ (i_1 : List Gr × List Int), gI x (i.fst + (1 : Int)) i_1.fst i_1.snd ∧ (AV.sl false (0 : Nat) (4 : Nat) Nd (ndA false) x = AV.sl false (0 : Nat) (4 : Nat) Nd (ndA false) x ∧ AV.sl true (0 : Nat) (2 : Nat) Gr (grA true) i.snd.fst = AV.sl true (0 : Nat) (2 : Nat) Gr (grA true) i_1.fst ∧ AV.sl true (0 : Nat) (1 : Nat) Int intA (i.snd.snd ++ zs) = AV.sl true (0 : Nat) (1 : Nat) Int intA i_1.snd ∧ (-1 : Int) = (-1 : Int) ∧ AV.sl false (0 : Nat) (1 : Nat) Int intA (fileKids x) = AV.sl false (0 : Nat) (1 : Nat) Int intA (fileKids x) ∧ i.fst = i.fst ∧ True) ∧ True) ∧ ((((0 : Int) ≤ i.fst ∧ i.fst < (↑(List.length (fileKids x)) : Int)) ∧ ∀ (e : Int), (fileKids x)[Int.toNat i.fst]? = some e → ∃ (x_2 : Int), e = x_2 ∧ ∃ (zs : List Int), AV.sl true (0 : Nat) (1 : Nat) Int intA [x_2] = AV.sl true (0 : Nat) (1 : Nat) Int intA zs ∧ leafy intA ∧ room (List.length i.snd.snd + List.length zs) (8 : Nat) ∧ true = true ∧ ∃ (i_1 : List Gr × List Int), gI x (i.fst + (1 : Int)) i_1.fst i_1.snd ∧ (AV.sl false (0 : Nat) (4 : Nat) Nd (ndA false) x = AV.sl false (0 : Nat) (4 : Nat) Nd (ndA false) x ∧ AV.sl true (0 : Nat) (2 : Nat) Gr (grA true) i.snd.fst = AV.sl true (0 : Nat) (2 : Nat) Gr (grA true) i_1.fst ∧ AV.sl true (0 : Nat) (1 : Nat) Int intA (i.snd.snd ++ zs) = AV.sl true (0 : Nat) (1 : Nat) Int intA i_1.snd ∧ (-1 : Int) = (-1 : Int) ∧ AV.sl false (0 : Nat) (1 : Nat) Int intA (fileKids x) = AV.sl false (0 : Nat) (1 : Nat) Int intA (fileKids x) ∧ i.fst = i.fst ∧ True) ∧ True) ∧ (((0 : Int) ≤ i.fst ∧ i.fst < (↑(List.length (fileKids x)) : Int)) ∧ ∀ (e : Int), (fileKids x)[Int.toNat i.fst]? = some e → ∃ (x_2 : Int), e = x_2 ∧ ∃ (zs : List Int), AV.sl true (0 : Nat) (1 : Nat) Int intA [x_2] = AV.sl true (0 : Nat) (1 : Nat) Int intA zs ∧ leafy intA ∧ room (List.length i.snd.snd + List.length zs) (8 : Nat) ∧ true = true ∧ ∃ (i_1 : List Gr × List Int), gI x (i.fst + (1 : Int)) i_1.fst i_1.snd ∧ (AV.sl false (0 : Nat) (4 : Nat) Nd (ndA false) x = AV.sl false (0 : Nat) (4 : Nat) Nd (ndA false) x ∧ AV.sl true (0 : Nat) (2 : Nat) Gr (grA true) i.snd.fst = AV.sl true (0 : Nat) (2 : Nat) Gr (grA true) i_1.fst ∧ AV.sl true (0 : Nat) (1 : Nat) Int intA (i.snd.snd ++ zs) = AV.sl true (0 : Nat) (1 : Nat) Int intA i_1.snd ∧ (-1 : Int) = (-1 : Int) ∧ AV.sl false (0 : Nat) (1 : Nat) Int intA (fileKids x) = AV.sl false (0 : Nat) (1 : Nat) Int intA (fileKids x) ∧ i.fst = i.fst ∧ True) ∧ True) ∧ ((0 : Int) ≤ i.fst ∧ i.fst < (↑(List.length (fileKids x)) : Int)) ∧ ∀ (e : Int), (fileKids x)[Int.toNat i.fst]? = some e → (∃ (x_2 : Int), e = x_2 ∧ ∃ (zs : List Int), AV.sl true (0 : Nat) (1 : Nat) Int intA [x_2] = AV.sl true (0 : Nat) (1 : Nat) Int intA zs ∧ leafy intA ∧ room (List.length i.snd.snd + List.length zs) (8 : Nat) ∧ true = true ∧ ∃ (i_1 : List Gr × List Int), gI x (i.fst + (1 : Int)) i_1.fst i_1.snd ∧ (AV.sl false (0 : Nat) (4 : Nat) Nd (ndA false) x = AV.sl false (0 : Nat) (4 : Nat) Nd (ndA false) x ∧ AV.sl true (0 : Nat) (2 : Nat) Gr (grA true) i.snd.fst = AV.sl true (0 : Nat) (2 : Nat) Gr (grA true) i_1.fst ∧ AV.sl true (0 : Nat) (1 : Nat) Int intA (i.snd.snd ++ zs) = AV.sl true (0 : Nat) (1 : Nat) Int intA i_1.snd ∧ (-1 : Int) = (-1 : Int) ∧ AV.sl false (0 : Nat) (1 : Nat) Int intA (fileKids x) = AV.sl false (0 : Nat) (1 : Nat) Int intA (fileKids x) ∧ i.fst = i.fst ∧ True) ∧ True) ∧ (∃ (x_2 : Int), e = x_2 ∧ ∃ (zs : List Int), AV.sl true (0 : Nat) (1 : Nat) Int intA [x_2] = AV.sl true (0 : Nat) (1 : Nat) Int intA zs ∧ leafy intA ∧ room (List.length i.snd.snd + List.length zs) (8 : Nat) ∧ true = true ∧ ∃ (i_1 : List Gr × List Int), gI x (i.fst + (1 : Int)) i_1.fst i_1.snd ∧ (AV.sl false (0 : Nat) (4 : Nat) Nd (ndA false) x = AV.sl false (0 : Nat) (4 : Nat) Nd (ndA false) x ∧ AV.sl true (0 : Nat) (2 : Nat) Gr (grA true) i.snd.fst = AV.sl true (0 : Nat) (2 : Nat) Gr (grA true) i_1.fst ∧ AV.sl true (0 : Nat) (1 : Nat) Int intA (i.snd.snd ++ zs) = AV.sl true (0 : Nat) (1 : Nat) Int intA i_1.snd ∧ (-1 : Int) = (-1 : Int) ∧ AV.sl false (0 : Nat) (1 : Nat) Int intA (fileKids x) = AV.sl false (0 : Nat) (1 : Nat) Int intA (fileKids x) ∧ i.fst = i.fst ∧ True) ∧ True) ∧ ∃ (x_2 : Int), e = x_2 ∧ ∃ (zs : List Int), AV.sl true (0 : Nat) (1 : Nat) Int intA [x_2] = AV.sl true (0 : Nat) (1 : Nat) Int intA zs ∧ leafy intA ∧ room (List.length i.snd.snd + List.length zs) (8 : Nat) ∧ true = true ∧ ∃ (i_1 : List Gr × List Int), gI x (i.fst + (1 : Int)) i_1.fst i_1.snd ∧ (AV.sl false (0 : Nat) (4 : Nat) Nd (ndA false) x = AV.sl false (0 : Nat) (4 : Nat) Nd (ndA false) x ∧ AV.sl true (0 : Nat) (2 : Nat) Gr (grA true) i.snd.fst = AV.sl true (0 : Nat) (2 : Nat) Gr (grA true) i_1.fst ∧ AV.sl true (0 : Nat) (1 : Nat) Int intA (i.snd.snd ++ zs) = AV.sl true (0 : Nat) (1 : Nat) Int intA i_1.snd ∧ (-1 : Int) = (-1 : Int) ∧ AV.sl false (0 : Nat) (1 : Nat) Int intA (fileKids x) = AV.sl false (0 : Nat) (1 : Nat) Int intA (fileKids x) ∧ i.fst = i.fst ∧ True) ∧ True) ∧ (((0 : Int) ≤ i.fst ∧ i.fst < (↑(List.length (fileKids x)) : Int)) ∧ ∀ (e : Int), (fileKids x)[Int.toNat i.fst]? = some e → ∃ (x_2 : Int), e = x_2 ∧ ∃ (zs : List Int), AV.sl true (0 : Nat) (1 : Nat) Int intA [x_2] = AV.sl true (0 : Nat) (1 : Nat) Int intA zs ∧ leafy intA ∧ room (List.length i.snd.snd + List.length zs) (8 : Nat) ∧ true = true ∧ ∃ (i_1 : List Gr × List Int), gI x (i.fst + (1 : Int)) i_1.fst i_1.snd ∧ (AV.sl false (0 : Nat) (4 : Nat) Nd (ndA false) x = AV.sl false (0 : Nat) (4 : Nat) Nd (ndA false) x ∧ AV.sl true (0 : Nat) (2 : Nat) Gr (grA true) i.snd.fst = AV.sl true (0 : Nat) (2 : Nat) Gr (grA true) i_1.fst ∧ AV.sl true (0 : Nat) (1 : Nat) Int intA (i.snd.snd ++ zs) = AV.sl true (0 : Nat) (1 : Nat) Int intA i_1.snd ∧ (-1 : Int) = (-1 : Int) ∧ AV.sl false (0 : Nat) (1 : Nat) Int intA (fileKids x) = AV.sl false (0 : Nat) (1 : Nat) Int intA (fileKids x) ∧ i.fst = i.fst ∧ True) ∧ True) ∧ (((0 : Int) ≤ i.fst ∧ i.fst < (↑(List.length (fileKids x)) : Int)) ∧ ∀ (e : Int), (fileKids x)[Int.toNat i.fst]? = some e → ∃ (x_2 : Int), e = x_2 ∧ ∃ (zs : List Int), AV.sl true (0 : Nat) (1 : Nat) Int intA [x_2] = AV.sl true (0 : Nat) (1 : Nat) Int intA zs ∧ leafy intA ∧ room (List.length i.snd.snd + List.length zs) (8 : Nat) ∧ true = true ∧ ∃ (i_1 : List Gr × List Int), gI x (i.fst + (1 : Int)) i_1.fst i_1.snd ∧ (AV.sl false (0 : Nat) (4 : Nat) Nd (ndA false) x = AV.sl false (0 : Nat) (4 : Nat) Nd (ndA false) x ∧ AV.sl true (0 : Nat) (2 : Nat) Gr (grA true) i.snd.fst = AV.sl true (0 : Nat) (2 : Nat) Gr (grA true) i_1.fst ∧ AV.sl true (0 : Nat) (1 : Nat) Int intA (i.snd.snd ++ zs) = AV.sl true (0 : Nat) (1 : Nat) Int intA i_1.snd ∧ (-1 : Int) = (-1 : Int) ∧ AV.sl false (0 : Nat) (1 : Nat) Int intA (fileKids x) = AV.sl false (0 : Nat) (1 : Nat) Int intA (fileKids x) ∧ i.fst = i.fst ∧ True) ∧ True) ∧ ((0 : Int) ≤ i.fst ∧ i.fst < (↑(List.length (fileKids x)) : Int)) ∧ ∀ (e : Int), (fileKids x)[Int.toNat i.fst]? = some e → (∃ (x_2 : Int), e = x_2 ∧ ∃ (zs : List Int), AV.sl true (0 : Nat) (1 : Nat) Int intA [x_2] = AV.sl true (0 : Nat) (1 : Nat) Int intA zs ∧ leafy intA ∧ room (List.length i.snd.snd + List.length zs) (8 : Nat) ∧ true = true ∧ ∃ (i_1 : List Gr × List Int), gI x (i.fst + (1 : Int)) i_1.fst i_1.snd ∧ (AV.sl false (0 : Nat) (4 : Nat) Nd (ndA false) x = AV.sl false (0 : Nat) (4 : Nat) Nd (ndA false) x ∧ AV.sl true (0 : Nat) (2 : Nat) Gr (grA true) i.snd.fst = AV.sl true (0 : Nat) (2 : Nat) Gr (grA true) i_1.fst ∧ AV.sl true (0 : Nat) (1 : Nat) Int intA (i.snd.snd ++ zs) = AV.sl true (0 : Nat) (1 : Nat) Int intA i_1.snd ∧ (-1 : Int) = (-1 : Int) ∧ AV.sl false (0 : Nat) (1 : Nat) Int intA (fileKids x) = AV.sl false (0 : Nat) (1 : Nat) Int intA (fileKids x) ∧ i.fst = i.fst ∧ True) ∧ True) ∧ (∃ (x_2 : Int), e = x_2 ∧ ∃ (zs : List Int), AV.sl true (0 : Nat) (1 : Nat) Int intA [x_2] = AV.sl true (0 : Nat) (1 : Nat) Int intA zs ∧ leafy intA ∧ room (List.length i.snd.snd + List.length zs) (8 : Nat) ∧ true = true ∧ ∃ (i_1 : List Gr × List Int), gI x (i.fst + (1 : Int)) i_1.fst i_1.snd ∧ (AV.sl false (0 : Nat) (4 : Nat) Nd (ndA false) x = AV.sl false (0 : Nat) (4 : Nat) Nd (ndA false) x ∧ AV.sl true (0 : Nat) (2 : Nat) Gr (grA true) i.snd.fst = AV.sl true (0 : Nat) (2 : Nat) Gr (grA true) i_1.fst ∧ AV.sl true (0 : Nat) (1 : Nat) Int intA (i.snd.snd ++ zs) = AV.sl true (0 : Nat) (1 : Nat) Int intA i_1.snd ∧ (-1 : Int) = (-1 : Int) ∧ AV.sl false (0 : Nat) (1 : Nat) Int intA (fileKids x) = AV.sl false (0 : Nat) (1 : Nat) Int intA (fileKids x) ∧ i.fst = i.fst ∧ True) ∧ True) ∧ ∃ (x_2 : Int), e = x_2 ∧ ∃ (zs : List Int), AV.sl true (0 : Nat) (1 : Nat) Int intA [x_2] = AV.sl true (0 : Nat) (1 : Nat) Int intA zs ∧ leafy intA ∧ room (List.length i.snd.snd + List.length zs) (8 : Nat) ∧ true = true ∧ ∃ (i_1 : List Gr × List Int), gI x (i.fst + (1 : Int)) i_1.fst i_1.snd ∧ (AV.sl false (0 : Nat) (4 : Nat) Nd (ndA false) x = AV.sl false (0 : Nat) (4 : Nat) Nd (ndA false) x ∧ AV.sl true (0 : Nat) (2 : Nat) Gr (grA true) i.snd.fst = AV.sl true (0 : Nat) (2 : Nat) Gr (grA true) i_1.fst ∧ AV.sl true (0 : Nat) (1 : Nat) Int intA (i.snd.snd ++ zs) = AV.sl true (0 : Nat) (1 : Nat) Int intA i_1.snd ∧ (-1 : Int) = (-1 : Int) ∧ AV.sl false (0 : Nat) (1 : Nat) Int intA (fileKids x) = AV.sl false (0 : Nat) (1 : Nat) Int intA (fileKids x) ∧ i.fst = i.fst ∧ True) ∧ True) ∧ (((((0 : Int) ≤ i.fst ∧ i.fst < (↑(List.length (fileKids x)) : Int)) ∧ ∀ (e : Int), (fileKids x)[Int.toNat i.fst]? = some e → ∃ (x_2 : Int), e = x_2 ∧ ∃ (zs : List Int), AV.sl true (0 : Nat) (1 : Nat) Int intA [x_2] = AV.sl true (0 : Nat) (1 : Nat) Int intA zs ∧ leafy intA ∧ room (List.length i.snd.snd + List.length zs) (8 : Nat) ∧ true = true ∧ ∃ (i_1 : List Gr × List Int), gI x (i.fst + (1 : Int)) i_1.fst i_1.snd ∧ (AV.sl false (0 : Nat) (4 : Nat) Nd (ndA false) x = AV.sl false (0 : Nat) (4 : Nat) Nd (ndA false) x ∧ AV.sl true (0 : Nat) (2 : Nat) Gr (grA true) i.snd.fst = AV.sl true (0 : Nat) (2 : Nat) Gr (grA true) i_1.fst ∧ AV.sl true (0 : Nat) (1 : Nat) Int intA (i.snd.snd ++ zs) = AV.sl true (0 : Nat) (1 : Nat) Int intA i_1.snd ∧ (-1 : Int) = (-1 : Int) ∧ AV.sl false (0 : Nat) (1 : Nat) Int intA (fileKids x) = AV.sl false (0 : Nat) (1 : Nat) Int intA (fileKids x) ∧ i.fst = i.fst ∧ True) ∧ True) ∧ (((0 : Int) ≤ i.fst ∧ i.fst < (↑(List.length (fileKids x)) : Int)) ∧ ∀ (e : Int), (fileKids x)[Int.toNat i.fst]? = some e → ∃ (x_2 : Int), e = x_2 ∧ ∃ (zs : List Int), AV.sl true (0 : Nat) (1 : Nat) Int intA [x_2] = AV.sl true (0 : Nat) (1 : Nat) Int intA zs ∧ leafy intA ∧ room (List.length i.snd.snd + List.length zs) (8 : Nat) ∧ true = true ∧ ∃ (i_1 : List Gr × List Int), gI x (i.fst + (1 : Int)) i_1.fst i_1.snd ∧ (AV.sl false (0 : Nat) (4 : Nat) Nd (ndA false) x = AV.sl false (0 : Nat) (4 : Nat) Nd (ndA false) x ∧ AV.sl true (0 : Nat) (2 : Nat) Gr (grA true) i.snd.fst = AV.sl true (0 : Nat) (2 : Nat) Gr (grA true) i_1.fst ∧ AV.sl true (0 : Nat) (1 : Nat) Int intA (i.snd.snd ++ zs) = AV.sl true (0 : Nat) (1 : Nat) Int intA i_1.snd ∧ (-1 : Int) = (-1 : Int) ∧ AV.sl false (0 : Nat) (1 : Nat) Int intA (fileKids x) = AV.sl false (0 : Nat) (1 : Nat) Int intA (fileKids x) ∧ i.fst = i.fst ∧ True) ∧ True) ∧ ((0 : Int) ≤ i.fst ∧ i.fst < (↑(List.length (fileKids x)) : Int)) ∧ ∀ (e : Int), (fileKids x)[Int.toNat i.fst]? = some e → (∃ (x_2 : Int), e = x_2 ∧ ∃ (zs : List Int), AV.sl true (0 : Nat) (1 : Nat) Int intA [x_2] = AV.sl true (0 : Nat) (1 : Nat) Int intA zs ∧ leafy intA ∧ room (List.length i.snd.snd + List.length zs) (8 : Nat) ∧ true = true ∧ ∃ (i_1 : List Gr × List Int), gI x (i.fst + (1 : Int)) i_1.fst i_1.snd ∧ (AV.sl false (0 : Nat) (4 : Nat) Nd (ndA false) x = AV.sl false (0 : Nat) (4 : Nat) Nd (ndA false) x ∧ AV.sl true (0 : Nat) (2 : Nat) Gr (grA true) i.snd.fst = AV.sl true (0 : Nat) (2 : Nat) Gr (grA true) i_1.fst ∧ AV.sl true (0 : Nat) (1 : Nat) Int intA (i.snd.snd ++ zs) = AV.sl true (0 : Nat) (1 : Nat) Int intA i_1.snd ∧ (-1 : Int) = (-1 : Int) ∧ AV.sl false (0 : Nat) (1 : Nat) Int intA (fileKids x) = AV.sl false (0 : Nat) (1 : Nat) Int intA (fileKids x) ∧ i.fst = i.fst ∧ True) ∧ True) ∧ (∃ (x_2 : Int), e = x_2 ∧ ∃ (zs : List Int), AV.sl true (0 : Nat) (1 : Nat) Int intA [x_2] = AV.sl true (0 : Nat) (1 : Nat) Int intA zs ∧ leafy intA ∧ room (List.length i.snd.snd + List.length zs) (8 : Nat) ∧ true = true ∧ ∃ (i_1 : List Gr × List Int), gI x (i.fst + (1 : Int)) i_1.fst i_1.snd ∧ (AV.sl false (0 : Nat) (4 : Nat) Nd (ndA false) x = AV.sl false (0 : Nat) (4 : Nat) Nd (ndA false) x ∧ AV.sl true (0 : Nat) (2 : Nat) Gr (grA true) i.snd.fst = AV.sl true (0 : Nat) (2 : Nat) Gr (grA true) i_1.fst ∧ AV.sl true (0 : Nat) (1 : Nat) Int intA (i.snd.snd ++ zs) = AV.sl true (0 : Nat) (1 : Nat) Int intA i_1.snd ∧ (-1 : Int) = (-1 : Int) ∧ AV.sl false (0 : Nat) (1 : Nat) Int intA (fileKids x) = AV.sl false (0 : Nat) (1 : Nat) Int intA (fileKids x) ∧ i.fst = i.fst ∧ True) ∧ True) ∧ ∃ (x_2 : Int), e = x_2 ∧ ∃ (zs : List Int), AV.sl true (0 : Nat) (1 : Nat) Int intA [x_2] = AV.sl true (0 : Nat) (1 : Nat) Int intA zs ∧ leafy intA ∧ room (List.length i.snd.snd + List.length zs) (8 : Nat) ∧ true = true ∧ ∃ (i_1 : List Gr × List Int), gI x (i.fst + (1 : Int)) i_1.fst i_1.snd ∧ (AV.sl false (0 : Nat) (4 : Nat) Nd (ndA false) x = AV.sl false (0 : Nat) (4 : Nat) Nd (ndA false) x ∧ AV.sl true (0 : Nat) (2 : Nat) Gr (grA true) i.snd.fst = AV.sl true (0 : Nat) (2 : Nat) Gr (grA true) i_1.fst ∧ AV.sl true (0 : Nat) (1 : Nat) Int intA (i.snd.snd ++ zs) = AV.sl true (0 : Nat) (1 : Nat) Int intA i_1.snd ∧ (-1 : Int) = (-1 : Int) ∧ AV.sl false (0 : Nat) (1 : Nat) Int intA (fileKids x) = AV.sl false (0 : Nat) (1 : Nat) Int intA (fileKids x) ∧ i.fst = i.fst ∧ True) ∧ True) ∧ ((((0 : Int) ≤ i.fst ∧ i.fst < (↑(List.length (fileKids x)) : Int)) ∧ ∀ (e : Int), (fileKids x)[Int.toNat i.fst]? = some e → ∃ (x_2 : Int), e = x_2 ∧ ∃ (zs : List Int), AV.sl true (0 : Nat) (1 : Nat) Int intA [x_2] = AV.sl true (0 : Nat) (1 : Nat) Int intA zs ∧ leafy intA ∧ room (List.length i.snd.snd + List.length zs) (8 : Nat) ∧ true = true ∧ ∃ (i_1 : List Gr × List Int), gI x (i.fst + (1 : Int)) i_1.fst i_1.snd ∧ (AV.sl false (0 : Nat) (4 : Nat) Nd (ndA false) x = AV.sl false (0 : Nat) (4 : Nat) Nd (ndA false) x ∧ AV.sl true (0 : Nat) (2 : Nat) Gr (grA true) i.snd.fst = AV.sl true (0 : Nat) (2 : Nat) Gr (grA true) i_1.fst ∧ AV.sl true (0 : Nat) (1 : Nat) Int intA (i.snd.snd ++ zs) = AV.sl true (0 : Nat) (1 : Nat) Int intA i_1.snd ∧ (-1 : Int) = (-1 : Int) ∧ AV.sl false (0 : Nat) (1 : Nat) Int intA (fileKids x) = AV.sl false (0 : Nat) (1 : Nat) Int intA (fileKids x) ∧ i.fst = i.fst ∧ True) ∧ True) ∧ ((0 : Int) ≤ i.fst ∧ i.fst < (↑(List.length (fileKids x)) : Int)) ∧ ∀ (e : Int), (fileKids x)[Int.toNat i.fst]? = some e → (∃ (x_2 : Int), e = x_2 ∧ ∃ (zs : List Int), AV.sl true (0 : Nat) (1 : Nat) Int intA [x_2] = AV.sl true (0 : Nat) (1 : Nat) Int intA zs ∧ leafy intA ∧ room (List.length i.snd.snd + List.length zs) (8 : Nat) ∧ true = true ∧ ∃ (i_1 : List Gr × List Int), gI x (i.fst + (1 : Int)) i_1.fst i_1.snd ∧ (AV.sl false (0 : Nat) (4 : Nat) Nd (ndA false) x = AV.sl false (0 : Nat) (4 : Nat) Nd (ndA false) x ∧ AV.sl true (0 : Nat) (2 : Nat) Gr (grA true) i.snd.fst = AV.sl true (0 : Nat) (2 : Nat) Gr (grA true) i_1.fst ∧ AV.sl true (0 : Nat) (1 : Nat) Int intA (i.snd.snd ++ zs) = AV.sl true (0 : Nat) (1 : Nat) Int intA i_1.snd ∧ (-1 : Int) = (-1 : Int) ∧ AV.sl false (0 : Nat) (1 : Nat) Int intA (fileKids x) = AV.sl false (0 : Nat) (1 : Nat) Int intA (fileKids x) ∧ i.fst = i.fst ∧ True) ∧ True) ∧ (∃ (x_2 : Int), e = x_2 ∧ ∃ (zs : List Int), AV.sl true (0 : Nat) (1 : Nat) Int intA [x_2] = AV.sl true (0 : Nat) (1 : Nat) Int intA zs ∧ leafy intA ∧ room (List.length i.snd.snd + List.length zs) (8 : Nat) ∧ true = true ∧ ∃ (i_1 : List Gr × List Int), gI x (i.fst + (1 : Int)) i_1.fst i_1.snd ∧ (AV.sl false (0 : Nat) (4 : Nat) Nd (ndA false) x = AV.sl false (0 : Nat) (4 : Nat) Nd (ndA false) x ∧ AV.sl true (0 : Nat) (2 : Nat) Gr (grA true) i.snd.fst = AV.sl true (0 : Nat) (2 : Nat) Gr (grA true) i_1.fst ∧ AV.sl true (0 : Nat) (1 : Nat) Int intA (i.snd.snd ++ zs) = AV.sl true (0 : Nat) (1 : Nat) Int intA i_1.snd ∧ (-1 : Int) = (-1 : Int) ∧ AV.sl false (0 : Nat) (1 : Nat) Int intA (fileKids x) = AV.sl false (0 : Nat) (1 : Nat) Int intA (fileKids x) ∧ i.fst = i.fst ∧ True) ∧ True) ∧ ∃ (x_2 : Int), e = x_2 ∧ ∃ (zs : List Int), AV.sl true (0 : Nat) (1 : Nat) Int intA [x_2] = AV.sl true (0 : Nat) (1 : Nat) Int intA zs ∧ leafy intA ∧ room (List.length i.snd.snd + List.length zs) (8 : Nat) ∧ true = true ∧ ∃ (i_1 : List Gr × List Int), gI x (i.fst + (1 : Int)) i_1.fst i_1.snd ∧ (AV.sl false (0 : Nat) (4 : Nat) Nd (ndA false) x = AV.sl false (0 : Nat) (4 : Nat) Nd (ndA false) x ∧ AV.sl true (0 : Nat) (2 : Nat) Gr (grA true) i.snd.fst = AV.sl true (0 : Nat) (2 : Nat) Gr (grA true) i_1.fst ∧ AV.sl true (0 : Nat) (1 : Nat) Int intA (i.snd.snd ++ zs) = AV.sl true (0 : Nat) (1 : Nat) Int intA i_1.snd ∧ (-1 : Int) = (-1 : Int) ∧ AV.sl false (0 : Nat) (1 : Nat) Int intA (fileKids x) = AV.sl false (0 : Nat) (1 : Nat) Int intA (fileKids x) ∧ i.fst = i.fst ∧ True) ∧ True) ∧ ((0 : Int) ≤ i.fst ∧ i.fst < (↑(List.length (fileKids x)) : Int)) ∧ ∀ (e : Int), (fileKids x)[Int.toNat i.fst]? = some e → ((∃ (x_2 : Int), e = x_2 ∧ ∃ (zs : List Int), AV.sl true (0 : Nat) (1 : Nat) Int intA [x_2] = AV.sl true (0 : Nat) (1 : Nat) Int intA zs ∧ leafy intA ∧ room (List.length i.snd.snd + List.length zs) (8 : Nat) ∧ true = true ∧ ∃ (i_1 : List Gr × List Int), gI x (i.fst + (1 : Int)) i_1.fst i_1.snd ∧ (AV.sl false (0 : Nat) (4 : Nat) Nd (ndA false) x = AV.sl false (0 : Nat) (4 : Nat) Nd (ndA false) x ∧ AV.sl true (0 : Nat) (2 : Nat) Gr (grA true) i.snd.fst = AV.sl true (0 : Nat) (2 : Nat) Gr (grA true) i_1.fst ∧ AV.sl true (0 : Nat) (1 : Nat) Int intA (i.snd.snd ++ zs) = AV.sl true (0 : Nat) (1 : Nat) Int intA i_1.snd ∧ (-1 : Int) = (-1 : Int) ∧ AV.sl false (0 : Nat) (1 : Nat) Int intA (fileKids x) = AV.sl false (0 : Nat) (1 : Nat) Int intA (fileKids x) ∧ i.fst = i.fst ∧ True) ∧ True) ∧ (∃ (x_2 : Int), e = x_2 ∧ ∃ (zs : List Int), AV.sl true (0 : Nat) (1 : Nat) Int intA [x_2] = AV.sl true (0 : Nat) (1 : Nat) Int intA zs ∧ leafy intA ∧ room (List.length i.snd.snd + List.length zs) (8 : Nat) ∧ true = true ∧ ∃ (i_1 : List Gr × List Int), gI x (i.fst + (1 : Int)) i_1.fst i_1.snd ∧ (AV.sl false (0 : Nat) (4 : Nat) Nd (ndA false) x = AV.sl false (0 : Nat) (4 : Nat) Nd (ndA false) x ∧ AV.sl true (0 : Nat) (2 : Nat) Gr (grA true) i.snd.fst = AV.sl true (0 : Nat) (2 : Nat) Gr (grA true) i_1.fst ∧ AV.sl true (0 : Nat) (1 : Nat) Int intA (i.snd.snd ++ zs) = AV.sl true (0 : Nat) (1 : Nat) Int intA i_1.snd ∧ (-1 : Int) = (-1 : Int) ∧ AV.sl false (0 : Nat) (1 : Nat) Int intA (fileKids x) = AV.sl false (0 : Nat) (1 : Nat) Int intA (fileKids x) ∧ i.fst = i.fst ∧ True) ∧ True) ∧ ∃ (x_2 : Int), e = x_2 ∧ ∃ (zs : List Int), AV.sl true (0 : Nat) (1 : Nat) Int intA [x_2] = AV.sl true (0 : Nat) (1 : Nat) Int intA zs ∧ leafy intA ∧ room (List.length i.snd.snd + List.length zs) (8 : Nat) ∧ true = true ∧ ∃ (i_1 : List Gr × List Int), gI x (i.fst + (1 : Int)) i_1.fst i_1.snd ∧ (AV.sl false (0 : Nat) (4 : Nat) Nd (ndA false) x = AV.sl false (0 : Nat) (4 : Nat) Nd (ndA false) x ∧ AV.sl true (0 : Nat) (2 : Nat) Gr (grA true) i.snd.fst = AV.sl true (0 : Nat) (2 : Nat) Gr (grA true) i_1.fst ∧ AV.sl true (0 : Nat) (1 : Nat) Int intA (i.snd.snd ++ zs) = AV.sl true (0 : Nat) (1 : Nat) Int intA i_1.snd ∧ (-1 : Int) = (-1 : Int) ∧ AV.sl false (0 : Nat) (1 : Nat) Int intA (fileKids x) = AV.sl false (0 : Nat) (1 : Nat) Int intA (fileKids x) ∧ i.fst = i.fst ∧ True) ∧ True) ∧ ((∃ (x_2 : Int), e = x_2 ∧ ∃ (zs : List Int), AV.sl true (0 : Nat) (1 : Nat) Int intA [x_2] = AV.sl true (0 : Nat) (1 : Nat) Int intA zs ∧ leafy intA ∧ room (List.length i.snd.snd + List.length zs) (8 : Nat) ∧ true = true ∧ ∃ (i_1 : List Gr × List Int), gI x (i.fst + (1 : Int)) i_1.fst i_1.snd ∧ (AV.sl false (0 : Nat) (4 : Nat) Nd (ndA false) x = AV.sl false (0 : Nat) (4 : Nat) Nd (ndA false) x ∧ AV.sl true (0 : Nat) (2 : Nat) Gr (grA true) i.snd.fst = AV.sl true (0 : Nat) (2 : Nat) Gr (grA true) i_1.fst ∧ AV.sl true (0 : Nat) (1 : Nat) Int intA (i.snd.snd ++ zs) = AV.sl true (0 : Nat) (1 : Nat) Int intA i_1.snd ∧ (-1 : Int) = (-1 : Int) ∧ AV.sl false (0 : Nat) (1 : Nat) Int intA (fileKids x) = AV.sl false (0 : Nat) (1 : Nat) Int intA (fileKids x) ∧ i.fst = i.fst ∧ True) ∧ True) ∧ ∃ (x_2 : Int), e = x_2 ∧ ∃ (zs : List Int), AV.sl true (0 : Nat) (1 : Nat) Int intA [x_2] = AV.sl true (0 : Nat) (1 : Nat) Int intA zs ∧ leafy intA ∧ room (List.length i.snd.snd + List.length zs) (8 : Nat) ∧ true = true ∧ ∃ (i_1 : List Gr × List Int), gI x (i.fst + (1 : Int)) i_1.fst i_1.snd ∧ (AV.sl false (0 : Nat) (4 : Nat) Nd (ndA false) x = AV.sl false (0 : Nat) (4 : Nat) Nd (ndA false) x ∧ AV.sl true (0 : Nat) (2 : Nat) Gr (grA true) i.snd.fst = AV.sl true (0 : Nat) (2 : Nat) Gr (grA true) i_1.fst ∧ AV.sl true (0 : Nat) (1 : Nat) Int intA (i.snd.snd ++ zs) = AV.sl true (0 : Nat) (1 : Nat) Int intA i_1.snd ∧ (-1 : Int) = (-1 : Int) ∧ AV.sl false (0 : Nat) (1 : Nat) Int intA (fileKids x) = AV.sl false (0 : Nat) (1 : Nat) Int intA (fileKids x) ∧ i.fst = i.fst ∧ True) ∧ True) ∧ ∃ (x_2 : Int), e = x_2 ∧ ∃ (zs : List Int), AV.sl true (0 : Nat) (1 : Nat) Int intA [x_2] = AV.sl true (0 : Nat) (1 : Nat) Int intA zs ∧ leafy intA ∧ room (List.length i.snd.snd + List.length zs) (8 : Nat) ∧ true = true ∧ ∃ (i_1 : List Gr × List Int), gI x (i.fst + (1 : Int)) i_1.fst i_1.snd ∧ (AV.sl false (0 : Nat) (4 : Nat) Nd (ndA false) x = AV.sl false (0 : Nat) (4 : Nat) Nd (ndA false) x ∧ AV.sl true (0 : Nat) (2 : Nat) Gr (grA true) i.snd.fst = AV.sl true (0 : Nat) (2 : Nat) Gr (grA true) i_1.fst ∧ AV.sl true (0 : Nat) (1 : Nat) Int intA (i.snd.snd ++ zs) = AV.sl true (0 : Nat) (1 : Nat) Int intA i_1.snd ∧ (-1 : Int) = (-1 : Int) ∧ AV.sl false (0 : Nat) (1 : Nat) Int intA (fileKids x) = AV.sl false (0 : Nat) (1 : Nat) Int intA (fileKids x) ∧ i.fst = i.fst ∧ True) ∧ True) ∧ ((((0 : Int) ≤ i.fst ∧ i.fst < (↑(List.length (fileKids x)) : Int)) ∧ ∀ (e : Int), (fileKids x)[Int.toNat i.fst]? = some e → ∃ (x_2 : Int), e = x_2 ∧ ∃ (zs : List Int), AV.sl true (0 : Nat) (1 : Nat) Int intA [x_2] = AV.sl true (0 : Nat) (1 : Nat) Int intA zs ∧ leafy intA ∧ room (List.length i.snd.snd + List.length zs) (8 : Nat) ∧ true = true ∧ ∃ (i_1 : List Gr × List Int), gI x (i.fst + (1 : Int)) i_1.fst i_1.snd ∧ (AV.sl false (0 : Nat) (4 : Nat) Nd (ndA false) x = AV.sl false (0 : Nat) (4 : Nat) Nd (ndA false) x ∧ AV.sl true (0 : Nat) (2 : Nat) Gr (grA true) i.snd.fst = AV.sl true (0 : Nat) (2 : Nat) Gr (grA true) i_1.fst ∧ AV.sl true (0 : Nat) (1 : Nat) Int intA (i.snd.snd ++ zs) = AV.sl true (0 : Nat) (1 : Nat) Int intA i_1.snd ∧ (-1 : Int) = (-1 : Int) ∧ AV.sl false (0 : Nat) (1 : Nat) Int intA (fileKids x) = AV.sl false (0 : Nat) (1 : Nat) Int intA (fileKids x) ∧ i.fst = i.fst ∧ True) ∧ True) ∧ (((0 : Int) ≤ i.fst ∧ i.fst < (↑(List.length (fileKids x)) : Int)) ∧ ∀ (e : Int), (fileKids x)[Int.toNat i.fst]? = some e → ∃ (x_2 : Int), e = x_2 ∧ ∃ (zs : List Int), AV.sl true (0 : Nat) (1 : Nat) Int intA [x_2] = AV.sl true (0 : Nat) (1 : Nat) Int intA zs ∧ leafy intA ∧ room (List.length i.snd.snd + List.length zs) (8 : Nat) ∧ true = true ∧ ∃ (i_1 : List Gr × List Int), gI x (i.fst + (1 : Int)) i_1.fst i_1.snd ∧ (AV.sl false (0 : Nat) (4 : Nat) Nd (ndA false) x = AV.sl false (0 : Nat) (4 : Nat) Nd (ndA false) x ∧ AV.sl true (0 : Nat) (2 : Nat) Gr (grA true) i.snd.fst = AV.sl true (0 : Nat) (2 : Nat) Gr (grA true) i_1.fst ∧ AV.sl true (0 : Nat) (1 : Nat) Int intA (i.snd.snd ++ zs) = AV.sl true (0 : Nat) (1 : Nat) Int intA i_1.snd ∧ (-1 : Int) = (-1 : Int) ∧ AV.sl false (0 : Nat) (1 : Nat) Int intA (fileKids x) = AV.sl false (0 : Nat) (1 : Nat) Int intA (fileKids x) ∧ i.fst = i.fst ∧ True) ∧ True) ∧ ((0 : Int) ≤ i.fst ∧ i.fst < (↑(List.length (fileKids x)) : Int)) ∧ ∀ (e : Int), (fileKids x)[Int.toNat i.fst]? = some e → (∃ (x_2 : Int), e = x_2 ∧ ∃ (zs : List Int), AV.sl true (0 : Nat) (1 : Nat) Int intA [x_2] = AV.sl true (0 : Nat) (1 : Nat) Int intA zs ∧ leafy intA ∧ room (List.length i.snd.snd + List.length zs) (8 : Nat) ∧ true = true ∧ ∃ (i_1 : List Gr × List Int), gI x (i.fst + (1 : Int)) i_1.fst i_1.snd ∧ (AV.sl false (0 : Nat) (4 : Nat) Nd (ndA false) x = AV.sl false (0 : Nat) (4 : Nat) Nd (ndA false) x ∧ AV.sl true (0 : Nat) (2 : Nat) Gr (grA true) i.snd.fst = AV.sl true (0 : Nat) (2 : Nat) Gr (grA true) i_1.fst ∧ AV.sl true (0 : Nat) (1 : Nat) Int intA (i.snd.snd ++ zs) = AV.sl true (0 : Nat) (1 : Nat) Int intA i_1.snd ∧ (-1 : Int) = (-1 : Int) ∧ AV.sl false (0 : Nat) (1 : Nat) Int intA (fileKids x) = AV.sl false (0 : Nat) (1 : Nat) Int intA (fileKids x) ∧ i.fst = i.fst ∧ True) ∧ True) ∧ (∃ (x_2 : Int), e = x_2 ∧ ∃ (zs : List Int), AV.sl true (0 : Nat) (1 : Nat) Int intA [x_2] = AV.sl true (0 : Nat) (1 : Nat) Int intA zs ∧ leafy intA ∧ room (List.length i.snd.snd + List.length zs) (8 : Nat) ∧ true = true ∧ ∃ (i_1 : List Gr × List Int), gI x (i.fst + (1 : Int)) i_1.fst i_1.snd ∧ (AV.sl false (0 : Nat) (4 : Nat) Nd (ndA false) x = AV.sl false (0 : Nat) (4 : Nat) Nd (ndA false) x ∧ AV.sl true (0 : Nat) (2 : Nat) Gr (grA true) i.snd.fst = AV.sl true (0 : Nat) (2 : Nat) Gr (grA true) i_1.fst ∧ AV.sl true (0 : Nat) (1 : Nat) Int intA (i.snd.snd ++ zs) = AV.sl true (0 : Nat) (1 : Nat) Int intA i_1.snd ∧ (-1 : Int) = (-1 : Int) ∧ AV.sl false (0 : Nat) (1 : Nat) Int intA (fileKids x) = AV.sl false (0 : Nat) (1 : Nat) Int intA (fileKids x) ∧ i.fst = i.fst ∧ True) ∧ True) ∧ ∃ (x_2 : Int), e = x_2 ∧ ∃ (zs : List Int), AV.sl true (0 : Nat) (1 : Nat) Int intA [x_2] = AV.sl true (0 : Nat) (1 : Nat) Int intA zs ∧ leafy intA ∧ room (List.length i.snd.snd + List.length zs) (8 : Nat) ∧ true = true ∧ ∃ (i_1 : List Gr × List Int), gI x (i.fst + (1 : Int)) i_1.fst i_1.snd ∧ (AV.sl false (0 : Nat) (4 : Nat) Nd (ndA false) x = AV.sl false (0 : Nat) (4 : Nat) Nd (ndA false) x ∧ AV.sl true (0 : Nat) (2 : Nat) Gr (grA true) i.snd.fst = AV.sl true (0 : Nat) (2 : Nat) Gr (grA true) i_1.fst ∧ AV.sl true (0 : Nat) (1 : Nat) Int intA (i.snd.snd ++ zs) = AV.sl true (0 : Nat) (1 : Nat) Int intA i_1.snd ∧ (-1 : Int) = (-1 : Int) ∧ AV.sl false (0 : Nat) (1 : Nat) Int intA (fileKids x) = AV.sl false (0 : Nat) (1 : Nat) Int intA (fileKids x) ∧ i.fst = i.fst ∧ True) ∧ True) ∧ ((((0 : Int) ≤ i.fst ∧ i.fst < (↑(List.length (fileKids x)) : Int)) ∧ ∀ (e : Int), (fileKids x)[Int.toNat i.fst]? = some e → ∃ (x_2 : Int), e = x_2 ∧ ∃ (zs : List Int), AV.sl true (0 : Nat) (1 : Nat) Int intA [x_2] = AV.sl true (0 : Nat) (1 : Nat) Int intA zs ∧ leafy intA ∧ room (List.length i.snd.snd + List.length zs) (8 : Nat) ∧ true = true ∧ ∃ (i_1 : List Gr × List Int), gI x (i.fst + (1 : Int)) i_1.fst i_1.snd ∧ (AV.sl false (0 : Nat) (4 : Nat) Nd (ndA false) x = AV.sl false (0 : Nat) (4 : Nat) Nd (ndA false) x ∧ AV.sl true (0 : Nat) (2 : Nat) Gr (grA true) i.snd.fst = AV.sl true (0 : Nat) (2 : Nat) Gr (grA true) i_1.fst ∧ AV.sl true (0 : Nat) (1 : Nat) Int intA (i.snd.snd ++ zs) = AV.sl true (0 : Nat) (1 : Nat) Int intA i_1.snd ∧ (-1 : Int) = (-1 : Int) ∧ AV.sl false (0 : Nat) (1 : Nat) Int intA (fileKids x) = AV.sl false (0 : Nat) (1 : Nat) Int intA (fileKids x) ∧ i.fst = i.fst ∧ True) ∧ True) ∧ ((0 : Int) ≤ i.fst ∧ i.fst < (↑(List.length (fileKids x)) : Int)) ∧ ∀ (e : Int), (fileKids x)[Int.toNat i.fst]? = some e → (∃ (x_2 : Int), e = x_2 ∧ ∃ (zs : List Int), AV.sl true (0 : Nat) (1 : Nat) Int intA [x_2] = AV.sl true (0 : Nat) (1 : Nat) Int intA zs ∧ leafy intA ∧ room (List.length i.snd.snd + List.length zs) (8 : Nat) ∧ true = true ∧ ∃ (i_1 : List Gr × List Int), gI x (i.fst + (1 : Int)) i_1.fst i_1.snd ∧ (AV.sl false (0 : Nat) (4 : Nat) Nd (ndA false) x = AV.sl false (0 : Nat) (4 : Nat) Nd (ndA false) x ∧ AV.sl true (0 : Nat) (2 : Nat) Gr (grA true) i.snd.fst = AV.sl true (0 : Nat) (2 : Nat) Gr (grA true) i_1.fst ∧ AV.sl true (0 : Nat) (1 : Nat) Int intA (i.snd.snd ++ zs) = AV.sl true (0 : Nat) (1 : Nat) Int intA i_1.snd ∧ (-1 : Int) = (-1 : Int) ∧ AV.sl false (0 : Nat) (1 : Nat) Int intA (fileKids x) = AV.sl false (0 : Nat) (1 : Nat) Int intA (fileKids x) ∧ i.fst = i.fst ∧ True) ∧ True) ∧ (∃ (x_2 : Int), e = x_2 ∧ ∃ (zs : List Int), AV.sl true (0 : Nat) (1 : Nat) Int intA [x_2] = AV.sl true (0 : Nat) (1 : Nat) Int intA zs ∧ leafy intA ∧ room (List.length i.snd.snd + List.length zs) (8 : Nat) ∧ true = true ∧ ∃ (i_1 : List Gr × List Int), gI x (i.fst + (1 : Int)) i_1.fst i_1.snd ∧ (AV.sl false (0 : Nat) (4 : Nat) Nd (ndA false) x = AV.sl false (0 : Nat) (4 : Nat) Nd (ndA false) x ∧ AV.sl true (0 : Nat) (2 : Nat) Gr (grA true) i.snd.fst = AV.sl true (0 : Nat) (2 : Nat) Gr (grA true) i_1.fst ∧ AV.sl true (0 : Nat) (1 : Nat) Int intA (i.snd.snd ++ zs) = AV.sl true (0 : Nat) (1 : Nat) Int intA i_1.snd ∧ (-1 : Int) = (-1 : Int) ∧ AV.sl false (0 : Nat) (1 : Nat) Int intA (fileKids x) = AV.sl false (0 : Nat) (1 : Nat) Int intA (fileKids x) ∧ i.fst = i.fst ∧ True) ∧ True) ∧ ∃ (x_2 : Int), e = x_2 ∧ ∃ (zs : List Int), AV.sl true (0 : Nat) (1 : Nat) Int intA [x_2] = AV.sl true (0 : Nat) (1 : Nat) Int intA zs ∧ leafy intA ∧ room (List.length i.snd.snd + List.length zs) (8 : Nat) ∧ true = true ∧ ∃ (i_1 : List Gr × List Int), gI x (i.fst + (1 : Int)) i_1.fst i_1.snd ∧ (AV.sl false (0 : Nat) (4 : Nat) Nd (ndA false) x = AV.sl false (0 : Nat) (4 : Nat) Nd (ndA false) x ∧ AV.sl true (0 : Nat) (2 : Nat) Gr (grA true) i.snd.fst = AV.sl true (0 : Nat) (2 : Nat) Gr (grA true) i_1.fst ∧ AV.sl true (0 : Nat) (1 : Nat) Int intA (i.snd.snd ++ zs) = AV.sl true (0 : Nat) (1 : Nat) Int intA i_1.snd ∧ (-1 : Int) = (-1 : Int) ∧ AV.sl false (0 : Nat) (1 : Nat) Int intA (fileKids x) = AV.sl false (0 : Nat) (1 : Nat) Int intA (fileKids x) ∧ i.fst = i.fst ∧ True) ∧ True) ∧ ((0 : Int) ≤ i.fst ∧ i.fst < (↑(List.length (fileKids x)) : Int)) ∧ ∀ (e : Int), (fileKids x)[Int.toNat i.fst]? = some e → ((∃ (x_2 : Int), e = x_2 ∧ ∃ (zs : List Int), AV.sl true (0 : Nat) (1 : Nat) Int intA [x_2] = AV.sl true (0 : Nat) (1 : Nat) Int intA zs ∧ leafy intA ∧ room (List.length i.snd.snd + List.length zs) (8 : Nat) ∧ true = true ∧ ∃ (i_1 : List Gr × List Int), gI x (i.fst + (1 : Int)) i_1.fst i_1.snd ∧ (AV.sl false (0 : Nat) (4 : Nat) Nd (ndA false) x = AV.sl false (0 : Nat) (4 : Nat) Nd (ndA false) x ∧ AV.sl true (0 : Nat) (2 : Nat) Gr (grA true) i.snd.fst = AV.sl true (0 : Nat) (2 : Nat) Gr (grA true) i_1.fst ∧ AV.sl true (0 : Nat) (1 : Nat) Int intA (i.snd.snd ++ zs) = AV.sl true (0 : Nat) (1 : Nat) Int intA i_1.snd ∧ (-1 : Int) = (-1 : Int) ∧ AV.sl false (0 : Nat) (1 : Nat) Int intA (fileKids x) = AV.sl false (0 : Nat) (1 : Nat) Int intA (fileKids x) ∧ i.fst = i.fst ∧ True) ∧ True) ∧ (∃ (x_2 : Int), e = x_2 ∧ ∃ (zs : List Int), AV.sl true (0 : Nat) (1 : Nat) Int intA [x_2] = AV.sl true (0 : Nat) (1 : Nat) Int intA zs ∧ leafy intA ∧ room (List.length i.snd.snd + List.length zs) (8 : Nat) ∧ true = true ∧ ∃ (i_1 : List Gr × List Int), gI x (i.fst + (1 : Int)) i_1.fst i_1.snd ∧ (AV.sl false (0 : Nat) (4 : Nat) Nd (ndA false) x = AV.sl false (0 : Nat) (4 : Nat) Nd (ndA false) x ∧ AV.sl true (0 : Nat) (2 : Nat) Gr (grA true) i.snd.fst = AV.sl true (0 : Nat) (2 : Nat) Gr (grA true) i_1.fst ∧ AV.sl true (0 : Nat) (1 : Nat) Int intA (i.snd.snd ++ zs) = AV.sl true (0 : Nat) (1 : Nat) Int intA i_1.snd ∧ (-1 : Int) = (-1 : Int) ∧ AV.sl false (0 : Nat) (1 : Nat) Int intA (fileKids x) = AV.sl false (0 : Nat) (1 : Nat) Int intA (fileKids x) ∧ i.fst = i.fst ∧ True) ∧ True) ∧ ∃ (x_2 : Int), e = x_2 ∧ ∃ (zs : List Int), AV.sl true (0 : Nat) (1 : Nat) Int intA [x_2] = AV.sl true (0 : Nat) (1 : Nat) Int intA zs ∧ leafy intA ∧ room (List.length i.snd.snd + List.length zs) (8 : Nat) ∧ true = true ∧ ∃ (i_1 : List Gr × List Int), gI x (i.fst + (1 : Int)) i_1.fst i_1.snd ∧ (AV.sl false (0 : Nat) (4 : Nat) Nd (ndA false) x = AV.sl false (0 : Nat) (4 : Nat) Nd (ndA false) x ∧ AV.sl true (0 : Nat) (2 : Nat) Gr (grA true) i.snd.fst = AV.sl true (0 : Nat) (2 : Nat) Gr (grA true) i_1.fst ∧ AV.sl true (0 : Nat) (1 : Nat) Int intA (i.snd.snd ++ zs) = AV.sl true (0 : Nat) (1 : Nat) Int intA i_1.snd ∧ (-1 : Int) = (-1 : Int) ∧ AV.sl false (0 : Nat) (1 : Nat) Int intA (fileKids x) = AV.sl false (0 : Nat) (1 : Nat) Int intA (fileKids x) ∧ i.fst = i.fst ∧ True) ∧ True) ∧ ((∃ (x_2 : Int), e = x_2 ∧ ∃ (zs : List Int), AV.sl true (0 : Nat) (1 : Nat) Int intA [x_2] = AV.sl true (0 : Nat) (1 : Nat) Int intA zs ∧ leafy intA ∧ room (List.length i.snd.snd + List.length zs) (8 : Nat) ∧ true = true ∧ ∃ (i_1 : List Gr × List Int), gI x (i.fst + (1 : Int)) i_1.fst i_1.snd ∧ (AV.sl false (0 : Nat) (4 : Nat) Nd (ndA false) x = AV.sl false (0 : Nat) (4 : Nat) Nd (ndA false) x ∧ AV.sl true (0 : Nat) (2 : Nat) Gr (grA true) i.snd.fst = AV.sl true (0 : Nat) (2 : Nat) Gr (grA true) i_1.fst ∧ AV.sl true (0 : Nat) (1 : Nat) Int intA (i.snd.snd ++ zs) = AV.sl true (0 : Nat) (1 : Nat) Int intA i_1.snd ∧ (-1 : Int) = (-1 : Int) ∧ AV.sl false (0 : Nat) (1 : Nat) Int intA (fileKids x) = AV.sl false (0 : Nat) (1 : Nat) Int intA (fileKids x) ∧ i.fst = i.fst ∧ True) ∧ True) ∧ ∃ (x_2 : Int), e = x_2 ∧ ∃ (zs : List Int), AV.sl true (0 : Nat) (1 : Nat) Int intA [x_2] = AV.sl true (0 : Nat) (1 : Nat) Int intA zs ∧ leafy intA ∧ room (List.length i.snd.snd + List.length zs) (8 : Nat) ∧ true = true ∧ ∃ (i_1 : List Gr × List Int), gI x (i.fst + (1 : Int)) i_1.fst i_1.snd ∧ (AV.sl false (0 : Nat) (4 : Nat) Nd (ndA false) x = AV.sl false (0 : Nat) (4 : Nat) Nd (ndA false) x ∧ AV.sl true (0 : Nat) (2 : Nat) Gr (grA true) i.snd.fst = AV.sl true (0 : Nat) (2 : Nat) Gr (grA true) i_1.fst ∧ AV.sl true (0 : Nat) (1 : Nat) Int intA (i.snd.snd ++ zs) = AV.sl true (0 : Nat) (1 : Nat) Int intA i_1.snd ∧ (-1 : Int) = (-1 : Int) ∧ AV.sl false (0 : Nat) (1 : Nat) Int intA (fileKids x) = AV.sl false (0 : Nat) (1 : Nat) Int intA (fileKids x) ∧ i.fst = i.fst ∧ True) ∧ True) ∧ ∃ (x_2 : Int), e = x_2 ∧ ∃ (zs : List Int), AV.sl true (0 : Nat) (1 : Nat) Int intA [x_2] = AV.sl true (0 : Nat) (1 : Nat) Int intA zs ∧ leafy intA ∧ room (List.length i.snd.snd + List.length zs) (8 : Nat) ∧ true = true ∧ ∃ (i_1 : List Gr × List Int), gI x (i.fst + (1 : Int)) i_1.fst i_1.snd ∧ (AV.sl false (0 : Nat) (4 : Nat) Nd (ndA false) x = AV.sl false (0 : Nat) (4 : Nat) Nd (ndA false) x ∧ AV.sl true (0 : Nat) (2 : Nat) Gr (grA true) i.snd.fst = AV.sl true (0 : Nat) (2 : Nat) Gr (grA true) i_1.fst ∧ AV.sl true (0 : Nat) (1 : Nat) Int intA (i.snd.snd ++ zs) = AV.sl true (0 : Nat) (1 : Nat) Int intA i_1.snd ∧ (-1 : Int) = (-1 : Int) ∧ AV.sl false (0 : Nat) (1 : Nat) Int intA (fileKids x) = AV.sl false (0 : Nat) (1 : Nat) Int intA (fileKids x) ∧ i.fst = i.fst ∧ True) ∧ True) ∧ ∀ (i_1 : List Gr × List Int), gI x (i.fst + (1 : Int)) i_1.fst i_1.snd → inR IntKind.i64 (i.fst + (1 : Int)) ∧ ∃ (i' : Int × List Gr × List Int), gI x i'.fst i'.snd.fst i'.snd.snd ∧ List.length (fileKids x) - Int.toNat i'.fst < List.length (fileKids x) - Int.toNat i.fst ∧ (AV.sl false (0 : Nat) (4 : Nat) Nd (ndA false) x = AV.sl false (0 : Nat) (4 : Nat) Nd (ndA false) x ∧ AV.sl true (0 : Nat) (2 : Nat) Gr (grA true) i_1.fst = AV.sl true (0 : Nat) (2 : Nat) Gr (grA true) i'.snd.fst ∧ AV.sl true (0 : Nat) (1 : Nat) Int intA i_1.snd = AV.sl true (0 : Nat) (1 : Nat) Int intA i'.snd.snd ∧ (-1 : Int) = (-1 : Int) ∧ AV.sl false (0 : Nat) (1 : Nat) Int intA (fileKids x) = AV.sl false (0 : Nat) (1 : Nat) Int intA (fileKids x) ∧ i.fst + (1 : Int) = i'.fst ∧ True) ∧ True) (((0 : Int) ≤ i.fst ∧ i.fst < (↑(List.length (fileKids x)) : Int)) ∧ ∀ (e : Int), (fileKids x)[Int.toNat i.fst]? = some e → ∃ (x_2 : Gr), AV.sl true (0 : Nat) (1 : Nat) Int intA i.snd.snd = AV.sl true (0 : Nat) (1 : Nat) Int intA x_2.notes ∧ e = x_2.member ∧ ∃ (zs : List Gr), AV.sl true (0 : Nat) (2 : Nat) Gr (grA true) [x_2] = AV.sl true (0 : Nat) (2 : Nat) Gr (grA true) zs ∧ leafy (grA true) ∧ room (List.length i.snd.fst + List.length zs) (32 : Nat) ∧ inR IntKind.i64 (i.fst + (1 : Int)) ∧ ∃ (i' : Int × List Gr × List Int), gI x i'.fst i'.snd.fst i'.snd.snd ∧ List.length (fileKids x) - Int.toNat i'.fst < List.length (fileKids x) - Int.toNat i.fst ∧ (AV.sl false (0 : Nat) (4 : Nat) Nd (ndA false) x = AV.sl false (0 : Nat) (4 : Nat) Nd (ndA false) x ∧ AV.sl true (0 : Nat) (2 : Nat) Gr (grA true) (i.snd.fst ++ zs) = AV.sl true (0 : Nat) (2 : Nat) Gr (grA true) i'.snd.fst ∧ AV.sl true (0 : Nat) (1 : Nat) Int intA [] = AV.sl true (0 : Nat) (1 : Nat) Int intA i'.snd.snd ∧ (-1 : Int) = (-1 : Int) ∧ AV.sl false (0 : Nat) (1 : Nat) Int intA (fileKids x) = AV.sl false (0 : Nat) (1 : Nat) Int intA (fileKids x) ∧ i.fst + (1 : Int) = i'.fst ∧ True) ∧ True)) (bcase (decide ((↑(List.length i.snd.snd) : Int) > (0 : Int))) (∃ (x_2 : Gr), AV.sl true (0 : Nat) (1 : Nat) Int intA i.snd.snd = AV.sl true (0 : Nat) (1 : Nat) Int intA x_2.notes ∧ (-1 : Int) = x_2.member ∧ ∃ (zs : List Gr), AV.sl true (0 : Nat) (2 : Nat) Gr (grA true) [x_2] = AV.sl true (0 : Nat) (2 : Nat) Gr (grA true) zs ∧ leafy (grA true) ∧ room (List.length i.snd.fst + List.length zs) (32 : Nat) ∧ ∃ (y : Unit), True ∧ AV.sl true (0 : Nat) (2 : Nat) Gr (grA true) (i.snd.fst ++ zs) = AV.sl true (0 : Nat) (2 : Nat) Gr (grA true) (groupsOf x) ∧ True) (∃ (y : Unit), True ∧ AV.sl true (0 : Nat) (2 : Nat) Gr (grA true) i.snd.fst = AV.sl true (0 : Nat) (2 : Nat) Gr (grA true) (groupsOf x) ∧ True)))) := by kernel_rfl
theorem sGroupsOf_ok  : Contract G Tryd.prog 16 s_sGroupsOf :=
  vcFun_ok (Γ := Γof [(37, 0, s_sTreeOk)]) (E := Eof [(39, ⟨Int,intA⟩), (33, ⟨Gr,grA true⟩)]) (ov := false) (L := fun x => Lof ([(7,lSGr x)])) Tryd.func16 rfl (by decide) (Γof_ok (l := [(37, 0, s_sTreeOk)]) ⟨sTreeOk_ok, trivial⟩) fun (x : List Nd) (hx : okNds x ∧ x.length ≤ 2 ^ 30) => (sGroupsOf_vc  x).mpr (by
  obtain ⟨h1, h2⟩ := hx; have hl := h1.1
  (repeat' first | with_reducible rfl | exact True.intro | refine inR_i64 ?_ ?_ | with_reducible refine And.intro ?_ ?_ | with_reducible refine bcase_dec (fun _ => ?_) (fun _ => ?_) | with_reducible refine bcase_bne (fun _ => ?_) (fun _ => ?_) | with_reducible refine bcase_beq (fun _ => ?_) (fun _ => ?_) | with_reducible refine bcase_not (fun _ => ?_) (fun _ => ?_) | refine bcase_intro (fun _ => ?_) (fun _ => ?_) | refine sl_eq ?_ | refine ex_flip () ?_ ?_ | (apply ex_flip6 <;> try dsimp only) | (apply ex_flip5 <;> try dsimp only) | (apply ex_flip4 <;> try dsimp only) | (apply ex_flip3 <;> try dsimp only) | (apply ex_flip2 <;> try dsimp only) | apply ex_flip | (refine Prod.forall.2 ?_; intro _; try dsimp only) | (intro _; try dsimp only))
  all_goals first
    | rfl
    | exact h1
    | exact h2
    | exact gI_init (by assumption)
    | exact gI_none (by assumption)
    | (symm; exact gI_none (by assumption))
    | (rw [fileKids, ndAt_of (by assumption)]; done)
    | ((try simp only [i64max]); omega)
    | exact gI_note (by assumption) (by assumption) (by assumption) (by assumption) (by assumption)
    | exact gI_mem (by assumption) (by assumption) (by assumption) (by assumption) (by assumption)
    | exact gI_end1 (by assumption) (by assumption) (by assumption)
    | exact gI_end2 (by assumption) (by assumption) (by assumption)
    | exact (gI_kid (by assumption) (by assumption)).1
    | exact (gI_kid (by assumption) (by assumption)).2
    | (have ht0 := treeOk_last (show treeOk x = true by assumption); (try simp only [i64max]); omega)
    | (have hg := gI_len (by assumption); (try simp only [i64max, room, List.length_cons, List.length_nil]); omega)
    | (rename gI x (_ + 1) _ _ => q1; clear q1; have hg := gI_len (by assumption); omega)
    | skip
  all_goals try rfl)

end Go.My
end
section
/- Sorting, plainly: putting one behind the other into its place, from the left and from the right. -/
set_option linter.unusedVariables false
set_option linter.unusedSimpArgs false
namespace Go.My
open Go.Eng

abbrev bLt := Op.bytesLess
theorem bLt_asym : ∀ {a b : List UInt8}, bLt a b = true → bLt b a = false
  | _, [], h => by simp [bLt, Op.bytesLess] at h
  | [], _ :: _, _ => by simp [bLt, Op.bytesLess]
  | x :: a, y :: b, h => by
    have ih := @bLt_asym a b
    simp only [bLt, Op.bytesLess, Bool.or_eq_true, Bool.and_eq_true, decide_eq_true_eq, beq_iff_eq, Bool.or_eq_false_iff, Bool.and_eq_false_imp, decide_eq_false_iff_not, UInt8.lt_iff_toNat_lt] at h ih ⊢
    rcases h with h | ⟨rfl, h⟩
    · exact ⟨by omega, fun e => by subst e; omega⟩
    · exact ⟨by omega, fun _ => ih h⟩
theorem bLt_nt : ∀ {a b c : List UInt8}, bLt a c = true → bLt b c = false → bLt a b = true
  | _, _, [], h, _ => by simp [bLt, Op.bytesLess] at h
  | [], [], _ :: _, _, h => by simp [bLt, Op.bytesLess] at h
  | [], _ :: _, _ :: _, _, _ => by simp [bLt, Op.bytesLess]
  | _ :: _, [], _ :: _, _, h => by simp [bLt, Op.bytesLess] at h
  | x :: a, y :: b, z :: c, h1, h2 => by
    have ih := @bLt_nt a b c
    simp only [bLt, Op.bytesLess, Bool.or_eq_true, Bool.and_eq_true, decide_eq_true_eq, beq_iff_eq, Bool.or_eq_false_iff, Bool.and_eq_false_imp, decide_eq_false_iff_not, UInt8.lt_iff_toNat_lt, ← UInt8.toNat_inj] at h1 h2 ih ⊢
    obtain ⟨h2, h3⟩ := h2
    rcases h1 with h1 | ⟨h0, h1⟩
    · left; omega
    · by_cases e : y.toNat = z.toNat
      · exact .inr ⟨by omega, ih h1 (h3 e)⟩
      · left; omega
section
variable {α : Type} (lt : α → α → Bool)
def insS (e : α) : List α → List α
  | [] => [e]
  | x :: l => if lt e x then e :: x :: l else x :: insS e l
def isort (l : List α) : List α := l.foldl (fun out e => insS lt e out) []
def sortedL (l : List α) : Prop := ∀ (i j : Nat) (a b : α), i < j → l[i]? = some a → l[j]? = some b → lt b a = false
def asc (l : List α) : Bool := (List.range (l.length - 1)).all fun i => match l[i + 1]?, l[i]? with
  | some b, some a => !lt b a
  | _, _ => true
variable {lt}
theorem insS_len {e : α} : ∀ {l : List α}, (insS lt e l).length = l.length + 1
  | [] => rfl
  | x :: l => by unfold insS; split <;> simp [insS_len]
theorem isort_snoc {l : List α} {e : α} : isort lt (l ++ [e]) = insS lt e (isort lt l) := by simp [isort, List.foldl_append]
theorem isort_len {l : List α} : (isort lt l).length = l.length := by
  have : ∀ (l out : List α), (l.foldl (fun out e => insS lt e out) out).length = out.length + l.length := by
    intro l
    induction l with
    | nil => intro out; simp
    | cons e l ih => intro out; simp only [List.foldl_cons, ih, insS_len, List.length_cons]; omega
  simpa [isort] using this l []
/- from the left -/
theorem insS_take {e : α} : ∀ {l : List α} {j : Nat}, (∀ x ∈ l.take j, lt e x = false) → (∀ x, l[j]? = some x → lt e x = true) → insS lt e l = l.take j ++ e :: l.drop j
  | [], j, _, _ => by simp [insS]
  | x :: l, 0, _, h => by have := h x rfl; simp [insS, this]
  | x :: l, j + 1, h1, h2 => by
    have := h1 x (by simp)
    simp only [insS, this, Bool.false_eq_true, if_false, List.take_succ_cons, List.cons_append, List.drop_succ_cons]
    rw [insS_take (j := j) (fun y hy => h1 y (by simp [hy])) (fun y hy => h2 y (by simpa using hy))]
theorem insS_sorted (hnt : ∀ a b c : α, lt a c = true → lt b c = false → lt a b = true) (has : ∀ a b : α, lt a b = true → lt b a = false) {e : α} : ∀ {l : List α}, sortedL lt l → sortedL lt (insS lt e l) := by
  intro l
  have hmem : ∀ {l : List α} {y : α}, y ∈ insS lt e l → y = e ∨ y ∈ l := by
    intro l
    induction l with
    | nil => intro y hy; simpa [insS] using hy
    | cons x l ih =>
      intro y hy
      unfold insS at hy; split at hy
      · simpa using hy
      · rcases List.mem_cons.1 hy with h | h
        · exact .inr (by simp [h])
        · exact (ih h).imp id (fun h => by simp [h])
  have hcons : ∀ {x : α} {l : List α}, sortedL lt (x :: l) ↔ (∀ y ∈ l, lt y x = false) ∧ sortedL lt l := by
    intro x l
    constructor
    · intro h
      refine ⟨fun y hy => ?_, fun i j a b hij ha hb => h (i + 1) (j + 1) a b (by omega) (by simpa using ha) (by simpa using hb)⟩
      obtain ⟨i, hi⟩ := List.mem_iff_getElem?.1 hy
      exact h 0 (i + 1) x y (by omega) rfl (by simpa using hi)
    · rintro ⟨h1, h2⟩ i j a b hij ha hb
      cases j with
      | zero => omega
      | succ j =>
        cases i with
        | zero => simp at ha; subst ha; exact h1 b (List.mem_of_getElem? (by simpa using hb))
        | succ i => exact h2 i j a b (by omega) (by simpa using ha) (by simpa using hb)
  induction l with
  | nil =>
    intro _ i j a b hij ha hb
    cases j with
    | zero => omega
    | succ j => simp [insS] at hb
  | cons x l ih =>
    intro hs
    obtain ⟨h1, h2⟩ := hcons.1 hs
    unfold insS; split
    · rename_i hl
      refine hcons.2 ⟨fun y hy => ?_, hs⟩
      rcases List.mem_cons.1 hy with h | h
      · rw [h]
        exact has _ _ hl
      · cases hh : lt y e
        · rfl
        · have h3 := hnt y x e hh (has _ _ hl)
          rw [h1 y h] at h3; exact h3.symm
    · rename_i hl
      refine hcons.2 ⟨fun y hy => ?_, ih h2⟩
      rcases hmem hy with h | h
      · subst h; simpa using hl
      · exact h1 y h
theorem isort_sorted (hnt : ∀ a b c : α, lt a c = true → lt b c = false → lt a b = true) (has : ∀ a b : α, lt a b = true → lt b a = false) {l : List α} : sortedL lt (isort lt l) := by
  have : ∀ (l out : List α), sortedL lt out → sortedL lt (l.foldl (fun out e => insS lt e out) out) := by
    intro l
    induction l with
    | nil => intro out h; exact h
    | cons e l ih => intro out h; exact ih _ (insS_sorted hnt has h)
  exact this l [] (fun i j a b _ _ h => by simp at h)
/- from the right: one place is found where the one ahead is not greater -/
theorem ins_right (hnt : ∀ a b c : α, lt a c = true → lt b c = false → lt a b = true) {P : List α} (hs : sortedL lt P) {e : α} {j : Nat} (hj : j ≤ P.length) (h1 : ∀ x, P[j]? = some x → lt e x = true)
    (h2 : j = 0 ∨ ∃ x, P[j - 1]? = some x ∧ lt e x = false) : insS lt e P = P.take j ++ e :: P.drop j := by
  refine insS_take (fun x hx => ?_) h1
  obtain ⟨i, hi⟩ := List.mem_iff_getElem?.1 hx
  have hij : i < j := by
    rcases Nat.lt_or_ge i j with h | h
    · exact h
    · rw [List.getElem?_eq_none (by simp; omega)] at hi; cases hi
  rw [List.getElem?_take_of_lt hij] at hi
  rcases h2 with h2 | ⟨y, hy, h2⟩
  · omega
  · by_cases e2 : i = j - 1
    · subst e2; rw [hi] at hy; cases hy; exact h2
    · cases hh : lt e x
      · rfl
      · have h3 := hs i (j - 1) x y (by omega) hi hy
        rw [hnt e y x hh h3] at h2; cases h2
theorem insS_map {β : Type} {f : α → β} {lt' : β → β → Bool} (h : ∀ a b, lt a b = lt' (f a) (f b)) {e : α} : ∀ {l : List α}, (insS lt e l).map f = insS lt' (f e) (l.map f)
  | [] => rfl
  | x :: l => by
    simp only [insS, List.map_cons, h]
    split
    · rfl
    · rw [List.map_cons, insS_map h]
theorem isort_map {β : Type} {f : α → β} {lt' : β → β → Bool} (h : ∀ a b, lt a b = lt' (f a) (f b)) {l : List α} : (isort lt l).map f = isort lt' (l.map f) := by
  have : ∀ (l out : List α), (l.foldl (fun out e => insS lt e out) out).map f = (l.map f).foldl (fun out e => insS lt' e out) (out.map f) := by
    intro l
    induction l with
    | nil => intro out; rfl
    | cons e l ih => intro out; simp only [List.foldl_cons, List.map_cons, ih, insS_map h]
  exact this l []
theorem insS_perm {e : α} : ∀ {l : List α}, (insS lt e l).Perm (e :: l)
  | [] => .refl _
  | x :: l => by
    unfold insS; split
    · exact .refl _
    · exact ((insS_perm (l := l)).cons x).trans (.swap ..)
theorem isort_perm {l : List α} : (isort lt l).Perm l := by
  have : ∀ (l out : List α), (l.foldl (fun out e => insS lt e out) out).Perm (out ++ l) := by
    intro l
    induction l with
    | nil => intro out; simp
    | cons e l ih =>
      intro out
      refine (ih _).trans ?_
      refine ((insS_perm (e := e) (l := out)).append_right l).trans ?_
      simpa using (List.perm_middle (l₁ := out) (l₂ := l) (a := e)).symm
  exact this l []
end
end Go.My
end
