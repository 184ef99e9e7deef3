/- A part of the proof: the engine and the contracts, joined. -/
import Derived.Test.YtinkjpfkemkhaaaGreatDoorRD
section
/- Signs: what the program's and the reference's functions compute. -/
set_option linter.unusedVariables false
set_option linter.unusedSimpArgs false
namespace Go.My
open Go.Eng Go.Proofs
variable {G : GInv}

def s_iKw  : Sig := { X := List UInt8, args := fun x => [.str x], pre := fun x => True, Y := Unit, post := fun x y => True, res := fun x y => .bool (kw x), outs := fun x y => [.top], keep := false }
theorem iKw_vc (x : List UInt8) : vcFun Go.Proofs.Tryz.prog (Γof []) (Eof []) false (Lof ([])) Go.Proofs.Tryz.f234.ntmps Go.Proofs.Tryz.f234.results.toList (Go.Proofs.Tryz.f234.body.getD .skip) s_iKw x = ((∀ (y : Unit), True → True ∧ True ∧ True) ∧ bcase (x == #[(99 : UInt8), (108 : UInt8), (97 : UInt8), (115 : UInt8), (115 : UInt8)].toList) (∃ (y : Unit), True ∧ true = kw x ∧ True) (bcase (x == #[(118 : UInt8), (97 : UInt8), (114 : UInt8)].toList) (∃ (y : Unit), True ∧ true = kw x ∧ True) (bcase (x == #[(105 : UInt8), (102 : UInt8)].toList) (∃ (y : Unit), True ∧ true = kw x ∧ True) (bcase (x == #[(101 : UInt8), (108 : UInt8), (115 : UInt8), (101 : UInt8)].toList) (∃ (y : Unit), True ∧ true = kw x ∧ True) (bcase (x == #[(119 : UInt8), (104 : UInt8), (105 : UInt8), (108 : UInt8), (101 : UInt8)].toList) (∃ (y : Unit), True ∧ true = kw x ∧ True) (bcase (x == #[(114 : UInt8), (101 : UInt8), (116 : UInt8), (117 : UInt8), (114 : UInt8), (110 : UInt8)].toList) (∃ (y : Unit), True ∧ true = kw x ∧ True) (∃ (y : Unit), True ∧ false = kw x ∧ True))))))) := by kernel_rfl
theorem iKw_ok  : Contract G Tryz.prog 234 s_iKw :=
  vcFun_ok (Γ := Γof []) (E := Eof []) (ov := false) (L := fun x => Lof ([])) Tryz.func234 rfl (by decide) (Γof_ok (l := []) trivial) fun (x : List UInt8) (hx : True) => (iKw_vc  x).mpr (by
  (repeat' first | with_reducible rfl | exact True.intro | refine inR_i64 ?_ ?_ | with_reducible refine And.intro ?_ ?_ | with_reducible refine bcase_dec (fun _ => ?_) (fun _ => ?_) | with_reducible refine bcase_bne (fun _ => ?_) (fun _ => ?_) | with_reducible refine bcase_beq (fun _ => ?_) (fun _ => ?_) | with_reducible refine bcase_not (fun _ => ?_) (fun _ => ?_) | refine bcase_intro (fun _ => ?_) (fun _ => ?_) | refine sl_eq ?_ | refine ex_flip () ?_ ?_ | (apply ex_flip6 <;> try dsimp only) | (apply ex_flip5 <;> try dsimp only) | (apply ex_flip4 <;> try dsimp only) | (apply ex_flip3 <;> try dsimp only) | (apply ex_flip2 <;> try dsimp only) | apply ex_flip | (refine Prod.forall.2 ?_; intro _; try dsimp only) | (intro _; try dsimp only)) <;> (try dsimp only at *) <;> (try simp only [i64max, List.length_cons, List.length_nil]) <;> (try omega)
  all_goals simp [kw, *])

def s_sKw  : Sig := { X := List UInt8, args := fun x => [.str x], pre := fun x => True, Y := Unit, post := fun x y => True, res := fun x y => .bool (kw x), outs := fun x y => [.top], keep := false }
theorem sKw_vc (x : List UInt8) : vcFun Go.Proofs.Tryz.prog (Γof []) (Eof []) false (Lof ([])) Go.Proofs.Tryz.f246.ntmps Go.Proofs.Tryz.f246.results.toList (Go.Proofs.Tryz.f246.body.getD .skip) s_sKw x = ((∀ (y : Unit), True → True ∧ True ∧ True) ∧ bcase (x == #[(99 : UInt8), (108 : UInt8), (97 : UInt8), (115 : UInt8), (115 : UInt8)].toList) (∃ (y : Unit), True ∧ true = kw x ∧ True) (bcase (x == #[(118 : UInt8), (97 : UInt8), (114 : UInt8)].toList) (∃ (y : Unit), True ∧ true = kw x ∧ True) (bcase (x == #[(105 : UInt8), (102 : UInt8)].toList) (∃ (y : Unit), True ∧ true = kw x ∧ True) (bcase (x == #[(101 : UInt8), (108 : UInt8), (115 : UInt8), (101 : UInt8)].toList) (∃ (y : Unit), True ∧ true = kw x ∧ True) (bcase (x == #[(119 : UInt8), (104 : UInt8), (105 : UInt8), (108 : UInt8), (101 : UInt8)].toList) (∃ (y : Unit), True ∧ true = kw x ∧ True) (bcase (x == #[(114 : UInt8), (101 : UInt8), (116 : UInt8), (117 : UInt8), (114 : UInt8), (110 : UInt8)].toList) (∃ (y : Unit), True ∧ true = kw x ∧ True) (∃ (y : Unit), True ∧ false = kw x ∧ True))))))) := by kernel_rfl
theorem sKw_ok  : Contract G Tryz.prog 246 s_sKw :=
  vcFun_ok (Γ := Γof []) (E := Eof []) (ov := false) (L := fun x => Lof ([])) Tryz.func246 rfl (by decide) (Γof_ok (l := []) trivial) fun (x : List UInt8) (hx : True) => (sKw_vc  x).mpr (by
  (repeat' first | with_reducible rfl | exact True.intro | refine inR_i64 ?_ ?_ | with_reducible refine And.intro ?_ ?_ | with_reducible refine bcase_dec (fun _ => ?_) (fun _ => ?_) | with_reducible refine bcase_bne (fun _ => ?_) (fun _ => ?_) | with_reducible refine bcase_beq (fun _ => ?_) (fun _ => ?_) | with_reducible refine bcase_not (fun _ => ?_) (fun _ => ?_) | refine bcase_intro (fun _ => ?_) (fun _ => ?_) | refine sl_eq ?_ | refine ex_flip () ?_ ?_ | (apply ex_flip6 <;> try dsimp only) | (apply ex_flip5 <;> try dsimp only) | (apply ex_flip4 <;> try dsimp only) | (apply ex_flip3 <;> try dsimp only) | (apply ex_flip2 <;> try dsimp only) | apply ex_flip | (refine Prod.forall.2 ?_; intro _; try dsimp only) | (intro _; try dsimp only)) <;> (try dsimp only at *) <;> (try simp only [i64max, List.length_cons, List.length_nil]) <;> (try omega)
  all_goals simp [kw, *])

theorem mk1_has {c : UInt8} : decide (idxI mk1 c ≥ 0) = mk1.elem c := by
  unfold idxI
  cases h : idxOf (fun d => decide (d.toNat = c.toNat)) mk1 with
  | none =>
    have := idxOf_none.1 h
    symm
    simp only [Int.reduceNeg, ge_iff_le, Int.reduceLE, decide_false]
    rw [Bool.eq_false_iff]
    intro h2
    have h3 := this c (by simpa using h2)
    simp at h3
  | some i =>
    obtain ⟨_, e, he, hq⟩ := idxOf_some.1 h
    have h3 : e = c := by simpa [UInt8.toNat_inj] using hq
    subst h3
    have := List.mem_of_getElem? he
    simp [this]
def s_markOk  : Sig := { X := List UInt8, args := fun x => [.str x], pre := fun x => x.length < 2 ^ 63, Y := Unit, post := fun x y => True, res := fun x y => .bool (markOk x), outs := fun x y => [.top], keep := false }
theorem markOk_vc (x : List UInt8) : vcFun Go.Proofs.Tryz.prog (Γof [(271, 0, s_sHas)]) (Eof []) false (Lof ([])) Go.Proofs.Tryz.f260.ntmps Go.Proofs.Tryz.f260.results.toList (Go.Proofs.Tryz.f260.body.getD .skip) s_markOk x = ((∀ (y : Unit), True → True ∧ True ∧ True) ∧ bcase (x == #[(38 : UInt8), (38 : UInt8)].toList) (∃ (y : Unit), True ∧ true = markOk x ∧ True) (bcase (x == #[(124 : UInt8), (124 : UInt8)].toList) (∃ (y : Unit), True ∧ true = markOk x ∧ True) (bcase (x == #[(61 : UInt8), (61 : UInt8)].toList) (∃ (y : Unit), True ∧ true = markOk x ∧ True) (bcase (x == #[(61 : UInt8), (62 : UInt8)].toList) (∃ (y : Unit), True ∧ true = markOk x ∧ True) (bcase (x == #[(46 : UInt8), (46 : UInt8)].toList) (∃ (y : Unit), True ∧ true = markOk x ∧ True) (bcase ((↑(List.length x) : Int) == (1 : Int)) (∃ (x_1 : List UInt8 × List UInt8), List.length x_1.snd = (1 : Nat) ∧ #[(40 : UInt8), (41 : UInt8), (123 : UInt8), (125 : UInt8), (91 : UInt8), (93 : UInt8), (59 : UInt8), (44 : UInt8), (46 : UInt8), (61 : UInt8), (43 : UInt8), (45 : UInt8), (42 : UInt8), (60 : UInt8), (63 : UInt8), (58 : UInt8)].toList = x_1.fst ∧ x = x_1.snd ∧ ∀ (y : Unit), True → ∃ (y : Unit), True ∧ decide (idxI x_1.fst (List.headD x_1.snd (0 : UInt8)) ≥ (0 : Int)) = markOk x ∧ True) (∃ (y : Unit), True ∧ false = markOk x ∧ True))))))) := by kernel_rfl
theorem markOk_ok  : Contract G Tryz.prog 260 s_markOk :=
  vcFun_ok (Γ := Γof [(271, 0, s_sHas)]) (E := Eof []) (ov := false) (L := fun x => Lof ([])) Tryz.func260 rfl (by decide) (Γof_ok (l := [(271, 0, s_sHas)]) ⟨sHas_ok, trivial⟩) fun (x : List UInt8) (hx : x.length < 2 ^ 63) => (markOk_vc  x).mpr (by
  (repeat' first | with_reducible rfl | exact True.intro | refine inR_i64 ?_ ?_ | with_reducible refine And.intro ?_ ?_ | with_reducible refine bcase_dec (fun _ => ?_) (fun _ => ?_) | with_reducible refine bcase_bne (fun _ => ?_) (fun _ => ?_) | with_reducible refine bcase_beq (fun _ => ?_) (fun _ => ?_) | with_reducible refine bcase_not (fun _ => ?_) (fun _ => ?_) | refine bcase_intro (fun _ => ?_) (fun _ => ?_) | refine sl_eq ?_ | refine ex_flip () ?_ ?_ | (apply ex_flip6 <;> try dsimp only) | (apply ex_flip5 <;> try dsimp only) | (apply ex_flip4 <;> try dsimp only) | (apply ex_flip3 <;> try dsimp only) | (apply ex_flip2 <;> try dsimp only) | apply ex_flip | (refine Prod.forall.2 ?_; intro _; try dsimp only) | (intro _; try dsimp only)) <;> (try dsimp only at *) <;> (try simp only [i64max, List.length_cons, List.length_nil]) <;> (try omega)
  · rename_i h; simp [markOk, mk2, h]
  · rename_i h; simp [markOk, mk2, h]
  · rename_i h; simp [markOk, mk2, h]
  · rename_i h; simp [markOk, mk2, h]
  · rename_i h; simp [markOk, mk2, h]
  · rename_i h1 h2 h3 h4 h5 h _ _
    have h : x.length = 1 := by omega
    match x, h with
    | [c], _ => exact mk1_has.trans (by simp [markOk, mk2])
  · rename_i h1 h2 h3 h4 h5 h
    symm; simp only [markOk, mk2, Bool.or_eq_false_iff, beq_eq_false_iff_ne]
    refine ⟨⟨h1, h2, h3, h4, h5⟩, ?_⟩
    split
    · simp at h
    · rfl)

def s_trimB  : Sig := { X := List UInt8, args := fun x => [.str x, .int .u8 32], pre := fun x => x.length < 2 ^ 63, Y := Unit, post := fun x y => True, res := fun x y => .str (trimR x), outs := fun x y => [.top, .top], keep := false }
theorem trimB_vc (x : List UInt8) : vcFun Go.Proofs.Tryz.prog (Γof []) (Eof []) false (Lof ([(1,{ ι := List UInt8, inv := fun s => s.length ≤ x.length ∧ trimR s = trimR x, regs := fun s => [(0, .str s), (1, .int .u8 32)], als := [], meas := fun s => s.length })])) Go.Proofs.Tryz.f275.ntmps Go.Proofs.Tryz.f275.results.toList (Go.Proofs.Tryz.f275.body.getD .skip) s_trimB x = ((∀ (y : Unit), True → True ∧ True ∧ True ∧ True) ∧ (∃ (i : List UInt8), (List.length i ≤ List.length x ∧ trimR i = trimR x) ∧ (x = i ∧ (32 : Int) = (32 : Int) ∧ True) ∧ True) ∧ ∀ (i : List UInt8), List.length i ≤ List.length x ∧ trimR i = trimR x → bcase (decide ((↑(List.length i) : Int) > (0 : Int))) (inR IntKind.i64 ((↑(List.length i) : Int) - (1 : Int)) ∧ ((0 : Int) ≤ (↑(List.length i) : Int) - (1 : Int) ∧ (↑(List.length i) : Int) - (1 : Int) < (↑(List.length i) : Int)) ∧ ∀ (c : UInt8), i[Int.toNat ((↑(List.length i) : Int) - (1 : Int))]? = some c → bcase ((↑(UInt8.toNat c) : Int) == (32 : Int)) (inR IntKind.i64 ((↑(List.length i) : Int) - (1 : Int)) ∧ ((0 : Int) ≤ (0 : Int) ∧ (0 : Int) ≤ (↑(List.length i) : Int) - (1 : Int) ∧ (↑(List.length i) : Int) - (1 : Int) ≤ (↑(List.length i) : Int)) ∧ ∃ (i' : List UInt8), (List.length i' ≤ List.length x ∧ trimR i' = trimR x) ∧ List.length i' < List.length i ∧ (List.take (Int.toNat ((↑(List.length i) : Int) - (1 : Int))) i = i' ∧ (32 : Int) = (32 : Int) ∧ True) ∧ True) (∃ (y : Unit), True ∧ i = trimR x ∧ True)) (∃ (y : Unit), True ∧ i = trimR x ∧ True)) := by kernel_rfl
theorem trimB_ok  : Contract G Tryz.prog 275 s_trimB :=
  vcFun_ok (Γ := Γof []) (E := Eof []) (ov := false) (L := fun x => Lof ([(1,{ ι := List UInt8, inv := fun s => s.length ≤ x.length ∧ trimR s = trimR x, regs := fun s => [(0, .str s), (1, .int .u8 32)], als := [], meas := fun s => s.length })])) Tryz.func275 rfl (by decide) (Γof_ok (l := []) trivial) fun (x : List UInt8) (hx : x.length < 2 ^ 63) => (trimB_vc  x).mpr (by
  (repeat' first | with_reducible rfl | exact True.intro | refine inR_i64 ?_ ?_ | with_reducible refine And.intro ?_ ?_ | with_reducible refine bcase_dec (fun _ => ?_) (fun _ => ?_) | with_reducible refine bcase_bne (fun _ => ?_) (fun _ => ?_) | with_reducible refine bcase_beq (fun _ => ?_) (fun _ => ?_) | with_reducible refine bcase_not (fun _ => ?_) (fun _ => ?_) | refine bcase_intro (fun _ => ?_) (fun _ => ?_) | refine sl_eq ?_ | refine ex_flip () ?_ ?_ | (apply ex_flip6 <;> try dsimp only) | (apply ex_flip5 <;> try dsimp only) | (apply ex_flip4 <;> try dsimp only) | (apply ex_flip3 <;> try dsimp only) | (apply ex_flip2 <;> try dsimp only) | apply ex_flip | (refine Prod.forall.2 ?_; intro _; try dsimp only) | (intro _; try dsimp only)) <;> (try dsimp only at *) <;> (try simp only [i64max, List.length_cons, List.length_nil]) <;> (try omega)
  · rename_i s hs h c hc h2; simp; omega
  · rename_i s hs h c hc h2; simp; omega
  · rename_i s hs h c hc h2
    have e : ((s.length : Int) - 1).toNat = s.length - 1 := by omega
    rw [e] at hc ⊢
    rw [← hs.2, trimR_last hc, if_pos (by omega)]
  · rename_i s hs h c hc h2
    have e : ((s.length : Int) - 1).toNat = s.length - 1 := by omega
    rw [e] at hc
    rw [← hs.2, trimR_last hc, if_neg (by omega)]
  · rename_i s hs h
    have : s = [] := List.length_eq_zero_iff.1 (by omega)
    rw [← hs.2, this]; rfl)

def s_trimS  : Sig := { X := List UInt8, args := fun x => [.str x, .str [32]], pre := fun x => x.length < 2 ^ 63, Y := Unit, post := fun x y => True, res := fun x y => .str (trimR x), outs := fun x y => [.top, .top], keep := false }
theorem trimS_vc (x : List UInt8) : vcFun Go.Proofs.Tryz.prog (Γof [(275, 0, s_trimB)]) (Eof []) false (Lof ([])) Go.Proofs.Tryz.f270.ntmps Go.Proofs.Tryz.f270.results.toList (Go.Proofs.Tryz.f270.body.getD .skip) s_trimS x = ((∀ (y : Unit), True → True ∧ True ∧ True ∧ True) ∧ bcase (x == #[].toList) (∃ (y : Unit), True ∧ x = trimR x ∧ True) (((0 : Int) ≤ (0 : Int) ∧ (0 : Int) < (↑(1 : Nat) : Int)) ∧ ∀ (c : UInt8), [(32 : UInt8)][(0 : Nat)]? = some c → bcase (decide ((↑(UInt8.toNat c) : Int) < (128 : Int))) (((0 : Int) ≤ (0 : Int) ∧ (0 : Int) < (↑(1 : Nat) : Int)) ∧ ∀ (c : UInt8), [(32 : UInt8)][(0 : Nat)]? = some c → ∃ (x_1 : List UInt8), List.length x_1 < (9223372036854775808 : Nat) ∧ x = x_1 ∧ (↑(UInt8.toNat c) : Int) = (32 : Int) ∧ ∀ (y : Unit), True → ∃ (y : Unit), True ∧ trimR x_1 = trimR x ∧ True) False)) := by kernel_rfl
theorem trimS_ok  : Contract G Tryz.prog 270 s_trimS :=
  vcFun_ok (Γ := Γof [(275, 0, s_trimB)]) (E := Eof []) (ov := false) (L := fun x => Lof ([])) Tryz.func270 rfl (by decide) (Γof_ok (l := [(275, 0, s_trimB)]) ⟨trimB_ok, trivial⟩) fun (x : List UInt8) (hx : x.length < 2 ^ 63) => (trimS_vc  x).mpr (by
  refine ⟨fun _ _ => ⟨trivial, trivial, trivial, trivial⟩, bcase_beq (fun h => ⟨(), trivial, by rw [h]; rfl, trivial⟩) (fun h => ⟨by omega, fun c hc => ?_⟩)⟩
  have hc : 32 = c := by simpa using hc
  subst hc
  refine bcase_dec (fun _ => ⟨by omega, fun c hc => ?_⟩) (fun h => (h (by decide)).elim)
  have hc : 32 = c := by simpa using hc
  subst hc
  exact ⟨x, hx, rfl, rfl, fun _ _ => ⟨(), trivial, rfl, trivial⟩⟩)

def s_iTrim  : Sig := { X := List UInt8, args := fun x => [.str x], pre := fun x => x.length < 2 ^ 63, Y := Unit, post := fun x y => True, res := fun x y => .str (trimR x), outs := fun x y => [.top], keep := false }
theorem iTrim_vc (x : List UInt8) : vcFun Go.Proofs.Tryz.prog (Γof [(270, 0, s_trimS)]) (Eof []) false (Lof ([])) Go.Proofs.Tryz.f259.ntmps Go.Proofs.Tryz.f259.results.toList (Go.Proofs.Tryz.f259.body.getD .skip) s_iTrim x = ((∀ (y : Unit), True → True ∧ True ∧ True) ∧ ∃ (x_1 : List UInt8), List.length x_1 < (9223372036854775808 : Nat) ∧ x = x_1 ∧ #[(32 : UInt8)].toList = [(32 : UInt8)] ∧ ∀ (y : Unit), True → ∃ (y : Unit), True ∧ trimR x_1 = trimR x ∧ True) := by kernel_rfl
theorem iTrim_ok  : Contract G Tryz.prog 259 s_iTrim :=
  vcFun_ok (Γ := Γof [(270, 0, s_trimS)]) (E := Eof []) (ov := false) (L := fun x => Lof ([])) Tryz.func259 rfl (by decide) (Γof_ok (l := [(270, 0, s_trimS)]) ⟨trimS_ok, trivial⟩) fun (x : List UInt8) (hx : x.length < 2 ^ 63) => (iTrim_vc  x).mpr (by
  (repeat' first | with_reducible rfl | exact True.intro | refine inR_i64 ?_ ?_ | with_reducible refine And.intro ?_ ?_ | with_reducible refine bcase_dec (fun _ => ?_) (fun _ => ?_) | with_reducible refine bcase_bne (fun _ => ?_) (fun _ => ?_) | with_reducible refine bcase_beq (fun _ => ?_) (fun _ => ?_) | with_reducible refine bcase_not (fun _ => ?_) (fun _ => ?_) | refine bcase_intro (fun _ => ?_) (fun _ => ?_) | refine sl_eq ?_ | refine ex_flip () ?_ ?_ | (apply ex_flip6 <;> try dsimp only) | (apply ex_flip5 <;> try dsimp only) | (apply ex_flip4 <;> try dsimp only) | (apply ex_flip3 <;> try dsimp only) | (apply ex_flip2 <;> try dsimp only) | apply ex_flip | (refine Prod.forall.2 ?_; intro _; try dsimp only) | (intro _; try dsimp only)) <;> (try dsimp only at *) <;> (try simp only [i64max, List.length_cons, List.length_nil]) <;> (try omega))

def s_sTrim  : Sig := { X := List UInt8, args := fun x => [.str x], pre := fun x => x.length < 2 ^ 63, Y := Unit, post := fun x y => True, res := fun x y => .str (trimR x), outs := fun x y => [.top], keep := false }
theorem sTrim_vc (x : List UInt8) : vcFun Go.Proofs.Tryz.prog (Γof []) (Eof []) false (Lof ([(2,{ ι := Int, inv := fun i => 0 ≤ i ∧ i ≤ x.length ∧ trimR (x.take i.toNat) = trimR x, regs := fun i => [(0, .str x), (3, .int .i64 i)], als := [], meas := fun i => i.toNat })])) Go.Proofs.Tryz.f249.ntmps Go.Proofs.Tryz.f249.results.toList (Go.Proofs.Tryz.f249.body.getD .skip) s_sTrim x = ((∀ (y : Unit), True → True ∧ True ∧ True) ∧ (∃ (i : Int), ((0 : Int) ≤ i ∧ i ≤ (↑(List.length x) : Int) ∧ trimR (List.take (Int.toNat i) x) = trimR x) ∧ (x = x ∧ (↑(List.length x) : Int) = i ∧ True) ∧ True) ∧ ∀ (i : Int), (0 : Int) ≤ i ∧ i ≤ (↑(List.length x) : Int) ∧ trimR (List.take (Int.toNat i) x) = trimR x → bcase (decide (i > (0 : Int))) (inR IntKind.i64 (i - (1 : Int)) ∧ ((0 : Int) ≤ i - (1 : Int) ∧ i - (1 : Int) < (↑(List.length x) : Int)) ∧ ∀ (c : UInt8), x[Int.toNat (i - (1 : Int))]? = some c → bcase ((↑(UInt8.toNat c) : Int) == (32 : Int)) (inR IntKind.i64 (i - (1 : Int)) ∧ ∃ (i' : Int), ((0 : Int) ≤ i' ∧ i' ≤ (↑(List.length x) : Int) ∧ trimR (List.take (Int.toNat i') x) = trimR x) ∧ Int.toNat i' < Int.toNat i ∧ (x = x ∧ i - (1 : Int) = i' ∧ True) ∧ True) (((0 : Int) ≤ (0 : Int) ∧ (0 : Int) ≤ i ∧ i ≤ (↑(List.length x) : Int)) ∧ ∃ (y : Unit), True ∧ List.take (Int.toNat i) x = trimR x ∧ True)) (((0 : Int) ≤ (0 : Int) ∧ (0 : Int) ≤ i ∧ i ≤ (↑(List.length x) : Int)) ∧ ∃ (y : Unit), True ∧ List.take (Int.toNat i) x = trimR x ∧ True)) := by kernel_rfl
theorem sTrim_ok  : Contract G Tryz.prog 249 s_sTrim :=
  vcFun_ok (Γ := Γof []) (E := Eof []) (ov := false) (L := fun x => Lof ([(2,{ ι := Int, inv := fun i => 0 ≤ i ∧ i ≤ x.length ∧ trimR (x.take i.toNat) = trimR x, regs := fun i => [(0, .str x), (3, .int .i64 i)], als := [], meas := fun i => i.toNat })])) Tryz.func249 rfl (by decide) (Γof_ok (l := []) trivial) fun (x : List UInt8) (hx : x.length < 2 ^ 63) => (sTrim_vc  x).mpr (by
  (repeat' first | with_reducible rfl | exact True.intro | refine inR_i64 ?_ ?_ | with_reducible refine And.intro ?_ ?_ | with_reducible refine bcase_dec (fun _ => ?_) (fun _ => ?_) | with_reducible refine bcase_bne (fun _ => ?_) (fun _ => ?_) | with_reducible refine bcase_beq (fun _ => ?_) (fun _ => ?_) | with_reducible refine bcase_not (fun _ => ?_) (fun _ => ?_) | refine bcase_intro (fun _ => ?_) (fun _ => ?_) | refine sl_eq ?_ | refine ex_flip () ?_ ?_ | (apply ex_flip6 <;> try dsimp only) | (apply ex_flip5 <;> try dsimp only) | (apply ex_flip4 <;> try dsimp only) | (apply ex_flip3 <;> try dsimp only) | (apply ex_flip2 <;> try dsimp only) | apply ex_flip | (refine Prod.forall.2 ?_; intro _; try dsimp only) | (intro _; try dsimp only)) <;> (try dsimp only at *) <;> (try simp only [i64max, List.length_cons, List.length_nil]) <;> (try omega)
  · simp
  · rename_i i hi h c hc h2
    rw [← hi.2.2, show i.toNat = (i - 1).toNat + 1 by omega, trimR_take_succ hc, if_pos (by omega)]
  · rename_i i hi h c hc h2
    have := hi.2.2
    rw [show i.toNat = (i - 1).toNat + 1 by omega, trimR_take_succ hc, if_neg (by omega)] at this
    rw [← this, show i.toNat = (i - 1).toNat + 1 by omega]
  · rename_i i hi h
    rw [← hi.2.2, show i.toNat = 0 by omega]; rfl)

theorem idxI_lt (s : List UInt8) (c : UInt8) : idxI s c = -1 ∨ (0 ≤ idxI s c ∧ idxI s c < s.length) := by
  unfold idxI
  split
  · exact .inl rfl
  · rename_i i h; have := idxOf_lt h; omega
theorem quoted_idx {s : List UInt8} : quoted s = if idxI (s.drop 1) 39 < 0 then ([], false) else (s.take (idxI (s.drop 1) 39 + 2).toNat, (s.take (idxI (s.drop 1) 39 + 2).toNat).all isPln) := by
  unfold quoted idxI
  have e : (fun c : UInt8 => decide (c.toNat = 39)) = fun d : UInt8 => decide (d.toNat = (39 : UInt8).toNat) := rfl
  rw [e]
  cases idxOf (fun d : UInt8 => decide (d.toNat = (39 : UInt8).toNat)) (s.drop 1) with
  | none => simp
  | some i =>
    have h1 : ¬ (i : Int) < 0 := by omega
    have h2 : ((i : Int) + 2).toNat = i + 2 := by omega
    simp only [if_neg h1, h2]
def s_quoted  : Sig := { X := List UInt8, args := fun x => [.str x], pre := fun x => 1 ≤ x.length ∧ x.length < 2 ^ 62, Y := Unit, post := fun x y => True, res := fun x y => .tup [.str (quoted x).1, .bool (quoted x).2], outs := fun x y => [.top], keep := false }
theorem quoted_vc (x : List UInt8) : vcFun Go.Proofs.Tryz.prog (Γof [(268, 0, s_sIdxQ), (145, 0, s_isPlain)]) (Eof []) false (Lof ([])) Go.Proofs.Tryz.f256.ntmps Go.Proofs.Tryz.f256.results.toList (Go.Proofs.Tryz.f256.body.getD .skip) s_quoted x = ((∀ (y : Unit), True → (True ∧ True ∧ True) ∧ True ∧ True) ∧ ((0 : Int) ≤ (1 : Int) ∧ (1 : Int) ≤ (↑(List.length x) : Int) ∧ (↑(List.length x) : Int) ≤ (↑(List.length x) : Int)) ∧ ∃ (x_1 : List UInt8), True ∧ List.drop (1 : Nat) x = x_1 ∧ (39 : Int) = (39 : Int) ∧ ∀ (y : Unit), True → bcase (decide (idxI x_1 (39 : UInt8) < (0 : Int))) (∃ (y : Unit), True ∧ #[].toList = (quoted x).fst ∧ false = (quoted x).snd ∧ True) (inR IntKind.i64 (idxI x_1 (39 : UInt8) + (2 : Int)) ∧ ((0 : Int) ≤ (0 : Int) ∧ (0 : Int) ≤ idxI x_1 (39 : UInt8) + (2 : Int) ∧ idxI x_1 (39 : UInt8) + (2 : Int) ≤ (↑(List.length x) : Int)) ∧ ∃ (x_2 : List UInt8), List.length x_2 < (9223372036854775808 : Nat) ∧ List.take (Int.toNat (idxI x_1 (39 : UInt8) + (2 : Int))) x = x_2 ∧ ∀ (y : Unit), True → ∃ (y : Unit), True ∧ List.take (Int.toNat (idxI x_1 (39 : UInt8) + (2 : Int))) x = (quoted x).fst ∧ List.all x_2 isPln = (quoted x).snd ∧ True)) := by kernel_rfl
theorem quoted_ok  : Contract G Tryz.prog 256 s_quoted :=
  vcFun_ok (Γ := Γof [(268, 0, s_sIdxQ), (145, 0, s_isPlain)]) (E := Eof []) (ov := false) (L := fun x => Lof ([])) Tryz.func256 rfl (by decide) (Γof_ok (l := [(268, 0, s_sIdxQ), (145, 0, s_isPlain)]) ⟨sIdxQ_ok, isPlain_ok, trivial⟩) fun (x : List UInt8) (hx : 1 ≤ x.length ∧ x.length < 2 ^ 62) => (quoted_vc  x).mpr (by
  obtain ⟨h1, h2⟩ := hx
  have hq := idxI_lt (x.drop 1) 39; have hl : (x.drop 1).length = x.length - 1 := by simp
  (repeat' first | with_reducible rfl | exact True.intro | refine inR_i64 ?_ ?_ | with_reducible refine And.intro ?_ ?_ | with_reducible refine bcase_dec (fun _ => ?_) (fun _ => ?_) | with_reducible refine bcase_bne (fun _ => ?_) (fun _ => ?_) | with_reducible refine bcase_beq (fun _ => ?_) (fun _ => ?_) | with_reducible refine bcase_not (fun _ => ?_) (fun _ => ?_) | refine bcase_intro (fun _ => ?_) (fun _ => ?_) | refine sl_eq ?_ | refine ex_flip () ?_ ?_ | (apply ex_flip6 <;> try dsimp only) | (apply ex_flip5 <;> try dsimp only) | (apply ex_flip4 <;> try dsimp only) | (apply ex_flip3 <;> try dsimp only) | (apply ex_flip2 <;> try dsimp only) | apply ex_flip | (refine Prod.forall.2 ?_; intro _; try dsimp only) | (intro _; try dsimp only)) <;> (try dsimp only at *) <;> (try simp only [i64max, List.length_cons, List.length_nil]) <;> (try omega)
  all_goals first
    | omega
    | (rw [quoted_idx, if_neg ‹¬ idxI _ 39 < 0›]; done)
    | (rw [quoted_idx, if_pos ‹idxI _ 39 < 0›]; done)
    | (simp; omega))

def s_signAt  : Sig := { X := List UInt8, args := fun x => [.str x], pre := fun x => 1 ≤ x.length ∧ x.length < 2 ^ 62, Y := Unit, post := fun x y => True, res := fun x y => .tup [.int .i64 (sgAt x).kind, .str (sgAt x).text, .int .i64 (sgAt x).size, .bool (sgAt x).ok], outs := fun x y => [.top], keep := false }
theorem signAt_vc (x : List UInt8) : vcFun Go.Proofs.Tryz.prog (Γof [(252, 0, s_isFirst), (253, 254 + 1, s_runI), (255, 0, s_isFigure), (253, 255 + 1, s_runF), (256, 0, s_quoted), (257, 0, s_sPre), (253, 258 + 1, s_runN), (259, 0, s_iTrim), (145, 0, s_isPlain), (260, 0, s_markOk)]) (Eof []) false (Lof ([(15,{ ι := Int, inv := fun i => sgInv x i, regs := fun i => [(0, .str x), (12, .int .i64 i)], als := [], meas := fun i => i.toNat })])) Go.Proofs.Tryz.f235.ntmps Go.Proofs.Tryz.f235.results.toList (Go.Proofs.Tryz.f235.body.getD .skip) s_signAt x = ((∀ (y : Unit), True → (True ∧ True ∧ True ∧ True ∧ True) ∧ True ∧ True) ∧ ((0 : Int) ≤ (0 : Int) ∧ (0 : Int) < (↑(List.length x) : Int)) ∧ ∀ (c : UInt8), x[(0 : Nat)]? = some c → ∃ (x_1 : UInt8), True ∧ (↑(UInt8.toNat c) : Int) = (↑(UInt8.toNat x_1) : Int) ∧ ∀ (y : Unit), True → bcase (isFst x_1) (∃ (x_2 : List UInt8), List.length x_2 < (9223372036854775808 : Nat) ∧ x = x_2 ∧ ∀ (y : Unit), True → ∃ (y : Unit), True ∧ (1 : Int) = (sgAt x).kind ∧ List.takeWhile isInn x_2 = (sgAt x).text ∧ (↑(List.length (List.takeWhile isInn x_2)) : Int) = (sgAt x).size ∧ decide ((↑(List.length (List.takeWhile isInn x_2)) : Int) ≤ (30 : Int)) = (sgAt x).ok ∧ True) (∃ (x_2 : UInt8), True ∧ (↑(UInt8.toNat c) : Int) = (↑(UInt8.toNat x_2) : Int) ∧ ∀ (y : Unit), True → bcase (isFig x_2) (∃ (x_3 : List UInt8), List.length x_3 < (9223372036854775808 : Nat) ∧ x = x_3 ∧ ∀ (y : Unit), True → ∃ (y : Unit), True ∧ (2 : Int) = (sgAt x).kind ∧ List.takeWhile isFig x_3 = (sgAt x).text ∧ (↑(List.length (List.takeWhile isFig x_3)) : Int) = (sgAt x).size ∧ decide ((↑(List.length (List.takeWhile isFig x_3)) : Int) ≤ (12 : Int)) = (sgAt x).ok ∧ True) (bcase ((↑(UInt8.toNat c) : Int) == (39 : Int)) (∃ (x_3 : List UInt8), ((1 : Nat) ≤ List.length x_3 ∧ List.length x_3 < (4611686018427387904 : Nat)) ∧ x = x_3 ∧ ∀ (y : Unit), True → ∃ (y : Unit), True ∧ (3 : Int) = (sgAt x).kind ∧ (quoted x_3).fst = (sgAt x).text ∧ (↑(List.length (quoted x_3).fst) : Int) = (sgAt x).size ∧ (quoted x_3).snd = (sgAt x).ok ∧ True) (∃ (x_3 : List UInt8 × List UInt8), (List.length x_3.snd < (4611686018427387904 : Nat) ∧ List.length x_3.fst < (9223372036854775808 : Nat)) ∧ x = x_3.fst ∧ #[(47 : UInt8), (47 : UInt8)].toList = x_3.snd ∧ ∀ (y : Unit), True → bcase (List.take (List.length x_3.snd) x_3.fst == x_3.snd) (∃ (x_4 : List UInt8), List.length x_4 < (9223372036854775808 : Nat) ∧ x = x_4 ∧ ∀ (y : Unit), True → ∃ (x_5 : List UInt8), List.length x_5 < (9223372036854775808 : Nat) ∧ List.takeWhile notNl x_4 = x_5 ∧ ∀ (y : Unit), True → ∃ (x_6 : List UInt8), List.length x_6 < (9223372036854775808 : Nat) ∧ List.takeWhile notNl x_4 = x_6 ∧ ∀ (y : Unit), True → ∃ (y : Unit), True ∧ (5 : Int) = (sgAt x).kind ∧ trimR x_5 = (sgAt x).text ∧ (↑(List.length (List.takeWhile notNl x_4)) : Int) = (sgAt x).size ∧ List.all x_6 isPln = (sgAt x).ok ∧ True) ((∃ (i : Int), sgInv x i ∧ (x = x ∧ min (2 : Int) (↑(List.length x) : Int) = i ∧ True) ∧ True) ∧ ∀ (i : Int), sgInv x i → bcase (decide (i > (0 : Int))) (((0 : Int) ≤ (0 : Int) ∧ (0 : Int) ≤ i ∧ i ≤ (↑(List.length x) : Int)) ∧ ∃ (x_4 : List UInt8), List.length x_4 < (9223372036854775808 : Nat) ∧ List.take (Int.toNat i) x = x_4 ∧ ∀ (y : Unit), True → bcase (markOk x_4) (true = true ∧ true = true ∧ ((0 : Int) ≤ (0 : Int) ∧ (0 : Int) ≤ i ∧ i ≤ (↑(List.length x) : Int)) ∧ ∃ (y : Unit), True ∧ (4 : Int) = (sgAt x).kind ∧ List.take (Int.toNat i) x = (sgAt x).text ∧ i = (sgAt x).size ∧ true = (sgAt x).ok ∧ True) (inR IntKind.i64 (i - (1 : Int)) ∧ ∃ (i' : Int), sgInv x i' ∧ Int.toNat i' < Int.toNat i ∧ (x = x ∧ i - (1 : Int) = i' ∧ True) ∧ True)) (∃ (y : Unit), True ∧ (0 : Int) = (sgAt x).kind ∧ #[].toList = (sgAt x).text ∧ (0 : Int) = (sgAt x).size ∧ false = (sgAt x).ok ∧ True)))))) := by kernel_rfl
theorem signAt_ok  : Contract G Tryz.prog 235 s_signAt :=
  vcFun_ok (Γ := Γof [(252, 0, s_isFirst), (253, 254 + 1, s_runI), (255, 0, s_isFigure), (253, 255 + 1, s_runF), (256, 0, s_quoted), (257, 0, s_sPre), (253, 258 + 1, s_runN), (259, 0, s_iTrim), (145, 0, s_isPlain), (260, 0, s_markOk)]) (E := Eof []) (ov := false) (L := fun x => Lof ([(15,{ ι := Int, inv := fun i => sgInv x i, regs := fun i => [(0, .str x), (12, .int .i64 i)], als := [], meas := fun i => i.toNat })])) Tryz.func235 rfl (by decide) (Γof_ok (l := [(252, 0, s_isFirst), (253, 254 + 1, s_runI), (255, 0, s_isFigure), (253, 255 + 1, s_runF), (256, 0, s_quoted), (257, 0, s_sPre), (253, 258 + 1, s_runN), (259, 0, s_iTrim), (145, 0, s_isPlain), (260, 0, s_markOk)]) ⟨isFirst_ok, runI_ok, isFigure_ok, runF_ok, quoted_ok, sPre_ok, runN_ok, iTrim_ok, isPlain_ok, markOk_ok, trivial⟩) fun (x : List UInt8) (hx : 1 ≤ x.length ∧ x.length < 2 ^ 62) => (signAt_vc  x).mpr (by
  obtain ⟨h1, h2⟩ := hx
  have h3 : x.length < 9223372036854775808 := by omega
  match x, h1, h2, h3 with
  | b :: t, h1, h2, h3 =>
  (repeat' first | with_reducible rfl | exact True.intro | refine inR_i64 ?_ ?_ | with_reducible refine And.intro ?_ ?_ | with_reducible refine bcase_dec (fun _ => ?_) (fun _ => ?_) | with_reducible refine bcase_bne (fun _ => ?_) (fun _ => ?_) | with_reducible refine bcase_beq (fun _ => ?_) (fun _ => ?_) | with_reducible refine bcase_not (fun _ => ?_) (fun _ => ?_) | refine bcase_intro (fun _ => ?_) (fun _ => ?_) | refine sl_eq ?_ | refine ex_flip () ?_ ?_ | (apply ex_flip6 <;> try dsimp only) | (apply ex_flip5 <;> try dsimp only) | (apply ex_flip4 <;> try dsimp only) | (apply ex_flip3 <;> try dsimp only) | (apply ex_flip2 <;> try dsimp only) | apply ex_flip | (refine Prod.forall.2 ?_; intro _; try dsimp only) | (intro _; try dsimp only)) <;> (try dsimp only at *) <;> (try simp only [i64max, List.length_cons, List.length_nil]) <;> (try omega)
  all_goals (try simp only [List.getElem?_cons_zero, Option.some.injEq] at *)
  all_goals (try subst_vars)
  all_goals first
    | exact h3
    | (rw [sgAt1 (by assumption)]; done)
    | (rw [sgAt2 (by assumption) (by assumption)]; done)
    | (rw [sgAt3 (by assumption) (by assumption) (by assumption)]; done)
    | (rw [sgAt5 (by assumption) (by assumption) (by assumption) (by assumption)]; done)
    | (rw [sgInv_yes (by assumption) h1 (by assumption) (by assumption)]; done)
    | (rw [sgInv_no (by assumption) h1 (by assumption)]; done)
    | exact sgInv_next (by assumption) (by assumption) (by assumption)
    | exact sgInv_init (by assumption) (by assumption) (by omega) (by assumption)
    | exact Nat.lt_of_le_of_lt (List.takeWhile_prefix _).length_le h3
    | (have hI := (‹sgInv _ _› : sgInv _ _).1; rw [List.length_cons] at hI; omega)
    | (have hI := (‹sgInv _ _› : sgInv _ _).1; rw [List.length_take]; omega)
    | trace_state)

def s_isSign  : Sig := { X := List UInt8 × Int, args := fun x => [.str x.1, .int .i64 x.2], pre := fun x => x.1.length < 2 ^ 62, Y := Unit, post := fun x y => True, res := fun x y => .bool (isSgn x.1 x.2), outs := fun x y => [.top, .top], keep := false }
theorem isSign_vc (x : List UInt8 × Int) : vcFun Go.Proofs.Tryz.prog (Γof [(235, 0, s_signAt)]) (Eof []) false (Lof ([])) Go.Proofs.Tryz.f211.ntmps Go.Proofs.Tryz.f211.results.toList (Go.Proofs.Tryz.f211.body.getD .skip) s_isSign x = ((∀ (y : Unit), True → True ∧ True ∧ True ∧ True) ∧ bcase (x.fst == #[].toList) (∃ (y : Unit), True ∧ false = isSgn x.fst x.snd ∧ True) (∃ (x_1 : List UInt8), ((1 : Nat) ≤ List.length x_1 ∧ List.length x_1 < (4611686018427387904 : Nat)) ∧ x.fst = x_1 ∧ ∀ (y : Unit), True → bcase (sgAt x_1).ok (bcase ((sgAt x_1).kind == x.snd) (bcase ((sgAt x_1).text == x.fst) (∃ (y : Unit), True ∧ ((sgAt x_1).size == (↑(List.length x.fst) : Int)) = isSgn x.fst x.snd ∧ True) (∃ (y : Unit), True ∧ false = isSgn x.fst x.snd ∧ True)) (∃ (y : Unit), True ∧ false = isSgn x.fst x.snd ∧ True)) (∃ (y : Unit), True ∧ false = isSgn x.fst x.snd ∧ True))) := by kernel_rfl
theorem isSign_ok  : Contract G Tryz.prog 211 s_isSign :=
  vcFun_ok (Γ := Γof [(235, 0, s_signAt)]) (E := Eof []) (ov := false) (L := fun x => Lof ([])) Tryz.func211 rfl (by decide) (Γof_ok (l := [(235, 0, s_signAt)]) ⟨signAt_ok, trivial⟩) fun (x : List UInt8 × Int) (hx : x.1.length < 2 ^ 62) => (isSign_vc  x).mpr (by
  (repeat' first | with_reducible rfl | exact True.intro | refine inR_i64 ?_ ?_ | with_reducible refine And.intro ?_ ?_ | with_reducible refine bcase_dec (fun _ => ?_) (fun _ => ?_) | with_reducible refine bcase_bne (fun _ => ?_) (fun _ => ?_) | with_reducible refine bcase_beq (fun _ => ?_) (fun _ => ?_) | with_reducible refine bcase_not (fun _ => ?_) (fun _ => ?_) | refine bcase_intro (fun _ => ?_) (fun _ => ?_) | refine sl_eq ?_ | refine ex_flip () ?_ ?_ | (apply ex_flip6 <;> try dsimp only) | (apply ex_flip5 <;> try dsimp only) | (apply ex_flip4 <;> try dsimp only) | (apply ex_flip3 <;> try dsimp only) | (apply ex_flip2 <;> try dsimp only) | apply ex_flip | (refine Prod.forall.2 ?_; intro _; try dsimp only) | (intro _; try dsimp only)) <;> (try dsimp only at *) <;> (try simp only [i64max, List.length_cons, List.length_nil]) <;> (try omega)
  all_goals first
    | exact List.length_pos_iff.2 (by assumption)
    | (simp [isSgn, *]; done)
    | (rw [Bool.eq_iff_iff]; simp [isSgn, *]; done))

def s_isName  : Sig := { X := List UInt8, args := fun x => [.str x], pre := fun x => x.length < 2 ^ 62, Y := Unit, post := fun x y => True, res := fun x y => .bool (nameOk x), outs := fun x y => [.top], keep := false }
theorem isName_vc (x : List UInt8) : vcFun Go.Proofs.Tryz.prog (Γof [(211, 0, s_isSign), (234, 0, s_iKw)]) (Eof []) false (Lof ([])) Go.Proofs.Tryz.f210.ntmps Go.Proofs.Tryz.f210.results.toList (Go.Proofs.Tryz.f210.body.getD .skip) s_isName x = ((∀ (y : Unit), True → True ∧ True ∧ True) ∧ ∃ (x_1 : List UInt8 × Int), List.length x_1.fst < (4611686018427387904 : Nat) ∧ x = x_1.fst ∧ (1 : Int) = x_1.snd ∧ ∀ (y : Unit), True → bcase (isSgn x_1.fst x_1.snd) (∃ (x_2 : List UInt8), True ∧ x = x_2 ∧ ∀ (y : Unit), True → ∃ (y : Unit), True ∧ (!kw x_2) = nameOk x ∧ True) (∃ (y : Unit), True ∧ false = nameOk x ∧ True)) := by kernel_rfl
theorem isName_ok  : Contract G Tryz.prog 210 s_isName :=
  vcFun_ok (Γ := Γof [(211, 0, s_isSign), (234, 0, s_iKw)]) (E := Eof []) (ov := false) (L := fun x => Lof ([])) Tryz.func210 rfl (by decide) (Γof_ok (l := [(211, 0, s_isSign), (234, 0, s_iKw)]) ⟨isSign_ok, iKw_ok, trivial⟩) fun (x : List UInt8) (hx : x.length < 2 ^ 62) => (isName_vc  x).mpr (by
  (repeat' first | with_reducible rfl | exact True.intro | refine inR_i64 ?_ ?_ | with_reducible refine And.intro ?_ ?_ | with_reducible refine bcase_dec (fun _ => ?_) (fun _ => ?_) | with_reducible refine bcase_bne (fun _ => ?_) (fun _ => ?_) | with_reducible refine bcase_beq (fun _ => ?_) (fun _ => ?_) | with_reducible refine bcase_not (fun _ => ?_) (fun _ => ?_) | refine bcase_intro (fun _ => ?_) (fun _ => ?_) | refine sl_eq ?_ | refine ex_flip () ?_ ?_ | (apply ex_flip6 <;> try dsimp only) | (apply ex_flip5 <;> try dsimp only) | (apply ex_flip4 <;> try dsimp only) | (apply ex_flip3 <;> try dsimp only) | (apply ex_flip2 <;> try dsimp only) | apply ex_flip | (refine Prod.forall.2 ?_; intro _; try dsimp only) | (intro _; try dsimp only)) <;> (try dsimp only at *) <;> (try simp only [i64max, List.length_cons, List.length_nil]) <;> (try omega)
  all_goals simp [nameOk, *])

def s_textFits  : Sig := { X := Nd, args := fun x => [.agg (ndA false x)], pre := fun x => x.text.length < 2 ^ 62, Y := Unit, post := fun x y => True, res := fun x y => .bool (textOk x.kind x.text), outs := fun x y => [.top], keep := false }
theorem textFits_vc (x : Nd) : vcFun Go.Proofs.Tryz.prog (Γof [(211, 0, s_isSign), (210, 0, s_isName)]) (Eof []) false (Lof ([])) Go.Proofs.Tryz.f181.ntmps Go.Proofs.Tryz.f181.results.toList (Go.Proofs.Tryz.f181.body.getD .skip) s_textFits x = ((∀ (y : Unit), True → True ∧ True ∧ True) ∧ bcase (x.kind == (1 : Int)) (∃ (x_1 : List UInt8), List.length x_1 < (4611686018427387904 : Nat) ∧ x.text = x_1 ∧ ∀ (y : Unit), True → ∃ (y : Unit), True ∧ nameOk x_1 = textOk x.kind x.text ∧ True) (bcase (x.kind == (6 : Int)) (∃ (x_1 : List UInt8), List.length x_1 < (4611686018427387904 : Nat) ∧ x.text = x_1 ∧ ∀ (y : Unit), True → ∃ (y : Unit), True ∧ nameOk x_1 = textOk x.kind x.text ∧ True) (bcase (x.kind == (12 : Int)) (∃ (x_1 : List UInt8), List.length x_1 < (4611686018427387904 : Nat) ∧ x.text = x_1 ∧ ∀ (y : Unit), True → ∃ (y : Unit), True ∧ nameOk x_1 = textOk x.kind x.text ∧ True) (bcase (x.kind == (13 : Int)) (∃ (x_1 : List UInt8), List.length x_1 < (4611686018427387904 : Nat) ∧ x.text = x_1 ∧ ∀ (y : Unit), True → ∃ (y : Unit), True ∧ nameOk x_1 = textOk x.kind x.text ∧ True) (bcase (x.kind == (20 : Int)) (∃ (x_1 : List UInt8), List.length x_1 < (4611686018427387904 : Nat) ∧ x.text = x_1 ∧ ∀ (y : Unit), True → ∃ (y : Unit), True ∧ nameOk x_1 = textOk x.kind x.text ∧ True) (bcase (x.kind == (21 : Int)) (∃ (x_1 : List UInt8), List.length x_1 < (4611686018427387904 : Nat) ∧ x.text = x_1 ∧ ∀ (y : Unit), True → ∃ (y : Unit), True ∧ nameOk x_1 = textOk x.kind x.text ∧ True) (bcase (x.kind == (2 : Int)) (∃ (x_1 : List UInt8 × Int), List.length x_1.fst < (4611686018427387904 : Nat) ∧ x.text = x_1.fst ∧ (2 : Int) = x_1.snd ∧ ∀ (y : Unit), True → ∃ (y : Unit), True ∧ isSgn x_1.fst x_1.snd = textOk x.kind x.text ∧ True) (bcase (x.kind == (3 : Int)) (∃ (x_1 : List UInt8 × Int), List.length x_1.fst < (4611686018427387904 : Nat) ∧ x.text = x_1.fst ∧ (3 : Int) = x_1.snd ∧ ∀ (y : Unit), True → ∃ (y : Unit), True ∧ isSgn x_1.fst x_1.snd = textOk x.kind x.text ∧ True) (bcase (x.kind == (19 : Int)) (∃ (x_1 : List UInt8 × Int), List.length x_1.fst < (4611686018427387904 : Nat) ∧ x.text = x_1.fst ∧ (5 : Int) = x_1.snd ∧ ∀ (y : Unit), True → ∃ (y : Unit), True ∧ isSgn x_1.fst x_1.snd = textOk x.kind x.text ∧ True) (bcase (x.kind == (7 : Int)) (bcase (x.text == #[(38 : UInt8), (38 : UInt8)].toList) (∃ (y : Unit), True ∧ true = textOk x.kind x.text ∧ True) (bcase (x.text == #[(124 : UInt8), (124 : UInt8)].toList) (∃ (y : Unit), True ∧ true = textOk x.kind x.text ∧ True) (bcase (x.text == #[(61 : UInt8), (61 : UInt8)].toList) (∃ (y : Unit), True ∧ true = textOk x.kind x.text ∧ True) (bcase (x.text == #[(60 : UInt8)].toList) (∃ (y : Unit), True ∧ true = textOk x.kind x.text ∧ True) (bcase (x.text == #[(43 : UInt8)].toList) (∃ (y : Unit), True ∧ true = textOk x.kind x.text ∧ True) (bcase (x.text == #[(45 : UInt8)].toList) (∃ (y : Unit), True ∧ true = textOk x.kind x.text ∧ True) (bcase (x.text == #[(42 : UInt8)].toList) (∃ (y : Unit), True ∧ true = textOk x.kind x.text ∧ True) (∃ (y : Unit), True ∧ false = textOk x.kind x.text ∧ True)))))))) (∃ (y : Unit), True ∧ (x.text == #[].toList) = textOk x.kind x.text ∧ True))))))))))) := by kernel_rfl
theorem textFits_ok  : Contract G Tryz.prog 181 s_textFits :=
  vcFun_ok (Γ := Γof [(211, 0, s_isSign), (210, 0, s_isName)]) (E := Eof []) (ov := false) (L := fun x => Lof ([])) Tryz.func181 rfl (by decide) (Γof_ok (l := [(211, 0, s_isSign), (210, 0, s_isName)]) ⟨isSign_ok, isName_ok, trivial⟩) fun (x : Nd) (hx : x.text.length < 2 ^ 62) => (textFits_vc  x).mpr (by
  (repeat' first | with_reducible rfl | exact True.intro | refine inR_i64 ?_ ?_ | with_reducible refine And.intro ?_ ?_ | with_reducible refine bcase_dec (fun _ => ?_) (fun _ => ?_) | with_reducible refine bcase_bne (fun _ => ?_) (fun _ => ?_) | with_reducible refine bcase_beq (fun _ => ?_) (fun _ => ?_) | with_reducible refine bcase_not (fun _ => ?_) (fun _ => ?_) | refine bcase_intro (fun _ => ?_) (fun _ => ?_) | refine sl_eq ?_ | refine ex_flip () ?_ ?_ | (apply ex_flip6 <;> try dsimp only) | (apply ex_flip5 <;> try dsimp only) | (apply ex_flip4 <;> try dsimp only) | (apply ex_flip3 <;> try dsimp only) | (apply ex_flip2 <;> try dsimp only) | apply ex_flip | (refine Prod.forall.2 ?_; intro _; try dsimp only) | (intro _; try dsimp only)) <;> (try dsimp only at *) <;> (try simp only [i64max, List.length_cons, List.length_nil]) <;> (try omega)
  all_goals simp [textOk, chainOk, *])

def s_l04Quoted  : Sig := { X := List UInt8 × Int, args := fun x => [.str x.1, .int .i64 x.2], pre := fun x => 0 ≤ x.2 ∧ x.2 ≤ x.1.length ∧ x.1.length < 2 ^ 62, Y := Unit, post := fun x y => True, res := fun x y => .int .i64 (qlen (x.1.drop x.2.toNat)), outs := fun x y => [.top, .top], keep := false }
theorem l04Quoted_vc (x : List UInt8 × Int) : vcFun Go.Proofs.Tryz.prog (Γof [(139, 0, s_l04Plain)]) (Eof []) false (Lof ([(2,{ ι := Int, inv := fun i => qI x i, regs := fun i => [(0, .str x.1), (1, .int .i64 x.2), (5, .int .i64 i)], als := [], meas := fun i => x.1.length - i.toNat })])) Go.Proofs.Tryz.f247.ntmps Go.Proofs.Tryz.f247.results.toList (Go.Proofs.Tryz.f247.body.getD .skip) s_l04Quoted x = ((∀ (y : Unit), True → True ∧ True ∧ True ∧ True) ∧ inR IntKind.i64 (x.snd + (1 : Int)) ∧ (∃ (i : Int), qI x i ∧ (x.fst = x.fst ∧ x.snd = x.snd ∧ x.snd + (1 : Int) = i ∧ True) ∧ True) ∧ ∀ (i : Int), qI x i → bcase (decide (i < (↑(List.length x.fst) : Int))) (((0 : Int) ≤ i ∧ i < (↑(List.length x.fst) : Int)) ∧ ∀ (c : UInt8), x.fst[Int.toNat i]? = some c → bcase ((↑(UInt8.toNat c) : Int) == (39 : Int)) (inR IntKind.i64 (i + (1 : Int)) ∧ inR IntKind.i64 (i + (1 : Int) - x.snd) ∧ ∃ (y : Unit), True ∧ i + (1 : Int) - x.snd = (↑(qlen (List.drop (Int.toNat x.snd) x.fst)) : Int) ∧ True) (((0 : Int) ≤ i ∧ i < (↑(List.length x.fst) : Int)) ∧ ∀ (c : UInt8), x.fst[Int.toNat i]? = some c → ∃ (x_1 : UInt8), True ∧ (↑(UInt8.toNat c) : Int) = (↑(UInt8.toNat x_1) : Int) ∧ ∀ (y : Unit), True → bcase (!isPln x_1) (∃ (y : Unit), True ∧ (0 : Int) = (↑(qlen (List.drop (Int.toNat x.snd) x.fst)) : Int) ∧ True) (inR IntKind.i64 (i + (1 : Int)) ∧ ∃ (i' : Int), qI x i' ∧ List.length x.fst - Int.toNat i' < List.length x.fst - Int.toNat i ∧ (x.fst = x.fst ∧ x.snd = x.snd ∧ i + (1 : Int) = i' ∧ True) ∧ True))) (∃ (y : Unit), True ∧ (0 : Int) = (↑(qlen (List.drop (Int.toNat x.snd) x.fst)) : Int) ∧ True)) := by kernel_rfl
theorem l04Quoted_ok  : Contract G Tryz.prog 247 s_l04Quoted :=
  vcFun_ok (Γ := Γof [(139, 0, s_l04Plain)]) (E := Eof []) (ov := false) (L := fun x => Lof ([(2,{ ι := Int, inv := fun i => qI x i, regs := fun i => [(0, .str x.1), (1, .int .i64 x.2), (5, .int .i64 i)], als := [], meas := fun i => x.1.length - i.toNat })])) Tryz.func247 rfl (by decide) (Γof_ok (l := [(139, 0, s_l04Plain)]) ⟨l04Plain_ok, trivial⟩) fun (x : List UInt8 × Int) (hx : 0 ≤ x.2 ∧ x.2 ≤ x.1.length ∧ x.1.length < 2 ^ 62) => (l04Quoted_vc  x).mpr (by
  obtain ⟨h1, h2, h3⟩ := hx
  (repeat' first | with_reducible rfl | exact True.intro | refine inR_i64 ?_ ?_ | with_reducible refine And.intro ?_ ?_ | with_reducible refine bcase_dec (fun _ => ?_) (fun _ => ?_) | with_reducible refine bcase_bne (fun _ => ?_) (fun _ => ?_) | with_reducible refine bcase_beq (fun _ => ?_) (fun _ => ?_) | with_reducible refine bcase_not (fun _ => ?_) (fun _ => ?_) | refine bcase_intro (fun _ => ?_) (fun _ => ?_) | refine sl_eq ?_ | refine ex_flip () ?_ ?_ | (apply ex_flip6 <;> try dsimp only) | (apply ex_flip5 <;> try dsimp only) | (apply ex_flip4 <;> try dsimp only) | (apply ex_flip3 <;> try dsimp only) | (apply ex_flip2 <;> try dsimp only) | apply ex_flip | (refine Prod.forall.2 ?_; intro _; try dsimp only) | (intro _; try dsimp only)) <;> (try dsimp only at *) <;> (try simp only [i64max, List.length_cons, List.length_nil]) <;> (try omega)
  all_goals first
    | exact qI_0
    | exact qI_found h1 (by assumption) (by assumption) (by assumption)
    | exact qI_bad h1 (by assumption) (by assumption) (by assumption) (by assumption) (by assumption)
    | exact qI_next h1 (by assumption) (by assumption) (by assumption) (by assumption) (by assumption) (by assumption)
    | exact qI_end h1 (by assumption) (by assumption)
    | (have hI := qI_b (by assumption); omega))

def s_l04Note  : Sig := { X := List UInt8 × Int, args := fun x => [.str x.1, .int .i64 x.2], pre := fun x => 0 ≤ x.2 ∧ x.2 ≤ x.1.length ∧ x.1.length < 2 ^ 62, Y := Unit, post := fun x y => True, res := fun x y => .int .i64 (nlen (x.1.drop x.2.toNat)), outs := fun x y => [.top, .top], keep := false }
theorem l04Note_vc (x : List UInt8 × Int) : vcFun Go.Proofs.Tryz.prog (Γof [(139, 0, s_l04Plain)]) (Eof []) false (Lof ([(4,{ ι := Int, inv := fun i => nI x i, regs := fun i => [(0, .str x.1), (1, .int .i64 x.2), (5, .int .i64 i)], als := [], meas := fun i => x.1.length - i.toNat })])) Go.Proofs.Tryz.f248.ntmps Go.Proofs.Tryz.f248.results.toList (Go.Proofs.Tryz.f248.body.getD .skip) s_l04Note x = ((∀ (y : Unit), True → True ∧ True ∧ True ∧ True) ∧ inR IntKind.i64 (x.snd + (2 : Int)) ∧ bcase (decide (x.snd + (2 : Int) > (↑(List.length x.fst) : Int))) (∃ (y : Unit), True ∧ (0 : Int) = (↑(nlen (List.drop (Int.toNat x.snd) x.fst)) : Int) ∧ True) (inR IntKind.i64 (x.snd + (2 : Int)) ∧ ((0 : Int) ≤ x.snd ∧ x.snd ≤ x.snd + (2 : Int) ∧ x.snd + (2 : Int) ≤ (↑(List.length x.fst) : Int)) ∧ bcase (!List.drop (Int.toNat x.snd) (List.take (Int.toNat (x.snd + (2 : Int))) x.fst) == #[(47 : UInt8), (47 : UInt8)].toList) (∃ (y : Unit), True ∧ (0 : Int) = (↑(nlen (List.drop (Int.toNat x.snd) x.fst)) : Int) ∧ True) ((∃ (i : Int), nI x i ∧ (x.fst = x.fst ∧ x.snd = x.snd ∧ x.snd = i ∧ True) ∧ True) ∧ ∀ (i : Int), nI x i → bcase (decide (i < (↑(List.length x.fst) : Int))) (((0 : Int) ≤ i ∧ i < (↑(List.length x.fst) : Int)) ∧ ∀ (c : UInt8), x.fst[Int.toNat i]? = some c → bcase ((↑(UInt8.toNat c) : Int) != (10 : Int)) (((0 : Int) ≤ i ∧ i < (↑(List.length x.fst) : Int)) ∧ ∀ (c : UInt8), x.fst[Int.toNat i]? = some c → ∃ (x_1 : UInt8), True ∧ (↑(UInt8.toNat c) : Int) = (↑(UInt8.toNat x_1) : Int) ∧ ∀ (y : Unit), True → bcase (!isPln x_1) (∃ (y : Unit), True ∧ (0 : Int) = (↑(nlen (List.drop (Int.toNat x.snd) x.fst)) : Int) ∧ True) (inR IntKind.i64 (i + (1 : Int)) ∧ ∃ (i' : Int), nI x i' ∧ List.length x.fst - Int.toNat i' < List.length x.fst - Int.toNat i ∧ (x.fst = x.fst ∧ x.snd = x.snd ∧ i + (1 : Int) = i' ∧ True) ∧ True)) (inR IntKind.i64 (i - x.snd) ∧ ∃ (y : Unit), True ∧ i - x.snd = (↑(nlen (List.drop (Int.toNat x.snd) x.fst)) : Int) ∧ True)) (inR IntKind.i64 (i - x.snd) ∧ ∃ (y : Unit), True ∧ i - x.snd = (↑(nlen (List.drop (Int.toNat x.snd) x.fst)) : Int) ∧ True)))) := by kernel_rfl
theorem l04Note_ok  : Contract G Tryz.prog 248 s_l04Note :=
  vcFun_ok (Γ := Γof [(139, 0, s_l04Plain)]) (E := Eof []) (ov := false) (L := fun x => Lof ([(4,{ ι := Int, inv := fun i => nI x i, regs := fun i => [(0, .str x.1), (1, .int .i64 x.2), (5, .int .i64 i)], als := [], meas := fun i => x.1.length - i.toNat })])) Tryz.func248 rfl (by decide) (Γof_ok (l := [(139, 0, s_l04Plain)]) ⟨l04Plain_ok, trivial⟩) fun (x : List UInt8 × Int) (hx : 0 ≤ x.2 ∧ x.2 ≤ x.1.length ∧ x.1.length < 2 ^ 62) => (l04Note_vc  x).mpr (by
  obtain ⟨h1, h2, h3⟩ := hx
  (repeat' first | with_reducible rfl | exact True.intro | refine inR_i64 ?_ ?_ | with_reducible refine And.intro ?_ ?_ | with_reducible refine bcase_dec (fun _ => ?_) (fun _ => ?_) | with_reducible refine bcase_bne (fun _ => ?_) (fun _ => ?_) | with_reducible refine bcase_beq (fun _ => ?_) (fun _ => ?_) | with_reducible refine bcase_not (fun _ => ?_) (fun _ => ?_) | refine bcase_intro (fun _ => ?_) (fun _ => ?_) | refine sl_eq ?_ | refine ex_flip () ?_ ?_ | (apply ex_flip6 <;> try dsimp only) | (apply ex_flip5 <;> try dsimp only) | (apply ex_flip4 <;> try dsimp only) | (apply ex_flip3 <;> try dsimp only) | (apply ex_flip2 <;> try dsimp only) | apply ex_flip | (refine Prod.forall.2 ?_; intro _; try dsimp only) | (intro _; try dsimp only)) <;> (try dsimp only at *) <;> (try simp only [i64max, List.length_cons, List.length_nil]) <;> (try omega)
  all_goals first
    | exact nI_short h1 (by assumption)
    | exact nI_no h1 (by assumption)
    | exact nI_0 h1 h2 (by assumption)
    | exact nI_bad h1 (by assumption) (by assumption) (by assumption) (by assumption) (by assumption)
    | exact nI_next h1 (by assumption) (by assumption) (by assumption) (by assumption) (by assumption) (by assumption)
    | exact nI_stop h1 (by assumption) (by assumption) (by assumption)
    | exact nI_end h1 (by assumption) (by assumption)
    | (have hI := (‹nI _ _› : nI _ _).1; omega))

theorem isInn_or {c d : UInt8} (h : isFst c = true) : isInn c = true := by simp [isInn, h]
def s_l05Name  : Sig := { X := List UInt8, args := fun x => [.str x], pre := fun x => x.length < 2 ^ 62, Y := Unit, post := fun x y => True, res := fun x y => .bool (nameOk x), outs := fun x y => [.top], keep := false }
theorem l05Name_vc (x : List UInt8) : vcFun Go.Proofs.Tryz.prog (Γof [(84, 0, s_l01In), (245, 0, s_l04First), (246, 0, s_sKw), (220, 0, s_l04Figure)]) (Eof []) false (Lof ([(4,{ ι := Int, inv := fun i => nmI x i, regs := fun i => [(0, .str x), (3, .int .i64 i)], als := [], meas := fun i => x.length - i.toNat })])) Go.Proofs.Tryz.f226.ntmps Go.Proofs.Tryz.f226.results.toList (Go.Proofs.Tryz.f226.body.getD .skip) s_l05Name x = ((∀ (y : Unit), True → True ∧ True ∧ True) ∧ ∃ (x_1 : Int × Int × Int), True ∧ (↑(List.length x) : Int) = x_1.fst ∧ (1 : Int) = x_1.snd.fst ∧ (30 : Int) = x_1.snd.snd ∧ ∀ (y : Unit), True → bcase (!inn x_1.fst x_1.snd.fst x_1.snd.snd) (∃ (y : Unit), True ∧ false = nameOk x ∧ True) (((0 : Int) ≤ (0 : Int) ∧ (0 : Int) < (↑(List.length x) : Int)) ∧ ∀ (c : UInt8), x[(0 : Nat)]? = some c → ∃ (x_2 : UInt8), True ∧ (↑(UInt8.toNat c) : Int) = (↑(UInt8.toNat x_2) : Int) ∧ ∀ (y : Unit), True → bcase (!isFst x_2) (∃ (y : Unit), True ∧ false = nameOk x ∧ True) (∃ (x_3 : List UInt8), True ∧ x = x_3 ∧ ∀ (y : Unit), True → bcase (kw x_3) (∃ (y : Unit), True ∧ false = nameOk x ∧ True) ((∃ (i : Int), nmI x i ∧ (x = x ∧ (0 : Int) = i ∧ True) ∧ True) ∧ ∀ (i : Int), nmI x i → bcase (decide (i < (↑(List.length x) : Int))) (((0 : Int) ≤ i ∧ i < (↑(List.length x) : Int)) ∧ ∀ (c : UInt8), x[Int.toNat i]? = some c → ∃ (x_4 : UInt8), True ∧ (↑(UInt8.toNat c) : Int) = (↑(UInt8.toNat x_4) : Int) ∧ ∀ (y : Unit), True → bcase (!isFst x_4) (((0 : Int) ≤ i ∧ i < (↑(List.length x) : Int)) ∧ ∀ (c : UInt8), x[Int.toNat i]? = some c → ∃ (x_5 : UInt8), True ∧ (↑(UInt8.toNat c) : Int) = (↑(UInt8.toNat x_5) : Int) ∧ ∀ (y : Unit), True → bcase (!isFig x_5) (∃ (y : Unit), True ∧ false = nameOk x ∧ True) (inR IntKind.i64 (i + (1 : Int)) ∧ ∃ (i' : Int), nmI x i' ∧ List.length x - Int.toNat i' < List.length x - Int.toNat i ∧ (x = x ∧ i + (1 : Int) = i' ∧ True) ∧ True)) (inR IntKind.i64 (i + (1 : Int)) ∧ ∃ (i' : Int), nmI x i' ∧ List.length x - Int.toNat i' < List.length x - Int.toNat i ∧ (x = x ∧ i + (1 : Int) = i' ∧ True) ∧ True)) (∃ (y : Unit), True ∧ true = nameOk x ∧ True))))) := by kernel_rfl
theorem l05Name_ok  : Contract G Tryz.prog 226 s_l05Name :=
  vcFun_ok (Γ := Γof [(84, 0, s_l01In), (245, 0, s_l04First), (246, 0, s_sKw), (220, 0, s_l04Figure)]) (E := Eof []) (ov := false) (L := fun x => Lof ([(4,{ ι := Int, inv := fun i => nmI x i, regs := fun i => [(0, .str x), (3, .int .i64 i)], als := [], meas := fun i => x.length - i.toNat })])) Tryz.func226 rfl (by decide) (Γof_ok (l := [(84, 0, s_l01In), (245, 0, s_l04First), (246, 0, s_sKw), (220, 0, s_l04Figure)]) ⟨l01In_ok, l04First_ok, sKw_ok, l04Figure_ok, trivial⟩) fun (x : List UInt8) (hx : x.length < 2 ^ 62) => (l05Name_vc  x).mpr (by
  have hp : ∀ h : inn x.length 1 30 = true, 1 ≤ x.length := fun h => by simp [inn] at h; omega
  (repeat' first | with_reducible rfl | exact True.intro | refine inR_i64 ?_ ?_ | with_reducible refine And.intro ?_ ?_ | with_reducible refine bcase_dec (fun _ => ?_) (fun _ => ?_) | with_reducible refine bcase_bne (fun _ => ?_) (fun _ => ?_) | with_reducible refine bcase_beq (fun _ => ?_) (fun _ => ?_) | with_reducible refine bcase_not (fun _ => ?_) (fun _ => ?_) | refine bcase_intro (fun _ => ?_) (fun _ => ?_) | refine sl_eq ?_ | refine ex_flip () ?_ ?_ | (apply ex_flip6 <;> try dsimp only) | (apply ex_flip5 <;> try dsimp only) | (apply ex_flip4 <;> try dsimp only) | (apply ex_flip3 <;> try dsimp only) | (apply ex_flip2 <;> try dsimp only) | apply ex_flip | (refine Prod.forall.2 ?_; intro _; try dsimp only) | (intro _; try dsimp only)) <;> (try dsimp only at *) <;> (try simp only [i64max, List.length_cons, List.length_nil]) <;> (try omega)
  all_goals (try (have := hp (by assumption); omega))
  all_goals (try (have hI := (‹nmI _ _› : nmI _ _).1; omega))
  · rename_i h; exact nmI_no (fun hh => by rw [hh.1] at h; cases h)
  · rename_i c hc _ _ h; exact nmI_no (fun hh => by rw [head_of hc, h] at hh; cases hh.2.1)
  · rename_i h; exact nmI_no (fun hh => by rw [hh.2.2] at h; cases h)
  · rename_i h1 c hc _ _ h2 _ _ h3; exact nmI_0 h1 (by rw [head_of hc]; exact h2) h3
  · rename_i i hi hl c hc _ _ h1 d hd _ _ h2
    rw [hc] at hd; cases hd
    exact nmI_bad hi hc (by simp [isInn, h1, h2])
  · rename_i i hi hl c hc _ _ h1 d hd _ _ h2
    rw [hc] at hd; cases hd
    exact nmI_next hi hc hl (by simp [isInn, h2])
  · rename_i i hi hl c hc _ _ h1
    exact nmI_next hi hc hl (by simp [isInn, h1])
  · exact nmI_end (by assumption) (by assumption))

def s_l05Num  : Sig := { X := List UInt8, args := fun x => [.str x], pre := fun x => x.length < 2 ^ 62, Y := Unit, post := fun x y => True, res := fun x y => .bool (isSgn x 2), outs := fun x y => [.top], keep := false }
theorem l05Num_vc (x : List UInt8) : vcFun Go.Proofs.Tryz.prog (Γof [(84, 0, s_l01In), (220, 0, s_l04Figure)]) (Eof []) false (Lof ([(2,lTake isFig x fun i => [(0, .str x), (3, .int .i64 i)])])) Go.Proofs.Tryz.f227.ntmps Go.Proofs.Tryz.f227.results.toList (Go.Proofs.Tryz.f227.body.getD .skip) s_l05Num x = ((∀ (y : Unit), True → True ∧ True ∧ True) ∧ (∃ (i : Int), ((0 : Int) ≤ i ∧ i ≤ (↑(List.length x) : Int) ∧ ∀ (e : UInt8), e ∈ List.take (Int.toNat i) x → isFig e = true) ∧ (x = x ∧ (0 : Int) = i ∧ True) ∧ True) ∧ ∀ (i : Int), ((0 : Int) ≤ i ∧ i ≤ (↑(List.length x) : Int) ∧ ∀ (e : UInt8), e ∈ List.take (Int.toNat i) x → isFig e = true) → bcase (decide (i < (↑(List.length x) : Int))) (((0 : Int) ≤ i ∧ i < (↑(List.length x) : Int)) ∧ ∀ (c : UInt8), x[Int.toNat i]? = some c → ∃ (x_1 : UInt8), True ∧ (↑(UInt8.toNat c) : Int) = (↑(UInt8.toNat x_1) : Int) ∧ ∀ (y : Unit), True → bcase (!isFig x_1) (∃ (y : Unit), True ∧ false = isSgn x (2 : Int) ∧ True) (inR IntKind.i64 (i + (1 : Int)) ∧ ∃ (i' : Int), ((0 : Int) ≤ i' ∧ i' ≤ (↑(List.length x) : Int) ∧ ∀ (e : UInt8), e ∈ List.take (Int.toNat i') x → isFig e = true) ∧ List.length x - Int.toNat i' < List.length x - Int.toNat i ∧ (x = x ∧ i + (1 : Int) = i' ∧ True) ∧ True)) (∃ (x_1 : Int × Int × Int), True ∧ (↑(List.length x) : Int) = x_1.fst ∧ (1 : Int) = x_1.snd.fst ∧ (12 : Int) = x_1.snd.snd ∧ ∀ (y : Unit), True → ∃ (y : Unit), True ∧ inn x_1.fst x_1.snd.fst x_1.snd.snd = isSgn x (2 : Int) ∧ True)) := by kernel_rfl
theorem l05Num_ok  : Contract G Tryz.prog 227 s_l05Num :=
  vcFun_ok (Γ := Γof [(84, 0, s_l01In), (220, 0, s_l04Figure)]) (E := Eof []) (ov := false) (L := fun x => Lof ([(2,lTake isFig x fun i => [(0, .str x), (3, .int .i64 i)])])) Tryz.func227 rfl (by decide) (Γof_ok (l := [(84, 0, s_l01In), (220, 0, s_l04Figure)]) ⟨l01In_ok, l04Figure_ok, trivial⟩) fun (x : List UInt8) (hx : x.length < 2 ^ 62) => (l05Num_vc  x).mpr (by
  (repeat' first | with_reducible rfl | exact True.intro | refine inR_i64 ?_ ?_ | with_reducible refine And.intro ?_ ?_ | with_reducible refine bcase_dec (fun _ => ?_) (fun _ => ?_) | with_reducible refine bcase_bne (fun _ => ?_) (fun _ => ?_) | with_reducible refine bcase_beq (fun _ => ?_) (fun _ => ?_) | with_reducible refine bcase_not (fun _ => ?_) (fun _ => ?_) | refine bcase_intro (fun _ => ?_) (fun _ => ?_) | refine sl_eq ?_ | refine ex_flip () ?_ ?_ | (apply ex_flip6 <;> try dsimp only) | (apply ex_flip5 <;> try dsimp only) | (apply ex_flip4 <;> try dsimp only) | (apply ex_flip3 <;> try dsimp only) | (apply ex_flip2 <;> try dsimp only) | apply ex_flip | (refine Prod.forall.2 ?_; intro _; try dsimp only) | (intro _; try dsimp only)) <;> (try dsimp only at *) <;> (try simp only [i64max, List.length_cons, List.length_nil]) <;> (try omega)
  · rename_i h; simp at h
  · rename_i i hi hl c hc _ _ h; rw [sg_num, not_all hc h]; rfl
  · rename_i i hi hl c hc _ _ h e he
    rw [toNat1 hi.1] at he; exact all_take_succ hi.2.2 hc h e he
  · rename_i i hi hl _ _; rw [sg_num, all_of_take hi.2.2 (by omega)]; simp only [Bool.true_and, inn]; rw [Bool.eq_iff_iff]; simp; omega)

def s_l05Quoted  : Sig := { X := List UInt8, args := fun x => [.str x], pre := fun x => x.length < 2 ^ 62, Y := Unit, post := fun x y => True, res := fun x y => .bool (isSgn x 3), outs := fun x y => [.top], keep := false }
theorem l05Quoted_vc (x : List UInt8) : vcFun Go.Proofs.Tryz.prog (Γof [(247, 0, s_l04Quoted)]) (Eof []) false (Lof ([])) Go.Proofs.Tryz.f228.ntmps Go.Proofs.Tryz.f228.results.toList (Go.Proofs.Tryz.f228.body.getD .skip) s_l05Quoted x = ((∀ (y : Unit), True → True ∧ True ∧ True) ∧ bcase (decide ((↑(List.length x) : Int) > (1 : Int))) (((0 : Int) ≤ (0 : Int) ∧ (0 : Int) < (↑(List.length x) : Int)) ∧ ∀ (c : UInt8), x[(0 : Nat)]? = some c → bcase ((↑(UInt8.toNat c) : Int) == (39 : Int)) (∃ (x_1 : List UInt8 × Int), ((0 : Int) ≤ x_1.snd ∧ x_1.snd ≤ (↑(List.length x_1.fst) : Int) ∧ List.length x_1.fst < (4611686018427387904 : Nat)) ∧ x = x_1.fst ∧ (0 : Int) = x_1.snd ∧ ∀ (y : Unit), True → ∃ (y : Unit), True ∧ ((↑(qlen (List.drop (Int.toNat x_1.snd) x_1.fst)) : Int) == (↑(List.length x) : Int)) = isSgn x (3 : Int) ∧ True) (∃ (y : Unit), True ∧ false = isSgn x (3 : Int) ∧ True)) (∃ (y : Unit), True ∧ false = isSgn x (3 : Int) ∧ True)) := by kernel_rfl
theorem l05Quoted_ok  : Contract G Tryz.prog 228 s_l05Quoted :=
  vcFun_ok (Γ := Γof [(247, 0, s_l04Quoted)]) (E := Eof []) (ov := false) (L := fun x => Lof ([])) Tryz.func228 rfl (by decide) (Γof_ok (l := [(247, 0, s_l04Quoted)]) ⟨l04Quoted_ok, trivial⟩) fun (x : List UInt8) (hx : x.length < 2 ^ 62) => (l05Quoted_vc  x).mpr (by
  (repeat' first | with_reducible rfl | exact True.intro | refine inR_i64 ?_ ?_ | with_reducible refine And.intro ?_ ?_ | with_reducible refine bcase_dec (fun _ => ?_) (fun _ => ?_) | with_reducible refine bcase_bne (fun _ => ?_) (fun _ => ?_) | with_reducible refine bcase_beq (fun _ => ?_) (fun _ => ?_) | with_reducible refine bcase_not (fun _ => ?_) (fun _ => ?_) | refine bcase_intro (fun _ => ?_) (fun _ => ?_) | refine sl_eq ?_ | refine ex_flip () ?_ ?_ | (apply ex_flip6 <;> try dsimp only) | (apply ex_flip5 <;> try dsimp only) | (apply ex_flip4 <;> try dsimp only) | (apply ex_flip3 <;> try dsimp only) | (apply ex_flip2 <;> try dsimp only) | apply ex_flip | (refine Prod.forall.2 ?_; intro _; try dsimp only) | (intro _; try dsimp only)) <;> (try dsimp only at *) <;> (try simp only [i64max, List.length_cons, List.length_nil]) <;> (try omega)
  · exact q_yes (by assumption) (by assumption) (by assumption)
  · exact q_no (by assumption) (by assumption)
  · exact q_short (by assumption))

def s_l05Note  : Sig := { X := List UInt8, args := fun x => [.str x], pre := fun x => x.length < 2 ^ 62, Y := Unit, post := fun x y => True, res := fun x y => .bool (isSgn x 5), outs := fun x y => [.top], keep := false }
theorem l05Note_vc (x : List UInt8) : vcFun Go.Proofs.Tryz.prog (Γof [(248, 0, s_l04Note), (249, 0, s_sTrim)]) (Eof []) false (Lof ([])) Go.Proofs.Tryz.f229.ntmps Go.Proofs.Tryz.f229.results.toList (Go.Proofs.Tryz.f229.body.getD .skip) s_l05Note x = ((∀ (y : Unit), True → True ∧ True ∧ True) ∧ bcase (decide ((↑(List.length x) : Int) > (1 : Int))) (∃ (x_1 : List UInt8 × Int), ((0 : Int) ≤ x_1.snd ∧ x_1.snd ≤ (↑(List.length x_1.fst) : Int) ∧ List.length x_1.fst < (4611686018427387904 : Nat)) ∧ x = x_1.fst ∧ (0 : Int) = x_1.snd ∧ ∀ (y : Unit), True → bcase ((↑(nlen (List.drop (Int.toNat x_1.snd) x_1.fst)) : Int) == (↑(List.length x) : Int)) (∃ (x_2 : List UInt8), List.length x_2 < (9223372036854775808 : Nat) ∧ x = x_2 ∧ ∀ (y : Unit), True → ∃ (y : Unit), True ∧ (trimR x_2 == x) = isSgn x (5 : Int) ∧ True) (∃ (y : Unit), True ∧ false = isSgn x (5 : Int) ∧ True)) (∃ (y : Unit), True ∧ false = isSgn x (5 : Int) ∧ True)) := by kernel_rfl
theorem l05Note_ok  : Contract G Tryz.prog 229 s_l05Note :=
  vcFun_ok (Γ := Γof [(248, 0, s_l04Note), (249, 0, s_sTrim)]) (E := Eof []) (ov := false) (L := fun x => Lof ([])) Tryz.func229 rfl (by decide) (Γof_ok (l := [(248, 0, s_l04Note), (249, 0, s_sTrim)]) ⟨l04Note_ok, sTrim_ok, trivial⟩) fun (x : List UInt8) (hx : x.length < 2 ^ 62) => (l05Note_vc  x).mpr (by
  (repeat' first | with_reducible rfl | exact True.intro | refine inR_i64 ?_ ?_ | with_reducible refine And.intro ?_ ?_ | with_reducible refine bcase_dec (fun _ => ?_) (fun _ => ?_) | with_reducible refine bcase_bne (fun _ => ?_) (fun _ => ?_) | with_reducible refine bcase_beq (fun _ => ?_) (fun _ => ?_) | with_reducible refine bcase_not (fun _ => ?_) (fun _ => ?_) | refine bcase_intro (fun _ => ?_) (fun _ => ?_) | refine sl_eq ?_ | refine ex_flip () ?_ ?_ | (apply ex_flip6 <;> try dsimp only) | (apply ex_flip5 <;> try dsimp only) | (apply ex_flip4 <;> try dsimp only) | (apply ex_flip3 <;> try dsimp only) | (apply ex_flip2 <;> try dsimp only) | apply ex_flip | (refine Prod.forall.2 ?_; intro _; try dsimp only) | (intro _; try dsimp only)) <;> (try dsimp only at *) <;> (try simp only [i64max, List.length_cons, List.length_nil]) <;> (try omega)
  · exact n_yes (by assumption) (by assumption)
  · exact n_no (by assumption)
  · exact n_short (by assumption))

def s_l05Chain  : Sig := { X := List UInt8, args := fun x => [.str x], pre := fun x => x.length < 2 ^ 62, Y := Unit, post := fun x y => True, res := fun x y => .bool (chainOk x), outs := fun x y => [.top], keep := false }
theorem l05Chain_vc (x : List UInt8) : vcFun Go.Proofs.Tryz.prog (Γof []) (Eof []) false (Lof ([])) Go.Proofs.Tryz.f230.ntmps Go.Proofs.Tryz.f230.results.toList (Go.Proofs.Tryz.f230.body.getD .skip) s_l05Chain x = ((∀ (y : Unit), True → True ∧ True ∧ True) ∧ bcase (x == #[(38 : UInt8), (38 : UInt8)].toList) (∃ (y : Unit), True ∧ true = chainOk x ∧ True) (bcase (x == #[(124 : UInt8), (124 : UInt8)].toList) (∃ (y : Unit), True ∧ true = chainOk x ∧ True) (bcase (x == #[(61 : UInt8), (61 : UInt8)].toList) (∃ (y : Unit), True ∧ true = chainOk x ∧ True) (bcase (x == #[(60 : UInt8)].toList) (∃ (y : Unit), True ∧ true = chainOk x ∧ True) (bcase (x == #[(43 : UInt8)].toList) (∃ (y : Unit), True ∧ true = chainOk x ∧ True) (bcase (x == #[(45 : UInt8)].toList) (∃ (y : Unit), True ∧ true = chainOk x ∧ True) (bcase (x == #[(42 : UInt8)].toList) (∃ (y : Unit), True ∧ true = chainOk x ∧ True) (∃ (y : Unit), True ∧ false = chainOk x ∧ True)))))))) := by kernel_rfl
theorem l05Chain_ok  : Contract G Tryz.prog 230 s_l05Chain :=
  vcFun_ok (Γ := Γof []) (E := Eof []) (ov := false) (L := fun x => Lof ([])) Tryz.func230 rfl (by decide) (Γof_ok (l := []) trivial) fun (x : List UInt8) (hx : x.length < 2 ^ 62) => (l05Chain_vc  x).mpr (by
  (repeat' first | with_reducible rfl | exact True.intro | refine inR_i64 ?_ ?_ | with_reducible refine And.intro ?_ ?_ | with_reducible refine bcase_dec (fun _ => ?_) (fun _ => ?_) | with_reducible refine bcase_bne (fun _ => ?_) (fun _ => ?_) | with_reducible refine bcase_beq (fun _ => ?_) (fun _ => ?_) | with_reducible refine bcase_not (fun _ => ?_) (fun _ => ?_) | refine bcase_intro (fun _ => ?_) (fun _ => ?_) | refine sl_eq ?_ | refine ex_flip () ?_ ?_ | (apply ex_flip6 <;> try dsimp only) | (apply ex_flip5 <;> try dsimp only) | (apply ex_flip4 <;> try dsimp only) | (apply ex_flip3 <;> try dsimp only) | (apply ex_flip2 <;> try dsimp only) | apply ex_flip | (refine Prod.forall.2 ?_; intro _; try dsimp only) | (intro _; try dsimp only)) <;> (try dsimp only at *) <;> (try simp only [i64max, List.length_cons, List.length_nil]) <;> (try omega)
  all_goals simp [chainOk, *])

def s_l05Text  : Sig := { X := Int × List UInt8, args := fun x => [.int .i64 x.1, .str x.2], pre := fun x => x.2.length < 2 ^ 62, Y := Unit, post := fun x y => True, res := fun x y => .bool (textOk x.1 x.2), outs := fun x y => [.top, .top], keep := false }
theorem l05Text_vc (x : Int × List UInt8) : vcFun Go.Proofs.Tryz.prog (Γof [(226, 0, s_l05Name), (227, 0, s_l05Num), (228, 0, s_l05Quoted), (229, 0, s_l05Note), (230, 0, s_l05Chain)]) (Eof []) false (Lof ([])) Go.Proofs.Tryz.f203.ntmps Go.Proofs.Tryz.f203.results.toList (Go.Proofs.Tryz.f203.body.getD .skip) s_l05Text x = ((∀ (y : Unit), True → True ∧ True ∧ True ∧ True) ∧ bcase (x.fst == (1 : Int)) (∃ (x_1 : List UInt8), List.length x_1 < (4611686018427387904 : Nat) ∧ x.snd = x_1 ∧ ∀ (y : Unit), True → ∃ (y : Unit), True ∧ nameOk x_1 = textOk x.fst x.snd ∧ True) (bcase (x.fst == (6 : Int)) (∃ (x_1 : List UInt8), List.length x_1 < (4611686018427387904 : Nat) ∧ x.snd = x_1 ∧ ∀ (y : Unit), True → ∃ (y : Unit), True ∧ nameOk x_1 = textOk x.fst x.snd ∧ True) (bcase (x.fst == (12 : Int)) (∃ (x_1 : List UInt8), List.length x_1 < (4611686018427387904 : Nat) ∧ x.snd = x_1 ∧ ∀ (y : Unit), True → ∃ (y : Unit), True ∧ nameOk x_1 = textOk x.fst x.snd ∧ True) (bcase (x.fst == (13 : Int)) (∃ (x_1 : List UInt8), List.length x_1 < (4611686018427387904 : Nat) ∧ x.snd = x_1 ∧ ∀ (y : Unit), True → ∃ (y : Unit), True ∧ nameOk x_1 = textOk x.fst x.snd ∧ True) (bcase (x.fst == (20 : Int)) (∃ (x_1 : List UInt8), List.length x_1 < (4611686018427387904 : Nat) ∧ x.snd = x_1 ∧ ∀ (y : Unit), True → ∃ (y : Unit), True ∧ nameOk x_1 = textOk x.fst x.snd ∧ True) (bcase (x.fst == (21 : Int)) (∃ (x_1 : List UInt8), List.length x_1 < (4611686018427387904 : Nat) ∧ x.snd = x_1 ∧ ∀ (y : Unit), True → ∃ (y : Unit), True ∧ nameOk x_1 = textOk x.fst x.snd ∧ True) (bcase (x.fst == (2 : Int)) (∃ (x_1 : List UInt8), List.length x_1 < (4611686018427387904 : Nat) ∧ x.snd = x_1 ∧ ∀ (y : Unit), True → ∃ (y : Unit), True ∧ isSgn x_1 (2 : Int) = textOk x.fst x.snd ∧ True) (bcase (x.fst == (3 : Int)) (∃ (x_1 : List UInt8), List.length x_1 < (4611686018427387904 : Nat) ∧ x.snd = x_1 ∧ ∀ (y : Unit), True → ∃ (y : Unit), True ∧ isSgn x_1 (3 : Int) = textOk x.fst x.snd ∧ True) (bcase (x.fst == (19 : Int)) (∃ (x_1 : List UInt8), List.length x_1 < (4611686018427387904 : Nat) ∧ x.snd = x_1 ∧ ∀ (y : Unit), True → ∃ (y : Unit), True ∧ isSgn x_1 (5 : Int) = textOk x.fst x.snd ∧ True) (bcase (x.fst == (7 : Int)) (∃ (x_1 : List UInt8), List.length x_1 < (4611686018427387904 : Nat) ∧ x.snd = x_1 ∧ ∀ (y : Unit), True → ∃ (y : Unit), True ∧ chainOk x_1 = textOk x.fst x.snd ∧ True) (∃ (y : Unit), True ∧ (x.snd == #[].toList) = textOk x.fst x.snd ∧ True))))))))))) := by kernel_rfl
theorem l05Text_ok  : Contract G Tryz.prog 203 s_l05Text :=
  vcFun_ok (Γ := Γof [(226, 0, s_l05Name), (227, 0, s_l05Num), (228, 0, s_l05Quoted), (229, 0, s_l05Note), (230, 0, s_l05Chain)]) (E := Eof []) (ov := false) (L := fun x => Lof ([])) Tryz.func203 rfl (by decide) (Γof_ok (l := [(226, 0, s_l05Name), (227, 0, s_l05Num), (228, 0, s_l05Quoted), (229, 0, s_l05Note), (230, 0, s_l05Chain)]) ⟨l05Name_ok, l05Num_ok, l05Quoted_ok, l05Note_ok, l05Chain_ok, trivial⟩) fun (x : Int × List UInt8) (hx : x.2.length < 2 ^ 62) => (l05Text_vc  x).mpr (by
  (repeat' first | with_reducible rfl | exact True.intro | refine inR_i64 ?_ ?_ | with_reducible refine And.intro ?_ ?_ | with_reducible refine bcase_dec (fun _ => ?_) (fun _ => ?_) | with_reducible refine bcase_bne (fun _ => ?_) (fun _ => ?_) | with_reducible refine bcase_beq (fun _ => ?_) (fun _ => ?_) | with_reducible refine bcase_not (fun _ => ?_) (fun _ => ?_) | refine bcase_intro (fun _ => ?_) (fun _ => ?_) | refine sl_eq ?_ | refine ex_flip () ?_ ?_ | (apply ex_flip6 <;> try dsimp only) | (apply ex_flip5 <;> try dsimp only) | (apply ex_flip4 <;> try dsimp only) | (apply ex_flip3 <;> try dsimp only) | (apply ex_flip2 <;> try dsimp only) | apply ex_flip | (refine Prod.forall.2 ?_; intro _; try dsimp only) | (intro _; try dsimp only)) <;> (try dsimp only at *) <;> (try simp only [i64max, List.length_cons, List.length_nil]) <;> (try omega)
  all_goals simp [textOk, *])

end Go.My
end
section
/- Nodes, plainly: the two ways to say when one is right. -/
set_option linter.unusedVariables false
set_option linter.unusedSimpArgs false
namespace Go.My
open Go.Eng

def lohi (k : Int) : Int × Int :=
  if k = 4 ∨ k = 18 ∨ k = 21 ∨ k = 22 then (0, 12)
  else if k = 5 ∨ k = 9 ∨ k = 20 then (1, 12)
  else if k = 6 ∨ k = 11 ∨ k = 13 ∨ k = 14 then (1, 1)
  else if k = 7 ∨ k = 10 then (2, 12)
  else if k = 8 then (3, 3)
  else if k = 12 ∨ k = 15 then (0, 1)
  else if k = 16 then (2, 3)
  else if k = 17 then (2, 2)
  else (0, 0)
/- by its kind alone -/
def fitKind (k n i y : Int) : Bool :=
  if k = 9 then (if i + 1 < n then isNm y else isVal y)
  else if k = 20 then (if i + 1 < n then isNm y else isBlk y)
  else if k = 10 then (if 0 < i then isCl y else isVal y)
  else if k = 16 ∨ k = 17 then (if 0 < i then isBlk y else isVal y)
  else if k = 18 then isSt y
  else if k = 21 then isMem y
  else if k = 22 then isTop y
  else isVal y
def fitK (ns : List Nd) (x : Nd) (i c : Int) : Bool :=
  fitKind x.kind x.kids.length i (kindAt ns c) && (if x.kind = 10 ∧ 0 < i then decide (kindAt ns ((ndAt ns c).kids.headD 0) = 1) else true)
def kidOkS (ns : List Nd) (x : Nd) (i c : Int) : Bool :=
  (!(decide (kindAt ns c = 5) && (decide ((ndAt ns c).kids.length = 0) || !isNd ns ((ndAt ns c).kids.headD 0)))) && fitK ns x i c
def allAt (f : Int → Int → Bool) : List Int → Int → Bool
  | [], _ => true
  | c :: l, i => f i c && allAt f l (i + 1)
theorem allAt_congr {f g : Int → Int → Bool} : ∀ {l : List Int} {i : Int}, (∀ j c, i ≤ j → j < i + l.length → c ∈ l → f j c = g j c) → allAt f l i = allAt g l i
  | [], i, h => rfl
  | c :: l, i, h => by
    simp only [allAt]
    rw [h i c (Int.le_refl i) (by simp; omega) (by simp), allAt_congr (fun j c hj hl hc => h j c (by omega) (by simp; omega) (by simp [hc]))]
theorem allAt_and {f g : Int → Int → Bool} : ∀ {l : List Int} {i : Int}, allAt (fun i c => f i c && g i c) l i = (allAt f l i && allAt g l i)
  | [], i => rfl
  | c :: l, i => by
    simp only [allAt]; rw [allAt_and]
    cases f i c <;> cases g i c <;> cases allAt f l (i + 1) <;> cases allAt g l (i + 1) <;> rfl
theorem allAt_const {f : Int → Bool} : ∀ {l : List Int} {i : Int}, allAt (fun _ c => f c) l i = l.all f
  | [], i => rfl
  | c :: l, i => by simp only [allAt, List.all_cons]; rw [allAt_const]
theorem allAt_map {f : Int → Int → Bool} {g : Int → Int} : ∀ {l : List Int} {i : Int}, allAt f (l.map g) i = allAt (fun i c => f i (g c)) l i
  | [], i => rfl
  | c :: l, i => by simp only [allAt, List.map_cons]; rw [allAt_map]
theorem allAt_append {f : Int → Int → Bool} : ∀ {l m : List Int} {i : Int}, allAt f (l ++ m) i = (allAt f l i && allAt f m (i + l.length))
  | [], m, i => by simp [allAt]
  | c :: l, m, i => by
    simp only [List.cons_append, allAt]; rw [allAt_append, Bool.and_assoc]
    congr 2; congr 1; simp; omega
theorem allAt_zip {f : Int → Int → Bool} : ∀ {l : List Int} {i : Nat}, ((l.zipIdx i).all fun p => f p.2 p.1) = allAt f l i
  | [], i => rfl
  | c :: l, i => by
    simp only [List.zipIdx_cons, List.all_cons, allAt]; rw [allAt_zip]; congr 2
theorem allAt_iff {f : Int → Int → Bool} {l : List Int} : allAt f l 0 = true ↔ ∀ (j : Nat) c, l[j]? = some c → f j c = true := by
  have : ∀ (l : List Int) (i : Nat), allAt f l i = true ↔ ∀ (j : Nat) c, l[j]? = some c → f (i + j : Nat) c = true := by
    intro l
    induction l with
    | nil => intro i; simp [allAt]
    | cons c l ih =>
      intro i
      simp only [allAt, Bool.and_eq_true]
      have := ih (i + 1)
      rw [show ((i : Int) + 1) = ((i + 1 : Nat) : Int) from by omega, this]
      constructor
      · rintro ⟨h1, h2⟩ j d hd
        cases j with
        | zero => simp at hd; subst hd; simpa using h1
        | succ j => have := h2 j d (by simpa using hd); rwa [show i + 1 + j = i + (j + 1) by omega] at this
      · intro h
        refine ⟨by simpa using h 0 c rfl, fun j d hd => ?_⟩
        have := h (j + 1) d (by simpa using hd)
        rwa [show i + (j + 1) = i + 1 + j by omega] at this
  have := this l 0
  simpa using this
/- the kids' kinds, one way and the other -/
theorem last_split {l : List Int} {k : Int} (h : l.getLast? = some k) : l = l.dropLast ++ [k] := by
  have hne : l ≠ [] := by intro e; rw [e] at h; cases h
  rw [List.getLast?_eq_some_getLast hne] at h
  have := List.dropLast_concat_getLast hne
  rw [Option.some.inj h] at this; exact this.symm
theorem fit_last {p : Int → Bool} {l : List Int} : (decide (1 ≤ l.length) && allAt (fun i y => if i + 1 < (l.length : Int) then isNm y else p y) l 0) = lastIs p l := by
  unfold lastIs
  cases h : l.getLast? with
  | none => have : l = [] := by simpa using h
            subst this; rfl
  | some k =>
    have e := last_split h
    generalize hd : l.dropLast = m at e ⊢
    subst e
    rw [allAt_append]
    have h1 : allAt (fun i y => if i + 1 < ((m ++ [k]).length : Int) then isNm y else p y) m 0 = m.all isNm := by
      rw [← allAt_const (i := 0)]
      exact allAt_congr fun j c h0 hj hc => if_pos (by simp; omega)
    rw [h1]
    simp only [allAt]
    have h2 : ¬ ((0 : Int) + m.length + 1 < ((m ++ [k]).length : Int)) := by simp
    rw [if_neg h2]
    have : decide (1 ≤ (m ++ [k]).length) = true := by simp
    rw [this]; simp [Bool.and_comm]
theorem fit_head {p q : Int → Bool} {c : Int} {l : List Int} : allAt (fun i y => if 0 < i then q y else p y) (c :: l) 0 = (p c && l.all q) := by
  simp only [allAt]
  have h1 : ¬ ((0 : Int) < 0) := by omega
  rw [if_neg h1]
  congr 1
  rw [← allAt_const (i := 0 + 1)]
  exact allAt_congr fun j c h0 hj hc => if_pos (by omega)
theorem kinds_bridge {k : Int} {l : List Int} (h1 : 1 ≤ k) (h2 : k ≤ 22) : (inn l.length (lohi k).1 (lohi k).2 && allAt (fun i y => fitKind k l.length i y) l 0) = (decide (l.length ≤ 12) && kindsOk k l) := by
  have hk : k = 1 ∨ k = 2 ∨ k = 3 ∨ k = 4 ∨ k = 5 ∨ k = 6 ∨ k = 7 ∨ k = 8 ∨ k = 9 ∨ k = 10 ∨ k = 11 ∨ k = 12 ∨ k = 13 ∨ k = 14 ∨ k = 15 ∨ k = 16 ∨ k = 17 ∨ k = 18 ∨ k = 19 ∨ k = 20 ∨ k = 21 ∨ k = 22 := by omega
  have len0 : ∀ {b c : Bool}, l.length = 0 → (l = []) := fun h => List.length_eq_zero_iff.1 h
  rcases hk with rfl | rfl | rfl | rfl | rfl | rfl | rfl | rfl | rfl | rfl | rfl | rfl | rfl | rfl | rfl | rfl | rfl | rfl | rfl | rfl | rfl | rfl
  all_goals simp only [lohi, fitKind, kindsOk, inn, Int.reduceEq, or_self, or_false, false_or, or_true, true_or, if_true, if_false, reduceIte]
  -- without kids
  all_goals try (
    by_cases h : l.length = 0
    · have := List.length_eq_zero_iff.1 h; subst this; rfl
    · have e1 : decide ((l.length : Int) ≤ 0) = false := decide_eq_false (by omega)
      have e2 : decide (l.length = 0) = false := decide_eq_false h
      simp only [e1, e2, Bool.and_false, Bool.false_and]; done)
  all_goals try rw [allAt_const]
  all_goals try (
    generalize l.all _ = b
    rw [Bool.eq_iff_iff]; cases b <;> simp only [Bool.and_eq_true, decide_eq_true_eq, Bool.false_eq_true, and_false, and_true] <;> omega)
  -- 9
  · rw [show decide (1 ≤ (l.length : Int)) = decide (1 ≤ l.length) from decide_eq_decide.2 (by omega), show decide ((l.length : Int) ≤ 12) = decide (l.length ≤ 12) from decide_eq_decide.2 (by omega), ← fit_last (p := isVal)]
    generalize allAt _ l 0 = b
    cases decide (1 ≤ l.length) <;> cases decide (l.length ≤ 12) <;> cases b <;> rfl
  -- 10
  · cases l with
    | nil => rfl
    | cons c l =>
      rw [fit_head]
      simp only [List.headD_cons, List.drop_succ_cons, List.drop_zero]
      generalize isVal c = b; generalize l.all _ = d
      rw [Bool.eq_iff_iff]; cases b <;> cases d <;> simp only [Bool.and_eq_true, decide_eq_true_eq, Bool.false_eq_true, and_false, and_true] <;> omega
  -- 16
  · cases l with
    | nil => rfl
    | cons c l =>
      rw [fit_head]
      simp only [List.headD_cons, List.drop_succ_cons, List.drop_zero]
      generalize isVal c = b; generalize l.all _ = d
      rw [Bool.eq_iff_iff]; cases b <;> cases d <;> simp only [Bool.and_eq_true, decide_eq_true_eq, Bool.false_eq_true, and_false, and_true] <;> omega
  -- 17
  · match l with
    | [] => rfl
    | [c] => rfl
    | [c, d] => simp [allAt]
    | c :: d :: e :: l =>
      have e1 : decide (((c :: d :: e :: l).length : Int) ≤ 2) = false := decide_eq_false (by simp; omega)
      have e2 : decide ((c :: d :: e :: l).length = 2) = false := decide_eq_false (by simp)
      rw [e1, e2]; simp
  -- 20
  · rw [show decide (1 ≤ (l.length : Int)) = decide (1 ≤ l.length) from decide_eq_decide.2 (by omega), show decide ((l.length : Int) ≤ 12) = decide (l.length ≤ 12) from decide_eq_decide.2 (by omega), ← fit_last (p := isBlk)]
    generalize allAt _ l 0 = b
    cases decide (1 ≤ l.length) <;> cases decide (l.length ≤ 12) <;> cases b <;> rfl
theorem kinds_out {k : Int} {l : List Int} (h : inn k 1 22 = false) : kindsOk k l = false := by
  have h : ¬ (1 ≤ k ∧ k ≤ 22) := by intro hh; simp [inn] at h; omega
  unfold kindsOk
  have e : ∀ j : Int, 1 ≤ j → j ≤ 22 → k ≠ j := fun j h1 h2 e => h (by omega)
  simp [e]
/- a kid, both ways -/
theorem kid_bridge {ns : List Nd} {x : Nd} {i c : Int} : kidOkS ns x i c = (fitKind x.kind x.kids.length i (kindAt ns c) && callOk ns x i.toNat c) := by
  unfold kidOkS fitK callOk kindAt
  generalize hy : ndAt ns c = y
  by_cases h5 : y.kind = 5
  · simp only [h5, if_true, decide_true, Bool.true_and]
    cases hk : y.kids with
    | nil => simp
    | cons h t =>
      simp only [List.length_cons, List.headD_cons]
      have e0 : decide (t.length + 1 = 0) = false := by simp
      rw [e0]
      by_cases hx : x.kind = 10 ∧ 0 < i
      · have hi : 0 < i.toNat := by omega
        simp only [hx, and_self, if_true, decide_true, Bool.true_and, hi]
        generalize fitKind 10 _ _ _ = a; generalize isNd ns h = b
        by_cases hd : (ndAt ns h).kind = 1 <;> cases a <;> cases b <;> simp [hd]
      · rw [if_neg hx]
        have : (decide (x.kind = 10) && (decide (0 < i.toNat) && !decide ((ndAt ns h).kind = 1))) = false := by
          by_cases h1 : x.kind = 10
          · have : ¬ 0 < i.toNat := by omega
            simp [this]
          · simp [h1]
        rw [this]
        generalize fitKind _ _ _ _ = a; generalize isNd ns h = b
        cases a <;> cases b <;> rfl
  · simp only [h5, if_false, decide_false, Bool.false_and, Bool.not_false, Bool.true_and, Bool.and_true]
    by_cases hx : x.kind = 10 ∧ 0 < i
    · rw [if_pos hx]
      have : fitKind x.kind x.kids.length i y.kind = false := by
        simp [fitKind, hx, isCl, h5]
      rw [this]; rfl
    · rw [if_neg hx]; simp
theorem node_bridge {ns : List Nd} {k : Int} {x : Nd} : nodeOk1 ns k x =
    (inn x.kind 1 22 && (inn x.kids.length (lohi x.kind).1 (lohi x.kind).2 && (textOk x.kind x.text && ((mayBlank x.kind || !x.blank) && ((kidsIn x.kids k && decide x.kids.Nodup) && allAt (kidOkS ns x) x.kids 0))))) := by
  have e1 : allAt (kidOkS ns x) x.kids 0 = (allAt (fun i y => fitKind x.kind (x.kids.map (kindAt ns)).length i y) (x.kids.map (kindAt ns)) 0 && callsOk ns x) := by
    have : (kidOkS ns x) = fun i c => (fitKind x.kind x.kids.length i (kindAt ns c) && callOk ns x i.toNat c) := by
      funext i c; exact kid_bridge
    rw [this, allAt_and, allAt_map, List.length_map]
    congr 1
    unfold callsOk
    have : (fun p : Int × Nat => callOk ns x p.2 p.1) = fun p : Int × Nat => (fun (i c : Int) => callOk ns x i.toNat c) p.2 p.1 := by
      funext p; simp
    rw [this]
    exact (allAt_zip (f := fun i c => callOk ns x i.toNat c) (i := 0)).symm
  unfold nodeOk1
  by_cases h : inn x.kind 1 22 = true
  · have hb := @kinds_bridge x.kind (x.kids.map (kindAt ns)) (by simp [inn] at h; omega) (by simp [inn] at h; omega)
    rw [List.length_map] at hb
    rw [e1, List.length_map, h]
    generalize decide (x.kids.length ≤ 12) = a at hb ⊢; generalize kindsOk x.kind _ = b at hb ⊢; generalize inn _ _ _ = c at hb ⊢
    generalize allAt _ _ 0 = d at hb ⊢; generalize textOk _ _ = e; generalize mayBlank _ = f; generalize callsOk _ _ = g; generalize kidsIn _ _ = h1; generalize decide x.kids.Nodup = h2
    cases a <;> cases b <;> cases c <;> cases d <;> simp at hb <;> cases e <;> cases f <;> cases g <;> cases h1 <;> cases h2 <;> simp
  · simp only [Bool.not_eq_true] at h
    rw [kinds_out h, h]; simp
end Go.My
end
section
/- Nodes: what the program's small functions compute. -/
set_option linter.unusedVariables false
set_option linter.unusedSimpArgs false
namespace Go.My
open Go.Eng Go.Proofs
variable {G : GInv}

theorem beqI {a b : Int} : (a == b) = decide (a = b) := by rw [Bool.eq_iff_iff]; simp
theorem all_take {α : Type} {p : α → Bool} {x : List α} {n : Nat} {e : α} (he : x[n]? = some e) (hp : p e = true) (h : ∀ e ∈ x.take n, p e = true) : ∀ e ∈ x.take (n + 1), p e = true := by
  rw [takeE he]; intro d hd
  rcases List.mem_append.1 hd with hd | hd
  · exact h d hd
  · simp at hd; subst hd; exact hp
theorem all_done {α : Type} {p : α → Bool} {x : List α} {n : Nat} (h : ∀ e ∈ x.take n, p e = true) (hn : x.length ≤ n) : x.all p = true := by
  rw [List.take_of_length_le hn] at h; exact List.all_eq_true.2 h
theorem all_not {α : Type} {p : α → Bool} {x : List α} {n : Nat} {e : α} (he : x[n]? = some e) (hp : p e = false) : x.all p = false := by
  rw [Bool.eq_false_iff]; intro h
  rw [List.all_eq_true.1 h e (List.mem_of_getElem? he)] at hp; cases hp
def s_isValue  : Sig := { X := Int, args := fun x => [.int .i64 x], pre := fun x => True, Y := Unit, post := fun x y => True, res := fun x y => .bool (isVal x), outs := fun x y => [.top], keep := false }
theorem isValue_vc (x : Int) : vcFun Go.Proofs.Tryz.prog (Γof [(92, 0, s_inRange)]) (Eof []) false (Lof ([])) Go.Proofs.Tryz.f144.ntmps Go.Proofs.Tryz.f144.results.toList (Go.Proofs.Tryz.f144.body.getD .skip) s_isValue x = ((∀ (y : Unit), True → True ∧ True ∧ True) ∧ ∃ (x_1 : Int × Int × Int), True ∧ x = x_1.fst ∧ (1 : Int) = x_1.snd.fst ∧ (11 : Int) = x_1.snd.snd ∧ ∀ (y : Unit), True → ∃ (y : Unit), True ∧ inn x_1.fst x_1.snd.fst x_1.snd.snd = isVal x ∧ True) := by kernel_rfl
theorem isValue_ok  : Contract G Tryz.prog 144 s_isValue :=
  vcFun_ok (Γ := Γof [(92, 0, s_inRange)]) (E := Eof []) (ov := false) (L := fun x => Lof ([])) Tryz.func144 rfl (by decide) (Γof_ok (l := [(92, 0, s_inRange)]) ⟨inRange_ok, trivial⟩) fun (x : Int) (hx : True) => (isValue_vc  x).mpr (by
  (repeat' first | with_reducible rfl | exact True.intro | refine inR_i64 ?_ ?_ | with_reducible refine And.intro ?_ ?_ | with_reducible refine bcase_dec (fun _ => ?_) (fun _ => ?_) | with_reducible refine bcase_bne (fun _ => ?_) (fun _ => ?_) | with_reducible refine bcase_beq (fun _ => ?_) (fun _ => ?_) | with_reducible refine bcase_not (fun _ => ?_) (fun _ => ?_) | refine bcase_intro (fun _ => ?_) (fun _ => ?_) | refine sl_eq ?_ | refine ex_flip () ?_ ?_ | (apply ex_flip6 <;> try dsimp only) | (apply ex_flip5 <;> try dsimp only) | (apply ex_flip4 <;> try dsimp only) | (apply ex_flip3 <;> try dsimp only) | (apply ex_flip2 <;> try dsimp only) | apply ex_flip | (refine Prod.forall.2 ?_; intro _; try dsimp only) | (intro _; try dsimp only)) <;> (try dsimp only at *) <;> (try simp only [i64max, List.length_cons, List.length_nil]) <;> (try omega)
  all_goals simp [isVal, beqI, *])

def s_isStep  : Sig := { X := Int, args := fun x => [.int .i64 x], pre := fun x => True, Y := Unit, post := fun x y => True, res := fun x y => .bool (isStep x), outs := fun x y => [.top], keep := false }
theorem isStep_vc (x : Int) : vcFun Go.Proofs.Tryz.prog (Γof [(92, 0, s_inRange)]) (Eof []) false (Lof ([])) Go.Proofs.Tryz.f183.ntmps Go.Proofs.Tryz.f183.results.toList (Go.Proofs.Tryz.f183.body.getD .skip) s_isStep x = ((∀ (y : Unit), True → True ∧ True ∧ True) ∧ ∃ (x_1 : Int × Int × Int), True ∧ x = x_1.fst ∧ (12 : Int) = x_1.snd.fst ∧ (17 : Int) = x_1.snd.snd ∧ ∀ (y : Unit), True → ∃ (y : Unit), True ∧ inn x_1.fst x_1.snd.fst x_1.snd.snd = isStep x ∧ True) := by kernel_rfl
theorem isStep_ok  : Contract G Tryz.prog 183 s_isStep :=
  vcFun_ok (Γ := Γof [(92, 0, s_inRange)]) (E := Eof []) (ov := false) (L := fun x => Lof ([])) Tryz.func183 rfl (by decide) (Γof_ok (l := [(92, 0, s_inRange)]) ⟨inRange_ok, trivial⟩) fun (x : Int) (hx : True) => (isStep_vc  x).mpr (by
  (repeat' first | with_reducible rfl | exact True.intro | refine inR_i64 ?_ ?_ | with_reducible refine And.intro ?_ ?_ | with_reducible refine bcase_dec (fun _ => ?_) (fun _ => ?_) | with_reducible refine bcase_bne (fun _ => ?_) (fun _ => ?_) | with_reducible refine bcase_beq (fun _ => ?_) (fun _ => ?_) | with_reducible refine bcase_not (fun _ => ?_) (fun _ => ?_) | refine bcase_intro (fun _ => ?_) (fun _ => ?_) | refine sl_eq ?_ | refine ex_flip () ?_ ?_ | (apply ex_flip6 <;> try dsimp only) | (apply ex_flip5 <;> try dsimp only) | (apply ex_flip4 <;> try dsimp only) | (apply ex_flip3 <;> try dsimp only) | (apply ex_flip2 <;> try dsimp only) | apply ex_flip | (refine Prod.forall.2 ?_; intro _; try dsimp only) | (intro _; try dsimp only)) <;> (try dsimp only at *) <;> (try simp only [i64max, List.length_cons, List.length_nil]) <;> (try omega)
  all_goals simp [isStep, beqI, *])

def s_isBlock  : Sig := { X := Int, args := fun x => [.int .i64 x], pre := fun x => True, Y := Unit, post := fun x y => True, res := fun x y => .bool (isBlk x), outs := fun x y => [.top], keep := false }
theorem isBlock_vc (x : Int) : vcFun Go.Proofs.Tryz.prog (Γof []) (Eof []) false (Lof ([])) Go.Proofs.Tryz.f216.ntmps Go.Proofs.Tryz.f216.results.toList (Go.Proofs.Tryz.f216.body.getD .skip) s_isBlock x = ((∀ (y : Unit), True → True ∧ True ∧ True) ∧ ∃ (y : Unit), True ∧ (x == (18 : Int)) = isBlk x ∧ True) := by kernel_rfl
theorem isBlock_ok  : Contract G Tryz.prog 216 s_isBlock :=
  vcFun_ok (Γ := Γof []) (E := Eof []) (ov := false) (L := fun x => Lof ([])) Tryz.func216 rfl (by decide) (Γof_ok (l := []) trivial) fun (x : Int) (hx : True) => (isBlock_vc  x).mpr (by
  (repeat' first | with_reducible rfl | exact True.intro | refine inR_i64 ?_ ?_ | with_reducible refine And.intro ?_ ?_ | with_reducible refine bcase_dec (fun _ => ?_) (fun _ => ?_) | with_reducible refine bcase_bne (fun _ => ?_) (fun _ => ?_) | with_reducible refine bcase_beq (fun _ => ?_) (fun _ => ?_) | with_reducible refine bcase_not (fun _ => ?_) (fun _ => ?_) | refine bcase_intro (fun _ => ?_) (fun _ => ?_) | refine sl_eq ?_ | refine ex_flip () ?_ ?_ | (apply ex_flip6 <;> try dsimp only) | (apply ex_flip5 <;> try dsimp only) | (apply ex_flip4 <;> try dsimp only) | (apply ex_flip3 <;> try dsimp only) | (apply ex_flip2 <;> try dsimp only) | apply ex_flip | (refine Prod.forall.2 ?_; intro _; try dsimp only) | (intro _; try dsimp only)) <;> (try dsimp only at *) <;> (try simp only [i64max, List.length_cons, List.length_nil]) <;> (try omega)
  all_goals simp [isBlk, beqI, *])

def s_isMember  : Sig := { X := Int, args := fun x => [.int .i64 x], pre := fun x => True, Y := Unit, post := fun x y => True, res := fun x y => .bool (isMem x), outs := fun x y => [.top], keep := false }
theorem isMember_vc (x : Int) : vcFun Go.Proofs.Tryz.prog (Γof []) (Eof []) false (Lof ([])) Go.Proofs.Tryz.f184.ntmps Go.Proofs.Tryz.f184.results.toList (Go.Proofs.Tryz.f184.body.getD .skip) s_isMember x = ((∀ (y : Unit), True → True ∧ True ∧ True) ∧ bcase (x == (12 : Int)) (∃ (y : Unit), True ∧ true = isMem x ∧ True) (bcase (x == (20 : Int)) (∃ (y : Unit), True ∧ true = isMem x ∧ True) (∃ (y : Unit), True ∧ (x == (19 : Int)) = isMem x ∧ True))) := by kernel_rfl
theorem isMember_ok  : Contract G Tryz.prog 184 s_isMember :=
  vcFun_ok (Γ := Γof []) (E := Eof []) (ov := false) (L := fun x => Lof ([])) Tryz.func184 rfl (by decide) (Γof_ok (l := []) trivial) fun (x : Int) (hx : True) => (isMember_vc  x).mpr (by
  (repeat' first | with_reducible rfl | exact True.intro | refine inR_i64 ?_ ?_ | with_reducible refine And.intro ?_ ?_ | with_reducible refine bcase_dec (fun _ => ?_) (fun _ => ?_) | with_reducible refine bcase_bne (fun _ => ?_) (fun _ => ?_) | with_reducible refine bcase_beq (fun _ => ?_) (fun _ => ?_) | with_reducible refine bcase_not (fun _ => ?_) (fun _ => ?_) | refine bcase_intro (fun _ => ?_) (fun _ => ?_) | refine sl_eq ?_ | refine ex_flip () ?_ ?_ | (apply ex_flip6 <;> try dsimp only) | (apply ex_flip5 <;> try dsimp only) | (apply ex_flip4 <;> try dsimp only) | (apply ex_flip3 <;> try dsimp only) | (apply ex_flip2 <;> try dsimp only) | apply ex_flip | (refine Prod.forall.2 ?_; intro _; try dsimp only) | (intro _; try dsimp only)) <;> (try dsimp only at *) <;> (try simp only [i64max, List.length_cons, List.length_nil]) <;> (try omega)
  all_goals simp [isMem, beqI, *])

def s_kf1  : Sig := { X := Int, args := fun x => [.int .i64 x], pre := fun x => True, Y := Unit, post := fun x y => True, res := fun x y => .bool (isCl x), outs := fun x y => [.top], keep := false }
theorem kf1_vc (x : Int) : vcFun Go.Proofs.Tryz.prog (Γof []) (Eof []) false (Lof ([])) Go.Proofs.Tryz.f215.ntmps Go.Proofs.Tryz.f215.results.toList (Go.Proofs.Tryz.f215.body.getD .skip) s_kf1 x = ((∀ (y : Unit), True → True ∧ True ∧ True) ∧ ∃ (y : Unit), True ∧ (x == (5 : Int)) = isCl x ∧ True) := by kernel_rfl
theorem kf1_ok  : Contract G Tryz.prog 215 s_kf1 :=
  vcFun_ok (Γ := Γof []) (E := Eof []) (ov := false) (L := fun x => Lof ([])) Tryz.func215 rfl (by decide) (Γof_ok (l := []) trivial) fun (x : Int) (hx : True) => (kf1_vc  x).mpr (by
  (repeat' first | with_reducible rfl | exact True.intro | refine inR_i64 ?_ ?_ | with_reducible refine And.intro ?_ ?_ | with_reducible refine bcase_dec (fun _ => ?_) (fun _ => ?_) | with_reducible refine bcase_bne (fun _ => ?_) (fun _ => ?_) | with_reducible refine bcase_beq (fun _ => ?_) (fun _ => ?_) | with_reducible refine bcase_not (fun _ => ?_) (fun _ => ?_) | refine bcase_intro (fun _ => ?_) (fun _ => ?_) | refine sl_eq ?_ | refine ex_flip () ?_ ?_ | (apply ex_flip6 <;> try dsimp only) | (apply ex_flip5 <;> try dsimp only) | (apply ex_flip4 <;> try dsimp only) | (apply ex_flip3 <;> try dsimp only) | (apply ex_flip2 <;> try dsimp only) | apply ex_flip | (refine Prod.forall.2 ?_; intro _; try dsimp only) | (intro _; try dsimp only)) <;> (try dsimp only at *) <;> (try simp only [i64max, List.length_cons, List.length_nil]) <;> (try omega)
  all_goals simp [isCl, beqI, *])

def s_kf2  : Sig := { X := Int, args := fun x => [.int .i64 x], pre := fun x => True, Y := Unit, post := fun x y => True, res := fun x y => .bool (isSt x), outs := fun x y => [.top], keep := false }
theorem kf2_vc (x : Int) : vcFun Go.Proofs.Tryz.prog (Γof [(183, 0, s_isStep)]) (Eof []) false (Lof ([])) Go.Proofs.Tryz.f217.ntmps Go.Proofs.Tryz.f217.results.toList (Go.Proofs.Tryz.f217.body.getD .skip) s_kf2 x = ((∀ (y : Unit), True → True ∧ True ∧ True) ∧ ∃ (x_1 : Int), True ∧ x = x_1 ∧ ∀ (y : Unit), True → bcase (isStep x_1) (∃ (y : Unit), True ∧ true = isSt x ∧ True) (∃ (y : Unit), True ∧ (x == (19 : Int)) = isSt x ∧ True)) := by kernel_rfl
theorem kf2_ok  : Contract G Tryz.prog 217 s_kf2 :=
  vcFun_ok (Γ := Γof [(183, 0, s_isStep)]) (E := Eof []) (ov := false) (L := fun x => Lof ([])) Tryz.func217 rfl (by decide) (Γof_ok (l := [(183, 0, s_isStep)]) ⟨isStep_ok, trivial⟩) fun (x : Int) (hx : True) => (kf2_vc  x).mpr (by
  (repeat' first | with_reducible rfl | exact True.intro | refine inR_i64 ?_ ?_ | with_reducible refine And.intro ?_ ?_ | with_reducible refine bcase_dec (fun _ => ?_) (fun _ => ?_) | with_reducible refine bcase_bne (fun _ => ?_) (fun _ => ?_) | with_reducible refine bcase_beq (fun _ => ?_) (fun _ => ?_) | with_reducible refine bcase_not (fun _ => ?_) (fun _ => ?_) | refine bcase_intro (fun _ => ?_) (fun _ => ?_) | refine sl_eq ?_ | refine ex_flip () ?_ ?_ | (apply ex_flip6 <;> try dsimp only) | (apply ex_flip5 <;> try dsimp only) | (apply ex_flip4 <;> try dsimp only) | (apply ex_flip3 <;> try dsimp only) | (apply ex_flip2 <;> try dsimp only) | apply ex_flip | (refine Prod.forall.2 ?_; intro _; try dsimp only) | (intro _; try dsimp only)) <;> (try dsimp only at *) <;> (try simp only [i64max, List.length_cons, List.length_nil]) <;> (try omega)
  all_goals simp [isSt, beqI, *])

def s_kf3  : Sig := { X := Int, args := fun x => [.int .i64 x], pre := fun x => True, Y := Unit, post := fun x y => True, res := fun x y => .bool (isTop x), outs := fun x y => [.top], keep := false }
theorem kf3_vc (x : Int) : vcFun Go.Proofs.Tryz.prog (Γof [(184, 0, s_isMember)]) (Eof []) false (Lof ([])) Go.Proofs.Tryz.f218.ntmps Go.Proofs.Tryz.f218.results.toList (Go.Proofs.Tryz.f218.body.getD .skip) s_kf3 x = ((∀ (y : Unit), True → True ∧ True ∧ True) ∧ ∃ (x_1 : Int), True ∧ x = x_1 ∧ ∀ (y : Unit), True → bcase (isMem x_1) (∃ (y : Unit), True ∧ true = isTop x ∧ True) (∃ (y : Unit), True ∧ (x == (21 : Int)) = isTop x ∧ True)) := by kernel_rfl
theorem kf3_ok  : Contract G Tryz.prog 218 s_kf3 :=
  vcFun_ok (Γ := Γof [(184, 0, s_isMember)]) (E := Eof []) (ov := false) (L := fun x => Lof ([])) Tryz.func218 rfl (by decide) (Γof_ok (l := [(184, 0, s_isMember)]) ⟨isMember_ok, trivial⟩) fun (x : Int) (hx : True) => (kf3_vc  x).mpr (by
  (repeat' first | with_reducible rfl | exact True.intro | refine inR_i64 ?_ ?_ | with_reducible refine And.intro ?_ ?_ | with_reducible refine bcase_dec (fun _ => ?_) (fun _ => ?_) | with_reducible refine bcase_bne (fun _ => ?_) (fun _ => ?_) | with_reducible refine bcase_beq (fun _ => ?_) (fun _ => ?_) | with_reducible refine bcase_not (fun _ => ?_) (fun _ => ?_) | refine bcase_intro (fun _ => ?_) (fun _ => ?_) | refine sl_eq ?_ | refine ex_flip () ?_ ?_ | (apply ex_flip6 <;> try dsimp only) | (apply ex_flip5 <;> try dsimp only) | (apply ex_flip4 <;> try dsimp only) | (apply ex_flip3 <;> try dsimp only) | (apply ex_flip2 <;> try dsimp only) | apply ex_flip | (refine Prod.forall.2 ?_; intro _; try dsimp only) | (intro _; try dsimp only)) <;> (try dsimp only at *) <;> (try simp only [i64max, List.length_cons, List.length_nil]) <;> (try omega)
  all_goals simp [isTop, beqI, *])

def s_li1  : Sig := { X := Int, args := fun x => [.int .i64 x], pre := fun x => True, Y := Unit, post := fun x y => True, res := fun x y => .bool (isNm x), outs := fun x y => [.top], keep := false }
theorem li1_vc (x : Int) : vcFun Go.Proofs.Tryz.prog (Γof []) (Eof []) false (Lof ([])) Go.Proofs.Tryz.f236.ntmps Go.Proofs.Tryz.f236.results.toList (Go.Proofs.Tryz.f236.body.getD .skip) s_li1 x = ((∀ (y : Unit), True → True ∧ True ∧ True) ∧ ∃ (y : Unit), True ∧ (x == (1 : Int)) = isNm x ∧ True) := by kernel_rfl
theorem li1_ok  : Contract G Tryz.prog 236 s_li1 :=
  vcFun_ok (Γ := Γof []) (E := Eof []) (ov := false) (L := fun x => Lof ([])) Tryz.func236 rfl (by decide) (Γof_ok (l := []) trivial) fun (x : Int) (hx : True) => (li1_vc  x).mpr (by
  (repeat' first | with_reducible rfl | exact True.intro | refine inR_i64 ?_ ?_ | with_reducible refine And.intro ?_ ?_ | with_reducible refine bcase_dec (fun _ => ?_) (fun _ => ?_) | with_reducible refine bcase_bne (fun _ => ?_) (fun _ => ?_) | with_reducible refine bcase_beq (fun _ => ?_) (fun _ => ?_) | with_reducible refine bcase_not (fun _ => ?_) (fun _ => ?_) | refine bcase_intro (fun _ => ?_) (fun _ => ?_) | refine sl_eq ?_ | refine ex_flip () ?_ ?_ | (apply ex_flip6 <;> try dsimp only) | (apply ex_flip5 <;> try dsimp only) | (apply ex_flip4 <;> try dsimp only) | (apply ex_flip3 <;> try dsimp only) | (apply ex_flip2 <;> try dsimp only) | apply ex_flip | (refine Prod.forall.2 ?_; intro _; try dsimp only) | (intro _; try dsimp only)) <;> (try dsimp only at *) <;> (try simp only [i64max, List.length_cons, List.length_nil]) <;> (try omega)
  all_goals simp [isNm, beqI, *])

def allI (p : Int → Bool) (x : List Int) (i : Int) : Prop := 0 ≤ i ∧ i ≤ x.length ∧ ∀ e ∈ x.take i.toNat, p e = true
theorem allI_init {p : Int → Bool} {x : List Int} : allI p x 0 := ⟨by omega, by omega, by simp⟩
theorem allI_next {p : Int → Bool} {x : List Int} {i : Int} {e : Int} (h : allI p x i) (he : x[i.toNat]? = some e) (hp : p e = true) : allI p x (i + 1) := by
  obtain ⟨h1, h2, h3⟩ := h
  have := (getE he).1
  exact ⟨by omega, by omega, by rw [toNat1 h1]; exact all_take he hp h3⟩
theorem allI_done {p : Int → Bool} {x : List Int} {i : Int} (h : allI p x i) (hl : ¬ i < x.length) : true = x.all p := (all_done h.2.2 (by omega)).symm
def lAll (p : Int → Bool) (c : AV) (x : List Int) : LS := {
  ι := Int, inv := allI p x, regs := fun i => [(0, ints x), (1, c), (7, ints x), (8, .int .i64 x.length), (9, .int .i64 i)], als := [], meas := fun i => x.length - i.toNat }
def s_allVal  : Sig := { X := List Int, args := fun x => [ints x, .clo (.func 144) []], pre := fun x => x.length < 2 ^ 62, Y := Unit, post := fun x y => True, res := fun x y => .bool (x.all isVal), outs := fun x y => [.top, .top], keep := false }
theorem allVal_vc (x : List Int) : vcFun Go.Proofs.Tryz.prog (Γof [(144, 0, s_isValue)]) (Eof []) false (Lof ([(2,lAll isVal (.clo (.func 144) []) x)])) Go.Proofs.Tryz.f213.ntmps Go.Proofs.Tryz.f213.results.toList (Go.Proofs.Tryz.f213.body.getD .skip) s_allVal x = ((∀ (y : Unit), True → True ∧ True ∧ True ∧ True) ∧ (∃ (i : Int), allI isVal x i ∧ (AV.sl false (0 : Nat) (1 : Nat) Int intA x = AV.sl false (0 : Nat) (1 : Nat) Int intA x ∧ AV.sl false (0 : Nat) (1 : Nat) Int intA x = AV.sl false (0 : Nat) (1 : Nat) Int intA x ∧ (↑(List.length x) : Int) = (↑(List.length x) : Int) ∧ (0 : Int) = i ∧ True) ∧ True) ∧ ∀ (i : Int), allI isVal x i → bcase (decide (i < (↑(List.length x) : Int))) (((0 : Int) ≤ i ∧ i < (↑(List.length x) : Int)) ∧ ∀ (e : Int), x[Int.toNat i]? = some e → ∃ (x_1 : Int), True ∧ e = x_1 ∧ ∀ (y : Unit), True → bcase (!isVal x_1) (∃ (y : Unit), True ∧ false = List.all x isVal ∧ True) (inR IntKind.i64 (i + (1 : Int)) ∧ ∃ (i' : Int), allI isVal x i' ∧ List.length x - Int.toNat i' < List.length x - Int.toNat i ∧ (AV.sl false (0 : Nat) (1 : Nat) Int intA x = AV.sl false (0 : Nat) (1 : Nat) Int intA x ∧ AV.sl false (0 : Nat) (1 : Nat) Int intA x = AV.sl false (0 : Nat) (1 : Nat) Int intA x ∧ (↑(List.length x) : Int) = (↑(List.length x) : Int) ∧ i + (1 : Int) = i' ∧ True) ∧ True)) (∃ (y : Unit), True ∧ true = List.all x isVal ∧ True)) := by kernel_rfl
theorem allVal_ok  : Contract G Tryz.prog 213 s_allVal :=
  vcFun_ok (Γ := Γof [(144, 0, s_isValue)]) (E := Eof []) (ov := false) (L := fun x => Lof ([(2,lAll isVal (.clo (.func 144) []) x)])) Tryz.func213 rfl (by decide) (Γof_ok (l := [(144, 0, s_isValue)]) ⟨isValue_ok, trivial⟩) fun (x : List Int) (hx : x.length < 2 ^ 62) => (allVal_vc  x).mpr (by
  have hx : x.length < 2 ^ 62 := hx
  (repeat' first | with_reducible rfl | exact True.intro | refine inR_i64 ?_ ?_ | with_reducible refine And.intro ?_ ?_ | with_reducible refine bcase_dec (fun _ => ?_) (fun _ => ?_) | with_reducible refine bcase_bne (fun _ => ?_) (fun _ => ?_) | with_reducible refine bcase_beq (fun _ => ?_) (fun _ => ?_) | with_reducible refine bcase_not (fun _ => ?_) (fun _ => ?_) | refine bcase_intro (fun _ => ?_) (fun _ => ?_) | refine sl_eq ?_ | refine ex_flip () ?_ ?_ | (apply ex_flip6 <;> try dsimp only) | (apply ex_flip5 <;> try dsimp only) | (apply ex_flip4 <;> try dsimp only) | (apply ex_flip3 <;> try dsimp only) | (apply ex_flip2 <;> try dsimp only) | apply ex_flip | (refine Prod.forall.2 ?_; intro _; try dsimp only) | (intro _; try dsimp only))
  all_goals first | exact allI_init | (rename_i i hi hl e he y _ hp; exact (all_not he hp).symm) | (rename_i i hi hl e he y _ hp; exact allI_next hi he hp) | (rename_i i hi hl; exact allI_done hi hl) | (obtain ⟨_, _, _⟩ := ‹allI _ _ _›; (try simp only [i64max] at *); omega) | skip)

def s_allBlk  : Sig := { X := List Int, args := fun x => [ints x, .clo (.func 216) []], pre := fun x => x.length < 2 ^ 62, Y := Unit, post := fun x y => True, res := fun x y => .bool (x.all isBlk), outs := fun x y => [.top, .top], keep := false }
theorem allBlk_vc (x : List Int) : vcFun Go.Proofs.Tryz.prog (Γof [(216, 0, s_isBlock)]) (Eof []) false (Lof ([(2,lAll isBlk (.clo (.func 216) []) x)])) Go.Proofs.Tryz.f213.ntmps Go.Proofs.Tryz.f213.results.toList (Go.Proofs.Tryz.f213.body.getD .skip) s_allBlk x = ((∀ (y : Unit), True → True ∧ True ∧ True ∧ True) ∧ (∃ (i : Int), allI isBlk x i ∧ (AV.sl false (0 : Nat) (1 : Nat) Int intA x = AV.sl false (0 : Nat) (1 : Nat) Int intA x ∧ AV.sl false (0 : Nat) (1 : Nat) Int intA x = AV.sl false (0 : Nat) (1 : Nat) Int intA x ∧ (↑(List.length x) : Int) = (↑(List.length x) : Int) ∧ (0 : Int) = i ∧ True) ∧ True) ∧ ∀ (i : Int), allI isBlk x i → bcase (decide (i < (↑(List.length x) : Int))) (((0 : Int) ≤ i ∧ i < (↑(List.length x) : Int)) ∧ ∀ (e : Int), x[Int.toNat i]? = some e → ∃ (x_1 : Int), True ∧ e = x_1 ∧ ∀ (y : Unit), True → bcase (!isBlk x_1) (∃ (y : Unit), True ∧ false = List.all x isBlk ∧ True) (inR IntKind.i64 (i + (1 : Int)) ∧ ∃ (i' : Int), allI isBlk x i' ∧ List.length x - Int.toNat i' < List.length x - Int.toNat i ∧ (AV.sl false (0 : Nat) (1 : Nat) Int intA x = AV.sl false (0 : Nat) (1 : Nat) Int intA x ∧ AV.sl false (0 : Nat) (1 : Nat) Int intA x = AV.sl false (0 : Nat) (1 : Nat) Int intA x ∧ (↑(List.length x) : Int) = (↑(List.length x) : Int) ∧ i + (1 : Int) = i' ∧ True) ∧ True)) (∃ (y : Unit), True ∧ true = List.all x isBlk ∧ True)) := by kernel_rfl
theorem allBlk_ok  : Contract G Tryz.prog 213 s_allBlk :=
  vcFun_ok (Γ := Γof [(216, 0, s_isBlock)]) (E := Eof []) (ov := false) (L := fun x => Lof ([(2,lAll isBlk (.clo (.func 216) []) x)])) Tryz.func213 rfl (by decide) (Γof_ok (l := [(216, 0, s_isBlock)]) ⟨isBlock_ok, trivial⟩) fun (x : List Int) (hx : x.length < 2 ^ 62) => (allBlk_vc  x).mpr (by
  have hx : x.length < 2 ^ 62 := hx
  (repeat' first | with_reducible rfl | exact True.intro | refine inR_i64 ?_ ?_ | with_reducible refine And.intro ?_ ?_ | with_reducible refine bcase_dec (fun _ => ?_) (fun _ => ?_) | with_reducible refine bcase_bne (fun _ => ?_) (fun _ => ?_) | with_reducible refine bcase_beq (fun _ => ?_) (fun _ => ?_) | with_reducible refine bcase_not (fun _ => ?_) (fun _ => ?_) | refine bcase_intro (fun _ => ?_) (fun _ => ?_) | refine sl_eq ?_ | refine ex_flip () ?_ ?_ | (apply ex_flip6 <;> try dsimp only) | (apply ex_flip5 <;> try dsimp only) | (apply ex_flip4 <;> try dsimp only) | (apply ex_flip3 <;> try dsimp only) | (apply ex_flip2 <;> try dsimp only) | apply ex_flip | (refine Prod.forall.2 ?_; intro _; try dsimp only) | (intro _; try dsimp only))
  all_goals first | exact allI_init | (rename_i i hi hl e he y _ hp; exact (all_not he hp).symm) | (rename_i i hi hl e he y _ hp; exact allI_next hi he hp) | (rename_i i hi hl; exact allI_done hi hl) | (obtain ⟨_, _, _⟩ := ‹allI _ _ _›; (try simp only [i64max] at *); omega) | skip)

def s_allMem  : Sig := { X := List Int, args := fun x => [ints x, .clo (.func 184) []], pre := fun x => x.length < 2 ^ 62, Y := Unit, post := fun x y => True, res := fun x y => .bool (x.all isMem), outs := fun x y => [.top, .top], keep := false }
theorem allMem_vc (x : List Int) : vcFun Go.Proofs.Tryz.prog (Γof [(184, 0, s_isMember)]) (Eof []) false (Lof ([(2,lAll isMem (.clo (.func 184) []) x)])) Go.Proofs.Tryz.f213.ntmps Go.Proofs.Tryz.f213.results.toList (Go.Proofs.Tryz.f213.body.getD .skip) s_allMem x = ((∀ (y : Unit), True → True ∧ True ∧ True ∧ True) ∧ (∃ (i : Int), allI isMem x i ∧ (AV.sl false (0 : Nat) (1 : Nat) Int intA x = AV.sl false (0 : Nat) (1 : Nat) Int intA x ∧ AV.sl false (0 : Nat) (1 : Nat) Int intA x = AV.sl false (0 : Nat) (1 : Nat) Int intA x ∧ (↑(List.length x) : Int) = (↑(List.length x) : Int) ∧ (0 : Int) = i ∧ True) ∧ True) ∧ ∀ (i : Int), allI isMem x i → bcase (decide (i < (↑(List.length x) : Int))) (((0 : Int) ≤ i ∧ i < (↑(List.length x) : Int)) ∧ ∀ (e : Int), x[Int.toNat i]? = some e → ∃ (x_1 : Int), True ∧ e = x_1 ∧ ∀ (y : Unit), True → bcase (!isMem x_1) (∃ (y : Unit), True ∧ false = List.all x isMem ∧ True) (inR IntKind.i64 (i + (1 : Int)) ∧ ∃ (i' : Int), allI isMem x i' ∧ List.length x - Int.toNat i' < List.length x - Int.toNat i ∧ (AV.sl false (0 : Nat) (1 : Nat) Int intA x = AV.sl false (0 : Nat) (1 : Nat) Int intA x ∧ AV.sl false (0 : Nat) (1 : Nat) Int intA x = AV.sl false (0 : Nat) (1 : Nat) Int intA x ∧ (↑(List.length x) : Int) = (↑(List.length x) : Int) ∧ i + (1 : Int) = i' ∧ True) ∧ True)) (∃ (y : Unit), True ∧ true = List.all x isMem ∧ True)) := by kernel_rfl
theorem allMem_ok  : Contract G Tryz.prog 213 s_allMem :=
  vcFun_ok (Γ := Γof [(184, 0, s_isMember)]) (E := Eof []) (ov := false) (L := fun x => Lof ([(2,lAll isMem (.clo (.func 184) []) x)])) Tryz.func213 rfl (by decide) (Γof_ok (l := [(184, 0, s_isMember)]) ⟨isMember_ok, trivial⟩) fun (x : List Int) (hx : x.length < 2 ^ 62) => (allMem_vc  x).mpr (by
  have hx : x.length < 2 ^ 62 := hx
  (repeat' first | with_reducible rfl | exact True.intro | refine inR_i64 ?_ ?_ | with_reducible refine And.intro ?_ ?_ | with_reducible refine bcase_dec (fun _ => ?_) (fun _ => ?_) | with_reducible refine bcase_bne (fun _ => ?_) (fun _ => ?_) | with_reducible refine bcase_beq (fun _ => ?_) (fun _ => ?_) | with_reducible refine bcase_not (fun _ => ?_) (fun _ => ?_) | refine bcase_intro (fun _ => ?_) (fun _ => ?_) | refine sl_eq ?_ | refine ex_flip () ?_ ?_ | (apply ex_flip6 <;> try dsimp only) | (apply ex_flip5 <;> try dsimp only) | (apply ex_flip4 <;> try dsimp only) | (apply ex_flip3 <;> try dsimp only) | (apply ex_flip2 <;> try dsimp only) | apply ex_flip | (refine Prod.forall.2 ?_; intro _; try dsimp only) | (intro _; try dsimp only))
  all_goals first | exact allI_init | (rename_i i hi hl e he y _ hp; exact (all_not he hp).symm) | (rename_i i hi hl e he y _ hp; exact allI_next hi he hp) | (rename_i i hi hl; exact allI_done hi hl) | (obtain ⟨_, _, _⟩ := ‹allI _ _ _›; (try simp only [i64max] at *); omega) | skip)

def s_allCl  : Sig := { X := List Int, args := fun x => [ints x, .clo (.func 215) []], pre := fun x => x.length < 2 ^ 62, Y := Unit, post := fun x y => True, res := fun x y => .bool (x.all isCl), outs := fun x y => [.top, .top], keep := false }
theorem allCl_vc (x : List Int) : vcFun Go.Proofs.Tryz.prog (Γof [(215, 0, s_kf1)]) (Eof []) false (Lof ([(2,lAll isCl (.clo (.func 215) []) x)])) Go.Proofs.Tryz.f213.ntmps Go.Proofs.Tryz.f213.results.toList (Go.Proofs.Tryz.f213.body.getD .skip) s_allCl x = ((∀ (y : Unit), True → True ∧ True ∧ True ∧ True) ∧ (∃ (i : Int), allI isCl x i ∧ (AV.sl false (0 : Nat) (1 : Nat) Int intA x = AV.sl false (0 : Nat) (1 : Nat) Int intA x ∧ AV.sl false (0 : Nat) (1 : Nat) Int intA x = AV.sl false (0 : Nat) (1 : Nat) Int intA x ∧ (↑(List.length x) : Int) = (↑(List.length x) : Int) ∧ (0 : Int) = i ∧ True) ∧ True) ∧ ∀ (i : Int), allI isCl x i → bcase (decide (i < (↑(List.length x) : Int))) (((0 : Int) ≤ i ∧ i < (↑(List.length x) : Int)) ∧ ∀ (e : Int), x[Int.toNat i]? = some e → ∃ (x_1 : Int), True ∧ e = x_1 ∧ ∀ (y : Unit), True → bcase (!isCl x_1) (∃ (y : Unit), True ∧ false = List.all x isCl ∧ True) (inR IntKind.i64 (i + (1 : Int)) ∧ ∃ (i' : Int), allI isCl x i' ∧ List.length x - Int.toNat i' < List.length x - Int.toNat i ∧ (AV.sl false (0 : Nat) (1 : Nat) Int intA x = AV.sl false (0 : Nat) (1 : Nat) Int intA x ∧ AV.sl false (0 : Nat) (1 : Nat) Int intA x = AV.sl false (0 : Nat) (1 : Nat) Int intA x ∧ (↑(List.length x) : Int) = (↑(List.length x) : Int) ∧ i + (1 : Int) = i' ∧ True) ∧ True)) (∃ (y : Unit), True ∧ true = List.all x isCl ∧ True)) := by kernel_rfl
theorem allCl_ok  : Contract G Tryz.prog 213 s_allCl :=
  vcFun_ok (Γ := Γof [(215, 0, s_kf1)]) (E := Eof []) (ov := false) (L := fun x => Lof ([(2,lAll isCl (.clo (.func 215) []) x)])) Tryz.func213 rfl (by decide) (Γof_ok (l := [(215, 0, s_kf1)]) ⟨kf1_ok, trivial⟩) fun (x : List Int) (hx : x.length < 2 ^ 62) => (allCl_vc  x).mpr (by
  have hx : x.length < 2 ^ 62 := hx
  (repeat' first | with_reducible rfl | exact True.intro | refine inR_i64 ?_ ?_ | with_reducible refine And.intro ?_ ?_ | with_reducible refine bcase_dec (fun _ => ?_) (fun _ => ?_) | with_reducible refine bcase_bne (fun _ => ?_) (fun _ => ?_) | with_reducible refine bcase_beq (fun _ => ?_) (fun _ => ?_) | with_reducible refine bcase_not (fun _ => ?_) (fun _ => ?_) | refine bcase_intro (fun _ => ?_) (fun _ => ?_) | refine sl_eq ?_ | refine ex_flip () ?_ ?_ | (apply ex_flip6 <;> try dsimp only) | (apply ex_flip5 <;> try dsimp only) | (apply ex_flip4 <;> try dsimp only) | (apply ex_flip3 <;> try dsimp only) | (apply ex_flip2 <;> try dsimp only) | apply ex_flip | (refine Prod.forall.2 ?_; intro _; try dsimp only) | (intro _; try dsimp only))
  all_goals first | exact allI_init | (rename_i i hi hl e he y _ hp; exact (all_not he hp).symm) | (rename_i i hi hl e he y _ hp; exact allI_next hi he hp) | (rename_i i hi hl; exact allI_done hi hl) | (obtain ⟨_, _, _⟩ := ‹allI _ _ _›; (try simp only [i64max] at *); omega) | skip)

def s_allSt  : Sig := { X := List Int, args := fun x => [ints x, .clo (.func 217) []], pre := fun x => x.length < 2 ^ 62, Y := Unit, post := fun x y => True, res := fun x y => .bool (x.all isSt), outs := fun x y => [.top, .top], keep := false }
theorem allSt_vc (x : List Int) : vcFun Go.Proofs.Tryz.prog (Γof [(217, 0, s_kf2)]) (Eof []) false (Lof ([(2,lAll isSt (.clo (.func 217) []) x)])) Go.Proofs.Tryz.f213.ntmps Go.Proofs.Tryz.f213.results.toList (Go.Proofs.Tryz.f213.body.getD .skip) s_allSt x = ((∀ (y : Unit), True → True ∧ True ∧ True ∧ True) ∧ (∃ (i : Int), allI isSt x i ∧ (AV.sl false (0 : Nat) (1 : Nat) Int intA x = AV.sl false (0 : Nat) (1 : Nat) Int intA x ∧ AV.sl false (0 : Nat) (1 : Nat) Int intA x = AV.sl false (0 : Nat) (1 : Nat) Int intA x ∧ (↑(List.length x) : Int) = (↑(List.length x) : Int) ∧ (0 : Int) = i ∧ True) ∧ True) ∧ ∀ (i : Int), allI isSt x i → bcase (decide (i < (↑(List.length x) : Int))) (((0 : Int) ≤ i ∧ i < (↑(List.length x) : Int)) ∧ ∀ (e : Int), x[Int.toNat i]? = some e → ∃ (x_1 : Int), True ∧ e = x_1 ∧ ∀ (y : Unit), True → bcase (!isSt x_1) (∃ (y : Unit), True ∧ false = List.all x isSt ∧ True) (inR IntKind.i64 (i + (1 : Int)) ∧ ∃ (i' : Int), allI isSt x i' ∧ List.length x - Int.toNat i' < List.length x - Int.toNat i ∧ (AV.sl false (0 : Nat) (1 : Nat) Int intA x = AV.sl false (0 : Nat) (1 : Nat) Int intA x ∧ AV.sl false (0 : Nat) (1 : Nat) Int intA x = AV.sl false (0 : Nat) (1 : Nat) Int intA x ∧ (↑(List.length x) : Int) = (↑(List.length x) : Int) ∧ i + (1 : Int) = i' ∧ True) ∧ True)) (∃ (y : Unit), True ∧ true = List.all x isSt ∧ True)) := by kernel_rfl
theorem allSt_ok  : Contract G Tryz.prog 213 s_allSt :=
  vcFun_ok (Γ := Γof [(217, 0, s_kf2)]) (E := Eof []) (ov := false) (L := fun x => Lof ([(2,lAll isSt (.clo (.func 217) []) x)])) Tryz.func213 rfl (by decide) (Γof_ok (l := [(217, 0, s_kf2)]) ⟨kf2_ok, trivial⟩) fun (x : List Int) (hx : x.length < 2 ^ 62) => (allSt_vc  x).mpr (by
  have hx : x.length < 2 ^ 62 := hx
  (repeat' first | with_reducible rfl | exact True.intro | refine inR_i64 ?_ ?_ | with_reducible refine And.intro ?_ ?_ | with_reducible refine bcase_dec (fun _ => ?_) (fun _ => ?_) | with_reducible refine bcase_bne (fun _ => ?_) (fun _ => ?_) | with_reducible refine bcase_beq (fun _ => ?_) (fun _ => ?_) | with_reducible refine bcase_not (fun _ => ?_) (fun _ => ?_) | refine bcase_intro (fun _ => ?_) (fun _ => ?_) | refine sl_eq ?_ | refine ex_flip () ?_ ?_ | (apply ex_flip6 <;> try dsimp only) | (apply ex_flip5 <;> try dsimp only) | (apply ex_flip4 <;> try dsimp only) | (apply ex_flip3 <;> try dsimp only) | (apply ex_flip2 <;> try dsimp only) | apply ex_flip | (refine Prod.forall.2 ?_; intro _; try dsimp only) | (intro _; try dsimp only))
  all_goals first | exact allI_init | (rename_i i hi hl e he y _ hp; exact (all_not he hp).symm) | (rename_i i hi hl e he y _ hp; exact allI_next hi he hp) | (rename_i i hi hl; exact allI_done hi hl) | (obtain ⟨_, _, _⟩ := ‹allI _ _ _›; (try simp only [i64max] at *); omega) | skip)

def s_allTop  : Sig := { X := List Int, args := fun x => [ints x, .clo (.func 218) []], pre := fun x => x.length < 2 ^ 62, Y := Unit, post := fun x y => True, res := fun x y => .bool (x.all isTop), outs := fun x y => [.top, .top], keep := false }
theorem allTop_vc (x : List Int) : vcFun Go.Proofs.Tryz.prog (Γof [(218, 0, s_kf3)]) (Eof []) false (Lof ([(2,lAll isTop (.clo (.func 218) []) x)])) Go.Proofs.Tryz.f213.ntmps Go.Proofs.Tryz.f213.results.toList (Go.Proofs.Tryz.f213.body.getD .skip) s_allTop x = ((∀ (y : Unit), True → True ∧ True ∧ True ∧ True) ∧ (∃ (i : Int), allI isTop x i ∧ (AV.sl false (0 : Nat) (1 : Nat) Int intA x = AV.sl false (0 : Nat) (1 : Nat) Int intA x ∧ AV.sl false (0 : Nat) (1 : Nat) Int intA x = AV.sl false (0 : Nat) (1 : Nat) Int intA x ∧ (↑(List.length x) : Int) = (↑(List.length x) : Int) ∧ (0 : Int) = i ∧ True) ∧ True) ∧ ∀ (i : Int), allI isTop x i → bcase (decide (i < (↑(List.length x) : Int))) (((0 : Int) ≤ i ∧ i < (↑(List.length x) : Int)) ∧ ∀ (e : Int), x[Int.toNat i]? = some e → ∃ (x_1 : Int), True ∧ e = x_1 ∧ ∀ (y : Unit), True → bcase (!isTop x_1) (∃ (y : Unit), True ∧ false = List.all x isTop ∧ True) (inR IntKind.i64 (i + (1 : Int)) ∧ ∃ (i' : Int), allI isTop x i' ∧ List.length x - Int.toNat i' < List.length x - Int.toNat i ∧ (AV.sl false (0 : Nat) (1 : Nat) Int intA x = AV.sl false (0 : Nat) (1 : Nat) Int intA x ∧ AV.sl false (0 : Nat) (1 : Nat) Int intA x = AV.sl false (0 : Nat) (1 : Nat) Int intA x ∧ (↑(List.length x) : Int) = (↑(List.length x) : Int) ∧ i + (1 : Int) = i' ∧ True) ∧ True)) (∃ (y : Unit), True ∧ true = List.all x isTop ∧ True)) := by kernel_rfl
theorem allTop_ok  : Contract G Tryz.prog 213 s_allTop :=
  vcFun_ok (Γ := Γof [(218, 0, s_kf3)]) (E := Eof []) (ov := false) (L := fun x => Lof ([(2,lAll isTop (.clo (.func 218) []) x)])) Tryz.func213 rfl (by decide) (Γof_ok (l := [(218, 0, s_kf3)]) ⟨kf3_ok, trivial⟩) fun (x : List Int) (hx : x.length < 2 ^ 62) => (allTop_vc  x).mpr (by
  have hx : x.length < 2 ^ 62 := hx
  (repeat' first | with_reducible rfl | exact True.intro | refine inR_i64 ?_ ?_ | with_reducible refine And.intro ?_ ?_ | with_reducible refine bcase_dec (fun _ => ?_) (fun _ => ?_) | with_reducible refine bcase_bne (fun _ => ?_) (fun _ => ?_) | with_reducible refine bcase_beq (fun _ => ?_) (fun _ => ?_) | with_reducible refine bcase_not (fun _ => ?_) (fun _ => ?_) | refine bcase_intro (fun _ => ?_) (fun _ => ?_) | refine sl_eq ?_ | refine ex_flip () ?_ ?_ | (apply ex_flip6 <;> try dsimp only) | (apply ex_flip5 <;> try dsimp only) | (apply ex_flip4 <;> try dsimp only) | (apply ex_flip3 <;> try dsimp only) | (apply ex_flip2 <;> try dsimp only) | apply ex_flip | (refine Prod.forall.2 ?_; intro _; try dsimp only) | (intro _; try dsimp only))
  all_goals first | exact allI_init | (rename_i i hi hl e he y _ hp; exact (all_not he hp).symm) | (rename_i i hi hl e he y _ hp; exact allI_next hi he hp) | (rename_i i hi hl; exact allI_done hi hl) | (obtain ⟨_, _, _⟩ := ‹allI _ _ _›; (try simp only [i64max] at *); omega) | skip)

def s_allNm  : Sig := { X := List Int, args := fun x => [ints x, .clo (.func 236) []], pre := fun x => x.length < 2 ^ 62, Y := Unit, post := fun x y => True, res := fun x y => .bool (x.all isNm), outs := fun x y => [.top, .top], keep := false }
theorem allNm_vc (x : List Int) : vcFun Go.Proofs.Tryz.prog (Γof [(236, 0, s_li1)]) (Eof []) false (Lof ([(2,lAll isNm (.clo (.func 236) []) x)])) Go.Proofs.Tryz.f213.ntmps Go.Proofs.Tryz.f213.results.toList (Go.Proofs.Tryz.f213.body.getD .skip) s_allNm x = ((∀ (y : Unit), True → True ∧ True ∧ True ∧ True) ∧ (∃ (i : Int), allI isNm x i ∧ (AV.sl false (0 : Nat) (1 : Nat) Int intA x = AV.sl false (0 : Nat) (1 : Nat) Int intA x ∧ AV.sl false (0 : Nat) (1 : Nat) Int intA x = AV.sl false (0 : Nat) (1 : Nat) Int intA x ∧ (↑(List.length x) : Int) = (↑(List.length x) : Int) ∧ (0 : Int) = i ∧ True) ∧ True) ∧ ∀ (i : Int), allI isNm x i → bcase (decide (i < (↑(List.length x) : Int))) (((0 : Int) ≤ i ∧ i < (↑(List.length x) : Int)) ∧ ∀ (e : Int), x[Int.toNat i]? = some e → ∃ (x_1 : Int), True ∧ e = x_1 ∧ ∀ (y : Unit), True → bcase (!isNm x_1) (∃ (y : Unit), True ∧ false = List.all x isNm ∧ True) (inR IntKind.i64 (i + (1 : Int)) ∧ ∃ (i' : Int), allI isNm x i' ∧ List.length x - Int.toNat i' < List.length x - Int.toNat i ∧ (AV.sl false (0 : Nat) (1 : Nat) Int intA x = AV.sl false (0 : Nat) (1 : Nat) Int intA x ∧ AV.sl false (0 : Nat) (1 : Nat) Int intA x = AV.sl false (0 : Nat) (1 : Nat) Int intA x ∧ (↑(List.length x) : Int) = (↑(List.length x) : Int) ∧ i + (1 : Int) = i' ∧ True) ∧ True)) (∃ (y : Unit), True ∧ true = List.all x isNm ∧ True)) := by kernel_rfl
theorem allNm_ok  : Contract G Tryz.prog 213 s_allNm :=
  vcFun_ok (Γ := Γof [(236, 0, s_li1)]) (E := Eof []) (ov := false) (L := fun x => Lof ([(2,lAll isNm (.clo (.func 236) []) x)])) Tryz.func213 rfl (by decide) (Γof_ok (l := [(236, 0, s_li1)]) ⟨li1_ok, trivial⟩) fun (x : List Int) (hx : x.length < 2 ^ 62) => (allNm_vc  x).mpr (by
  have hx : x.length < 2 ^ 62 := hx
  (repeat' first | with_reducible rfl | exact True.intro | refine inR_i64 ?_ ?_ | with_reducible refine And.intro ?_ ?_ | with_reducible refine bcase_dec (fun _ => ?_) (fun _ => ?_) | with_reducible refine bcase_bne (fun _ => ?_) (fun _ => ?_) | with_reducible refine bcase_beq (fun _ => ?_) (fun _ => ?_) | with_reducible refine bcase_not (fun _ => ?_) (fun _ => ?_) | refine bcase_intro (fun _ => ?_) (fun _ => ?_) | refine sl_eq ?_ | refine ex_flip () ?_ ?_ | (apply ex_flip6 <;> try dsimp only) | (apply ex_flip5 <;> try dsimp only) | (apply ex_flip4 <;> try dsimp only) | (apply ex_flip3 <;> try dsimp only) | (apply ex_flip2 <;> try dsimp only) | apply ex_flip | (refine Prod.forall.2 ?_; intro _; try dsimp only) | (intro _; try dsimp only))
  all_goals first | exact allI_init | (rename_i i hi hl e he y _ hp; exact (all_not he hp).symm) | (rename_i i hi hl e he y _ hp; exact allI_next hi he hp) | (rename_i i hi hl; exact allI_done hi hl) | (obtain ⟨_, _, _⟩ := ‹allI _ _ _›; (try simp only [i64max] at *); omega) | skip)

theorem lastIs_nil {p : Int → Bool} {x : List Int} (h : ¬ (0 : Int) < x.length) : false = lastIs p x := by
  obtain rfl : x = [] := List.length_eq_zero_iff.1 (by omega)
  rfl
theorem lastIs_of {p : Int → Bool} {x : List Int} {e : Int} (he : x[(x.length - 1 : Int).toNat]? = some e) : lastIs p x = (p e && (x.take (x.length - 1 : Int).toNat).all isNm) := by
  have e1 : (x.length - 1 : Int).toNat = x.length - 1 := by omega
  rw [e1] at he ⊢
  unfold lastIs
  rw [List.getLast?_eq_getElem?, he, List.dropLast_eq_take]
def s_lastVal  : Sig := { X := List Int, args := fun x => [ints x, .clo (.func 144) []], pre := fun x => x.length < 2 ^ 62, Y := Unit, post := fun x y => True, res := fun x y => .bool (lastIs isVal x), outs := fun x y => [.top, .top], keep := false }
theorem lastVal_vc (x : List Int) : vcFun Go.Proofs.Tryz.prog (Γof [(144, 0, s_isValue), (213, 236 + 1, s_allNm)]) (Eof []) false (Lof ([])) Go.Proofs.Tryz.f214.ntmps Go.Proofs.Tryz.f214.results.toList (Go.Proofs.Tryz.f214.body.getD .skip) s_lastVal x = ((∀ (y : Unit), True → True ∧ True ∧ True ∧ True) ∧ bcase (decide ((↑(List.length x) : Int) > (0 : Int))) (inR IntKind.i64 ((↑(List.length x) : Int) - (1 : Int)) ∧ ((0 : Int) ≤ (↑(List.length x) : Int) - (1 : Int) ∧ (↑(List.length x) : Int) - (1 : Int) < (↑(List.length x) : Int)) ∧ ∀ (e : Int), x[Int.toNat ((↑(List.length x) : Int) - (1 : Int))]? = some e → ∃ (x_1 : Int), True ∧ e = x_1 ∧ ∀ (y : Unit), True → bcase (isVal x_1) (inR IntKind.i64 ((↑(List.length x) : Int) - (1 : Int)) ∧ ((0 : Int) ≤ (0 : Int) ∧ (0 : Int) ≤ (↑(List.length x) : Int) - (1 : Int) ∧ (↑(List.length x) : Int) - (1 : Int) ≤ (↑(List.length x) : Int)) ∧ ∃ (x_2 : List Int), List.length x_2 < (4611686018427387904 : Nat) ∧ AV.sl false (0 : Nat) (1 : Nat) Int intA (List.take (Int.toNat ((↑(List.length x) : Int) - (1 : Int))) x) = AV.sl false (0 : Nat) (1 : Nat) Int intA x_2 ∧ ∀ (y : Unit), True → ∃ (y : Unit), True ∧ List.all x_2 isNm = lastIs isVal x ∧ True) (∃ (y : Unit), True ∧ false = lastIs isVal x ∧ True)) (∃ (y : Unit), True ∧ false = lastIs isVal x ∧ True)) := by kernel_rfl
theorem lastVal_ok  : Contract G Tryz.prog 214 s_lastVal :=
  vcFun_ok (Γ := Γof [(144, 0, s_isValue), (213, 236 + 1, s_allNm)]) (E := Eof []) (ov := false) (L := fun x => Lof ([])) Tryz.func214 rfl (by decide) (Γof_ok (l := [(144, 0, s_isValue), (213, 236 + 1, s_allNm)]) ⟨isValue_ok, allNm_ok, trivial⟩) fun (x : List Int) (hx : x.length < 2 ^ 62) => (lastVal_vc  x).mpr (by
  have hx : x.length < 2 ^ 62 := hx
  (repeat' first | with_reducible rfl | exact True.intro | refine inR_i64 ?_ ?_ | with_reducible refine And.intro ?_ ?_ | with_reducible refine bcase_dec (fun _ => ?_) (fun _ => ?_) | with_reducible refine bcase_bne (fun _ => ?_) (fun _ => ?_) | with_reducible refine bcase_beq (fun _ => ?_) (fun _ => ?_) | with_reducible refine bcase_not (fun _ => ?_) (fun _ => ?_) | refine bcase_intro (fun _ => ?_) (fun _ => ?_) | refine sl_eq ?_ | refine ex_flip () ?_ ?_ | (apply ex_flip6 <;> try dsimp only) | (apply ex_flip5 <;> try dsimp only) | (apply ex_flip4 <;> try dsimp only) | (apply ex_flip3 <;> try dsimp only) | (apply ex_flip2 <;> try dsimp only) | apply ex_flip | (refine Prod.forall.2 ?_; intro _; try dsimp only) | (intro _; try dsimp only)) <;> (try dsimp only at *) <;> (try simp only [i64max, List.length_cons, List.length_nil]) <;> (try omega)
  all_goals first | exact lastIs_nil (by omega) | (rw [lastIs_of (by assumption)]; simp [*]; done) | (rw [List.length_take]; omega) | skip)

def s_lastBlk  : Sig := { X := List Int, args := fun x => [ints x, .clo (.func 216) []], pre := fun x => x.length < 2 ^ 62, Y := Unit, post := fun x y => True, res := fun x y => .bool (lastIs isBlk x), outs := fun x y => [.top, .top], keep := false }
theorem lastBlk_vc (x : List Int) : vcFun Go.Proofs.Tryz.prog (Γof [(216, 0, s_isBlock), (213, 236 + 1, s_allNm)]) (Eof []) false (Lof ([])) Go.Proofs.Tryz.f214.ntmps Go.Proofs.Tryz.f214.results.toList (Go.Proofs.Tryz.f214.body.getD .skip) s_lastBlk x = ((∀ (y : Unit), True → True ∧ True ∧ True ∧ True) ∧ bcase (decide ((↑(List.length x) : Int) > (0 : Int))) (inR IntKind.i64 ((↑(List.length x) : Int) - (1 : Int)) ∧ ((0 : Int) ≤ (↑(List.length x) : Int) - (1 : Int) ∧ (↑(List.length x) : Int) - (1 : Int) < (↑(List.length x) : Int)) ∧ ∀ (e : Int), x[Int.toNat ((↑(List.length x) : Int) - (1 : Int))]? = some e → ∃ (x_1 : Int), True ∧ e = x_1 ∧ ∀ (y : Unit), True → bcase (isBlk x_1) (inR IntKind.i64 ((↑(List.length x) : Int) - (1 : Int)) ∧ ((0 : Int) ≤ (0 : Int) ∧ (0 : Int) ≤ (↑(List.length x) : Int) - (1 : Int) ∧ (↑(List.length x) : Int) - (1 : Int) ≤ (↑(List.length x) : Int)) ∧ ∃ (x_2 : List Int), List.length x_2 < (4611686018427387904 : Nat) ∧ AV.sl false (0 : Nat) (1 : Nat) Int intA (List.take (Int.toNat ((↑(List.length x) : Int) - (1 : Int))) x) = AV.sl false (0 : Nat) (1 : Nat) Int intA x_2 ∧ ∀ (y : Unit), True → ∃ (y : Unit), True ∧ List.all x_2 isNm = lastIs isBlk x ∧ True) (∃ (y : Unit), True ∧ false = lastIs isBlk x ∧ True)) (∃ (y : Unit), True ∧ false = lastIs isBlk x ∧ True)) := by kernel_rfl
theorem lastBlk_ok  : Contract G Tryz.prog 214 s_lastBlk :=
  vcFun_ok (Γ := Γof [(216, 0, s_isBlock), (213, 236 + 1, s_allNm)]) (E := Eof []) (ov := false) (L := fun x => Lof ([])) Tryz.func214 rfl (by decide) (Γof_ok (l := [(216, 0, s_isBlock), (213, 236 + 1, s_allNm)]) ⟨isBlock_ok, allNm_ok, trivial⟩) fun (x : List Int) (hx : x.length < 2 ^ 62) => (lastBlk_vc  x).mpr (by
  have hx : x.length < 2 ^ 62 := hx
  (repeat' first | with_reducible rfl | exact True.intro | refine inR_i64 ?_ ?_ | with_reducible refine And.intro ?_ ?_ | with_reducible refine bcase_dec (fun _ => ?_) (fun _ => ?_) | with_reducible refine bcase_bne (fun _ => ?_) (fun _ => ?_) | with_reducible refine bcase_beq (fun _ => ?_) (fun _ => ?_) | with_reducible refine bcase_not (fun _ => ?_) (fun _ => ?_) | refine bcase_intro (fun _ => ?_) (fun _ => ?_) | refine sl_eq ?_ | refine ex_flip () ?_ ?_ | (apply ex_flip6 <;> try dsimp only) | (apply ex_flip5 <;> try dsimp only) | (apply ex_flip4 <;> try dsimp only) | (apply ex_flip3 <;> try dsimp only) | (apply ex_flip2 <;> try dsimp only) | apply ex_flip | (refine Prod.forall.2 ?_; intro _; try dsimp only) | (intro _; try dsimp only)) <;> (try dsimp only at *) <;> (try simp only [i64max, List.length_cons, List.length_nil]) <;> (try omega)
  all_goals first | exact lastIs_nil (by omega) | (rw [lastIs_of (by assumption)]; simp [*]; done) | (rw [List.length_take]; omega) | skip)

def s_kindsFit  : Sig := { X := Int × List Int, args := fun x => [.int .i64 x.1, ints x.2], pre := fun x => x.2.length < 2 ^ 62, Y := Unit, post := fun x y => True, res := fun x y => .bool (kindsOk x.1 x.2), outs := fun x y => [.top, .top], keep := false }
theorem kindsFit_vc (x : Int × List Int) : vcFun Go.Proofs.Tryz.prog (Γof [(144, 0, s_isValue), (216, 0, s_isBlock), (92, 0, s_inRange), (213, 144 + 1, s_allVal), (213, 216 + 1, s_allBlk), (213, 184 + 1, s_allMem), (213, 215 + 1, s_allCl), (213, 217 + 1, s_allSt), (213, 218 + 1, s_allTop), (214, 144 + 1, s_lastVal), (214, 216 + 1, s_lastBlk)]) (Eof []) false (Lof ([])) Go.Proofs.Tryz.f185.ntmps Go.Proofs.Tryz.f185.results.toList (Go.Proofs.Tryz.f185.body.getD .skip) s_kindsFit x = ((∀ (y : Unit), True → True ∧ True ∧ True ∧ True) ∧ ∃ (x_1 : List Int), List.length x_1 < (4611686018427387904 : Nat) ∧ AV.sl false (0 : Nat) (1 : Nat) Int intA x.snd = AV.sl false (0 : Nat) (1 : Nat) Int intA x_1 ∧ ∀ (y : Unit), True → bcase (x.fst == (1 : Int)) (∃ (y : Unit), True ∧ ((↑(List.length x.snd) : Int) == (0 : Int)) = kindsOk x.fst x.snd ∧ True) (bcase (x.fst == (2 : Int)) (∃ (y : Unit), True ∧ ((↑(List.length x.snd) : Int) == (0 : Int)) = kindsOk x.fst x.snd ∧ True) (bcase (x.fst == (3 : Int)) (∃ (y : Unit), True ∧ ((↑(List.length x.snd) : Int) == (0 : Int)) = kindsOk x.fst x.snd ∧ True) (bcase (x.fst == (19 : Int)) (∃ (y : Unit), True ∧ ((↑(List.length x.snd) : Int) == (0 : Int)) = kindsOk x.fst x.snd ∧ True) (bcase (x.fst == (4 : Int)) (∃ (y : Unit), True ∧ List.all x_1 isVal = kindsOk x.fst x.snd ∧ True) (bcase (x.fst == (5 : Int)) (bcase (decide ((↑(List.length x.snd) : Int) ≥ (1 : Int))) (∃ (y : Unit), True ∧ List.all x_1 isVal = kindsOk x.fst x.snd ∧ True) (∃ (y : Unit), True ∧ false = kindsOk x.fst x.snd ∧ True)) (bcase (x.fst == (7 : Int)) (bcase (decide ((↑(List.length x.snd) : Int) ≥ (2 : Int))) (∃ (y : Unit), True ∧ List.all x_1 isVal = kindsOk x.fst x.snd ∧ True) (∃ (y : Unit), True ∧ false = kindsOk x.fst x.snd ∧ True)) (bcase (x.fst == (8 : Int)) (bcase ((↑(List.length x.snd) : Int) == (3 : Int)) (∃ (y : Unit), True ∧ List.all x_1 isVal = kindsOk x.fst x.snd ∧ True) (∃ (y : Unit), True ∧ false = kindsOk x.fst x.snd ∧ True)) (bcase (x.fst == (6 : Int)) (bcase ((↑(List.length x.snd) : Int) == (1 : Int)) (∃ (y : Unit), True ∧ List.all x_1 isVal = kindsOk x.fst x.snd ∧ True) (∃ (y : Unit), True ∧ false = kindsOk x.fst x.snd ∧ True)) (bcase (x.fst == (11 : Int)) (bcase ((↑(List.length x.snd) : Int) == (1 : Int)) (∃ (y : Unit), True ∧ List.all x_1 isVal = kindsOk x.fst x.snd ∧ True) (∃ (y : Unit), True ∧ false = kindsOk x.fst x.snd ∧ True)) (bcase (x.fst == (13 : Int)) (bcase ((↑(List.length x.snd) : Int) == (1 : Int)) (∃ (y : Unit), True ∧ List.all x_1 isVal = kindsOk x.fst x.snd ∧ True) (∃ (y : Unit), True ∧ false = kindsOk x.fst x.snd ∧ True)) (bcase (x.fst == (14 : Int)) (bcase ((↑(List.length x.snd) : Int) == (1 : Int)) (∃ (y : Unit), True ∧ List.all x_1 isVal = kindsOk x.fst x.snd ∧ True) (∃ (y : Unit), True ∧ false = kindsOk x.fst x.snd ∧ True)) (bcase (x.fst == (12 : Int)) (bcase (decide ((↑(List.length x.snd) : Int) ≤ (1 : Int))) (∃ (y : Unit), True ∧ List.all x_1 isVal = kindsOk x.fst x.snd ∧ True) (∃ (y : Unit), True ∧ false = kindsOk x.fst x.snd ∧ True)) (bcase (x.fst == (15 : Int)) (bcase (decide ((↑(List.length x.snd) : Int) ≤ (1 : Int))) (∃ (y : Unit), True ∧ List.all x_1 isVal = kindsOk x.fst x.snd ∧ True) (∃ (y : Unit), True ∧ false = kindsOk x.fst x.snd ∧ True)) (bcase (x.fst == (9 : Int)) (∃ (x_2 : List Int), List.length x_2 < (4611686018427387904 : Nat) ∧ AV.sl false (0 : Nat) (1 : Nat) Int intA x.snd = AV.sl false (0 : Nat) (1 : Nat) Int intA x_2 ∧ ∀ (y : Unit), True → ∃ (y : Unit), True ∧ lastIs isVal x_2 = kindsOk x.fst x.snd ∧ True) (bcase (x.fst == (10 : Int)) (bcase (decide ((↑(List.length x.snd) : Int) ≥ (2 : Int))) (((0 : Int) ≤ (0 : Int) ∧ (0 : Int) < (↑(List.length x.snd) : Int)) ∧ ∀ (e : Int), x.snd[(0 : Nat)]? = some e → ∃ (x_2 : Int), True ∧ e = x_2 ∧ ∀ (y : Unit), True → bcase (isVal x_2) (((0 : Int) ≤ (1 : Int) ∧ (1 : Int) ≤ (↑(List.length x.snd) : Int) ∧ (↑(List.length x.snd) : Int) ≤ (↑(List.length x.snd) : Int)) ∧ ∃ (x_3 : List Int), List.length x_3 < (4611686018427387904 : Nat) ∧ AV.sl false (0 : Nat) (1 : Nat) Int intA (List.drop (1 : Nat) x.snd) = AV.sl false (0 : Nat) (1 : Nat) Int intA x_3 ∧ ∀ (y : Unit), True → ∃ (y : Unit), True ∧ List.all x_3 isCl = kindsOk x.fst x.snd ∧ True) (∃ (y : Unit), True ∧ false = kindsOk x.fst x.snd ∧ True)) (∃ (y : Unit), True ∧ false = kindsOk x.fst x.snd ∧ True)) (bcase (x.fst == (16 : Int)) (∃ (x_2 : Int × Int × Int), True ∧ (↑(List.length x.snd) : Int) = x_2.fst ∧ (2 : Int) = x_2.snd.fst ∧ (3 : Int) = x_2.snd.snd ∧ ∀ (y : Unit), True → bcase (inn x_2.fst x_2.snd.fst x_2.snd.snd) (((0 : Int) ≤ (0 : Int) ∧ (0 : Int) < (↑(List.length x.snd) : Int)) ∧ ∀ (e : Int), x.snd[(0 : Nat)]? = some e → ∃ (x_3 : Int), True ∧ e = x_3 ∧ ∀ (y : Unit), True → bcase (isVal x_3) (((0 : Int) ≤ (1 : Int) ∧ (1 : Int) ≤ (↑(List.length x.snd) : Int) ∧ (↑(List.length x.snd) : Int) ≤ (↑(List.length x.snd) : Int)) ∧ ∃ (x_4 : List Int), List.length x_4 < (4611686018427387904 : Nat) ∧ AV.sl false (0 : Nat) (1 : Nat) Int intA (List.drop (1 : Nat) x.snd) = AV.sl false (0 : Nat) (1 : Nat) Int intA x_4 ∧ ∀ (y : Unit), True → ∃ (y : Unit), True ∧ List.all x_4 isBlk = kindsOk x.fst x.snd ∧ True) (∃ (y : Unit), True ∧ false = kindsOk x.fst x.snd ∧ True)) (∃ (y : Unit), True ∧ false = kindsOk x.fst x.snd ∧ True)) (bcase (x.fst == (17 : Int)) (bcase ((↑(List.length x.snd) : Int) == (2 : Int)) (((0 : Int) ≤ (0 : Int) ∧ (0 : Int) < (↑(List.length x.snd) : Int)) ∧ ∀ (e : Int), x.snd[(0 : Nat)]? = some e → ∃ (x_2 : Int), True ∧ e = x_2 ∧ ∀ (y : Unit), True → bcase (isVal x_2) (((0 : Int) ≤ (1 : Int) ∧ (1 : Int) < (↑(List.length x.snd) : Int)) ∧ ∀ (e : Int), x.snd[(1 : Nat)]? = some e → ∃ (x_3 : Int), True ∧ e = x_3 ∧ ∀ (y : Unit), True → ∃ (y : Unit), True ∧ isBlk x_3 = kindsOk x.fst x.snd ∧ True) (∃ (y : Unit), True ∧ false = kindsOk x.fst x.snd ∧ True)) (∃ (y : Unit), True ∧ false = kindsOk x.fst x.snd ∧ True)) (bcase (x.fst == (18 : Int)) (∃ (x_2 : List Int), List.length x_2 < (4611686018427387904 : Nat) ∧ AV.sl false (0 : Nat) (1 : Nat) Int intA x.snd = AV.sl false (0 : Nat) (1 : Nat) Int intA x_2 ∧ ∀ (y : Unit), True → ∃ (y : Unit), True ∧ List.all x_2 isSt = kindsOk x.fst x.snd ∧ True) (bcase (x.fst == (20 : Int)) (∃ (x_2 : List Int), List.length x_2 < (4611686018427387904 : Nat) ∧ AV.sl false (0 : Nat) (1 : Nat) Int intA x.snd = AV.sl false (0 : Nat) (1 : Nat) Int intA x_2 ∧ ∀ (y : Unit), True → ∃ (y : Unit), True ∧ lastIs isBlk x_2 = kindsOk x.fst x.snd ∧ True) (bcase (x.fst == (21 : Int)) (∃ (x_2 : List Int), List.length x_2 < (4611686018427387904 : Nat) ∧ AV.sl false (0 : Nat) (1 : Nat) Int intA x.snd = AV.sl false (0 : Nat) (1 : Nat) Int intA x_2 ∧ ∀ (y : Unit), True → ∃ (y : Unit), True ∧ List.all x_2 isMem = kindsOk x.fst x.snd ∧ True) (bcase (x.fst == (22 : Int)) (∃ (x_2 : List Int), List.length x_2 < (4611686018427387904 : Nat) ∧ AV.sl false (0 : Nat) (1 : Nat) Int intA x.snd = AV.sl false (0 : Nat) (1 : Nat) Int intA x_2 ∧ ∀ (y : Unit), True → ∃ (y : Unit), True ∧ List.all x_2 isTop = kindsOk x.fst x.snd ∧ True) (∃ (y : Unit), True ∧ false = kindsOk x.fst x.snd ∧ True))))))))))))))))))))))) := by kernel_rfl
theorem kindsFit_ok  : Contract G Tryz.prog 185 s_kindsFit :=
  vcFun_ok (Γ := Γof [(144, 0, s_isValue), (216, 0, s_isBlock), (92, 0, s_inRange), (213, 144 + 1, s_allVal), (213, 216 + 1, s_allBlk), (213, 184 + 1, s_allMem), (213, 215 + 1, s_allCl), (213, 217 + 1, s_allSt), (213, 218 + 1, s_allTop), (214, 144 + 1, s_lastVal), (214, 216 + 1, s_lastBlk)]) (E := Eof []) (ov := false) (L := fun x => Lof ([])) Tryz.func185 rfl (by decide) (Γof_ok (l := [(144, 0, s_isValue), (216, 0, s_isBlock), (92, 0, s_inRange), (213, 144 + 1, s_allVal), (213, 216 + 1, s_allBlk), (213, 184 + 1, s_allMem), (213, 215 + 1, s_allCl), (213, 217 + 1, s_allSt), (213, 218 + 1, s_allTop), (214, 144 + 1, s_lastVal), (214, 216 + 1, s_lastBlk)]) ⟨isValue_ok, isBlock_ok, inRange_ok, allVal_ok, allBlk_ok, allMem_ok, allCl_ok, allSt_ok, allTop_ok, lastVal_ok, lastBlk_ok, trivial⟩) fun (x : Int × List Int) (hx : x.2.length < 2 ^ 62) => (kindsFit_vc  x).mpr (by
  have hx : x.2.length < 2 ^ 62 := hx
  obtain ⟨k, l⟩ := x
  (repeat' first | with_reducible rfl | exact True.intro | refine inR_i64 ?_ ?_ | with_reducible refine And.intro ?_ ?_ | with_reducible refine bcase_dec (fun _ => ?_) (fun _ => ?_) | with_reducible refine bcase_bne (fun _ => ?_) (fun _ => ?_) | with_reducible refine bcase_beq (fun _ => ?_) (fun _ => ?_) | with_reducible refine bcase_not (fun _ => ?_) (fun _ => ?_) | refine bcase_intro (fun _ => ?_) (fun _ => ?_) | refine sl_eq ?_ | refine ex_flip () ?_ ?_ | (apply ex_flip6 <;> try dsimp only) | (apply ex_flip5 <;> try dsimp only) | (apply ex_flip4 <;> try dsimp only) | (apply ex_flip3 <;> try dsimp only) | (apply ex_flip2 <;> try dsimp only) | apply ex_flip | (refine Prod.forall.2 ?_; intro _; try dsimp only) | (intro _; try dsimp only)) <;> (try dsimp only at *) <;> (try simp only [i64max, List.length_cons, List.length_nil]) <;> (try omega)
  all_goals try (simp only [List.length_drop]; omega)
  all_goals try (simp [kindsOk, beqI, *] <;> omega)
  all_goals (match l with
    | [] => simp_all [kindsOk, inn] <;> omega
    | [a] => simp_all [kindsOk, inn] <;> omega
    | [a, b] => simp_all [kindsOk, inn] <;> omega
    | [a, b, c] => simp_all [kindsOk, inn] <;> omega
    | a :: b :: c :: d :: m => simp_all [kindsOk, inn] <;> omega))

def s_isNode  : Sig := { X := List Nd × Int, args := fun x => [nds x.1, .int .i64 x.2], pre := fun x => x.1.length < 2 ^ 62, Y := Unit, post := fun x y => True, res := fun x y => .bool (isNd x.1 x.2), outs := fun x y => [.top, .top], keep := false }
theorem isNode_vc (x : List Nd × Int) : vcFun Go.Proofs.Tryz.prog (Γof []) (Eof []) false (Lof ([])) Go.Proofs.Tryz.f118.ntmps Go.Proofs.Tryz.f118.results.toList (Go.Proofs.Tryz.f118.body.getD .skip) s_isNode x = ((∀ (y : Unit), True → True ∧ True ∧ True ∧ True) ∧ bcase (decide (x.snd ≥ (0 : Int))) (∃ (y : Unit), True ∧ decide (x.snd < (↑(List.length x.fst) : Int)) = isNd x.fst x.snd ∧ True) (∃ (y : Unit), True ∧ false = isNd x.fst x.snd ∧ True)) := by kernel_rfl
theorem isNode_ok  : Contract G Tryz.prog 118 s_isNode :=
  vcFun_ok (Γ := Γof []) (E := Eof []) (ov := false) (L := fun x => Lof ([])) Tryz.func118 rfl (by decide) (Γof_ok (l := []) trivial) fun (x : List Nd × Int) (hx : x.1.length < 2 ^ 62) => (isNode_vc  x).mpr (by
  have hx : x.1.length < 2 ^ 62 := hx
  (repeat' first | with_reducible rfl | exact True.intro | refine inR_i64 ?_ ?_ | with_reducible refine And.intro ?_ ?_ | with_reducible refine bcase_dec (fun _ => ?_) (fun _ => ?_) | with_reducible refine bcase_bne (fun _ => ?_) (fun _ => ?_) | with_reducible refine bcase_beq (fun _ => ?_) (fun _ => ?_) | with_reducible refine bcase_not (fun _ => ?_) (fun _ => ?_) | refine bcase_intro (fun _ => ?_) (fun _ => ?_) | refine sl_eq ?_ | refine ex_flip () ?_ ?_ | (apply ex_flip6 <;> try dsimp only) | (apply ex_flip5 <;> try dsimp only) | (apply ex_flip4 <;> try dsimp only) | (apply ex_flip3 <;> try dsimp only) | (apply ex_flip2 <;> try dsimp only) | apply ex_flip | (refine Prod.forall.2 ?_; intro _; try dsimp only) | (intro _; try dsimp only)) <;> (try dsimp only at *) <;> (try simp only [i64max, List.length_cons, List.length_nil]) <;> (try omega)
  all_goals simp [isNd, *])

end Go.My
end
