/- A part of the proof: the engine and the contracts, joined. -/
import Derived.Test.YtinkjpfkemkhaaaDoorQJ
import Derived.ProofKit
import Derived.Test.YtinkjpfkemkhaaaDoorProg
section
/- The laws' helpers over groups, and marks: what is written into what came back, and looked at again. -/
set_option linter.unusedVariables false
set_option linter.unusedSimpArgs false
namespace Go.My
open Go.Eng Go.Proofs
variable {G : GInv}

/- equality of groups -/
def beqGr (a b : Gr) : Bool := a.notes == b.notes && a.member == b.member
theorem beqGr_eq {a b : Gr} : beqGr a b = true ↔ a = b := by
  cases a; cases b; simp [beqGr]
theorem beqGr_self (a : Gr) : beqGr a a = true := beqGr_eq.2 rfl
def beqGrs : List Gr → List Gr → Bool
  | [], [] => true
  | a :: l, b :: m => beqGr a b && beqGrs l m
  | _, _ => false
theorem beqGrs_eq : ∀ {a b : List Gr}, beqGrs a b = true ↔ a = b
  | [], [] => by simp [beqGrs]
  | [], _ :: _ => by simp [beqGrs]
  | _ :: _, [] => by simp [beqGrs]
  | a :: l, b :: m => by simp [beqGrs, beqGr_eq, beqGrs_eq (a := l) (b := m)]
theorem beqGrs_false {a b : List Gr} (h : a ≠ b) : false = beqGrs a b := by
  cases hb : beqGrs a b
  · rfl
  · exact (h (beqGrs_eq.1 hb)).elim
theorem beqGrs_true {a b : List Gr} (h : a = b) : true = beqGrs a b := (beqGrs_eq.2 h).symm
theorem beqGrs_self (a : List Gr) : beqGrs a a = true := beqGrs_eq.2 rfl
def smallGrs (l : List Gr) : Prop := l.length < 2 ^ 40 ∧ ∀ g ∈ l, g.notes.length < 2 ^ 40
theorem fz_grs {l : List Gr} : AV.sl false 0 2 Gr (fun x => fzL (grA true x)) l = AV.sl false 0 2 Gr (grA false) l := rfl

/- marks -/
def mkI (k : Int) (n : Nat) : List Int := (List.range n).map fun j : Nat => k + (j : Int)
theorem mkI_len {k : Int} {n : Nat} : (mkI k n).length = n := by simp [mkI]
theorem mkI_at {k : Int} {n i : Nat} (h : i < n) : (mkI k n)[i]? = some (k + i) := by simp [mkI, h]
theorem mkI_set {k : Int} {l : List Int} {i : Nat} (h : i < l.length) : (mkI k i ++ l.drop i).set i (k + i) = mkI k (i + 1) ++ l.drop (i + 1) := by
  rw [List.set_append_right _ _ (by rw [mkI_len]; exact Nat.le_refl i), mkI_len, Nat.sub_self, List.drop_eq_getElem_cons h, List.set_cons_zero]
  simp [mkI, List.range_succ]
theorem mkI_full {k : Int} {l : List Int} {i : Nat} (h : l.length ≤ i) (h2 : i ≤ l.length) : mkI k i ++ l.drop i = mkI k l.length := by
  obtain rfl : i = l.length := by omega
  simp
def mkG (k : Int) (g : Gr) : Gr := ⟨mkI k g.notes.length, k + g.notes.length⟩
def totG : List Gr → Int
  | [] => 0
  | g :: l => g.notes.length + 1 + totG l
def mkGs (k : Int) : List Gr → List Gr
  | [] => []
  | g :: l => mkG k g :: mkGs (k + g.notes.length + 1) l
theorem totG_snoc : ∀ {l : List Gr} {g : Gr}, totG (l ++ [g]) = totG l + g.notes.length + 1
  | [], g => by simp [totG]
  | x :: l, g => by simp only [List.cons_append, totG]; rw [totG_snoc]; omega
theorem totG_cons {l : List Gr} {g : Gr} : totG (g :: l) = g.notes.length + 1 + totG l := rfl
theorem mkGs_snoc : ∀ {l : List Gr} {g : Gr} {k : Int}, mkGs k (l ++ [g]) = mkGs k l ++ [mkG (k + totG l) g]
  | [], g, k => by simp [mkGs, totG]
  | x :: l, g, k => by
    simp only [List.cons_append, mkGs]; rw [mkGs_snoc, totG_cons]
    rw [show k + (x.notes.length : Int) + 1 + totG l = k + (x.notes.length + 1 + totG l) by omega]
theorem mkGs_len : ∀ {l : List Gr} {k : Int}, (mkGs k l).length = l.length
  | [], k => rfl
  | x :: l, k => by simp [mkGs, mkGs_len]
theorem mkGs_at : ∀ {l : List Gr} {k : Int} {i : Nat} {g : Gr}, l[i]? = some g → (mkGs k l)[i]? = some (mkG (k + totG (l.take i)) g)
  | [], k, i, g, h => by simp at h
  | x :: l, k, 0, g, h => by simp at h; subst h; simp [mkGs, totG]
  | x :: l, k, i + 1, g, h => by
    simp only [mkGs, List.getElem?_cons_succ, List.take_succ_cons] at h ⊢
    rw [mkGs_at h, totG_cons]; congr 2; omega
theorem totG_bd : ∀ {l : List Gr} {n : Nat}, (∀ g ∈ l, g.notes.length ≤ n) → 0 ≤ totG l ∧ totG l ≤ l.length * (n + 1)
  | [], n, h => by simp [totG]
  | x :: l, n, h => by
    have h1 := h x (by simp)
    have h2 := totG_bd (l := l) (n := n) fun g hg => h g (by simp [hg])
    rw [totG_cons, List.length_cons]
    have e : ((l.length + 1 : Nat) : Int) * ((n : Int) + 1) = l.length * (n + 1) + (n + 1) := by rw [Int.natCast_add, Int.add_mul]; simp
    rw [e]; omega
theorem mkGs_set {l : List Gr} {k : Int} {i : Nat} {g : Gr} (h : l[i]? = some g) : (mkGs k (l.take i) ++ l.drop i).set i (mkG (k + totG (l.take i)) g) = mkGs k (l.take (i + 1)) ++ l.drop (i + 1) := by
  have hi := (getE h).1
  have e : (mkGs k (l.take i)).length = i := by rw [mkGs_len, List.length_take]; omega
  rw [List.set_append_right _ _ (by rw [e]; exact Nat.le_refl i), e, Nat.sub_self, dropE h, List.set_cons_zero, takeE h, mkGs_snoc]
  simp

/- order -/
theorem asc_iff {α : Type} {lt : α → α → Bool} {l : List α} : asc lt l = true ↔ ∀ (j : Nat) (a b : α), l[j + 1]? = some b → l[j]? = some a → lt b a = false := by
  unfold asc
  rw [List.all_eq_true]
  constructor
  · intro h j a b hb ha
    have := h j (List.mem_range.2 (by have := (getE hb).1; omega))
    rw [hb, ha] at this
    simpa using this
  · intro h j hj
    have hj := List.mem_range.1 hj
    have e1 : l[j + 1]? = some l[j + 1] := by simp
    have e2 : l[j]? = some l[j] := by simp
    rw [e1, e2]
    simp [h j _ _ e1 e2]
theorem asc_not {α : Type} {lt : α → α → Bool} {l : List α} {j : Nat} {a b : α} (hb : l[j + 1]? = some b) (ha : l[j]? = some a) (h : lt b a = true) : asc lt l = false := by
  rw [Bool.eq_false_iff]; intro hh
  rw [asc_iff.1 hh j a b hb ha] at h; cases h
def ltG (ns : List Nd) (a b : Gr) : Bool := bLt (gkey ns a.member) (gkey ns b.member)
def cmpV (a b : List UInt8) : Int := if bLt a b then -1 else if !(bLt a b || a == b) then 1 else 0
theorem cmpV_neg {a b : List UInt8} : cmpV a b < 0 ↔ bLt a b = true := by
  unfold cmpV
  by_cases h : bLt a b = true
  · simp [h]
  · rw [if_neg h]; split <;> simp [h]
def s_isNaN  : Sig := { X := List UInt8, args := fun x => [.str x], pre := fun x => True, Y := Unit, post := fun x y => True, res := fun x y => .bool false, outs := fun x y => [.top], keep := false }
theorem isNaN_vc (x : List UInt8) : vcFun Go.Proofs.Tryd.prog (Γof []) (Eof []) false (Lof ([])) Go.Proofs.Tryd.f55.ntmps Go.Proofs.Tryd.f55.results.toList (Go.Proofs.Tryd.f55.body.getD .skip) s_isNaN x = ((∀ (y : Unit), True → True ∧ True ∧ True) ∧ ∃ (y : Unit), True ∧ (!x == x) = false ∧ True) := by kernel_rfl
theorem isNaN_ok  : Contract G Tryd.prog 55 s_isNaN :=
  vcFun_ok (Γ := Γof []) (E := Eof []) (ov := false) (L := fun x => Lof ([])) Tryd.func55 rfl (by decide) (Γof_ok (l := []) trivial) fun (x : List UInt8) (hx : True) => (isNaN_vc  x).mpr (by
  (repeat' first | with_reducible rfl | exact True.intro | refine inR_i64 ?_ ?_ | with_reducible refine And.intro ?_ ?_ | with_reducible refine bcase_dec (fun _ => ?_) (fun _ => ?_) | with_reducible refine bcase_bne (fun _ => ?_) (fun _ => ?_) | with_reducible refine bcase_beq (fun _ => ?_) (fun _ => ?_) | with_reducible refine bcase_not (fun _ => ?_) (fun _ => ?_) | refine bcase_intro (fun _ => ?_) (fun _ => ?_) | refine sl_eq ?_ | refine ex_flip () ?_ ?_ | (apply ex_flip6 <;> try dsimp only) | (apply ex_flip5 <;> try dsimp only) | (apply ex_flip4 <;> try dsimp only) | (apply ex_flip3 <;> try dsimp only) | (apply ex_flip2 <;> try dsimp only) | apply ex_flip | (refine Prod.forall.2 ?_; intro _; try dsimp only) | (intro _; try dsimp only)) <;> (try dsimp only at *) <;> (try simp only [i64max, List.length_cons, List.length_nil]) <;> (try omega)
  all_goals simp)

def s_cmpStr  : Sig := { X := List UInt8 × List UInt8, args := fun x => [.str x.1, .str x.2], pre := fun x => True, Y := Unit, post := fun x y => True, res := fun x y => .int .i64 (cmpV x.1 x.2), outs := fun x y => [.top, .top], keep := false }
theorem cmpStr_vc (x : List UInt8 × List UInt8) : vcFun Go.Proofs.Tryd.prog (Γof [(55, 0, s_isNaN)]) (Eof []) false (Lof ([])) Go.Proofs.Tryd.f35.ntmps Go.Proofs.Tryd.f35.results.toList (Go.Proofs.Tryd.f35.body.getD .skip) s_cmpStr x = ((∀ (y : Unit), True → True ∧ True ∧ True ∧ True) ∧ ∃ (x_1 : List UInt8), True ∧ x.fst = x_1 ∧ ∀ (y : Unit), True → ∃ (x_2 : List UInt8), True ∧ x.snd = x_2 ∧ ∀ (y : Unit), True → bcase (Op.bytesLess x.fst x.snd) (∃ (y : Unit), True ∧ (-1 : Int) = cmpV x.fst x.snd ∧ True) (bcase (!(Op.bytesLess x.fst x.snd || x.fst == x.snd)) (∃ (y : Unit), True ∧ (1 : Int) = cmpV x.fst x.snd ∧ True) (∃ (y : Unit), True ∧ (0 : Int) = cmpV x.fst x.snd ∧ True))) := by kernel_rfl
theorem cmpStr_ok  : Contract G Tryd.prog 35 s_cmpStr :=
  vcFun_ok (Γ := Γof [(55, 0, s_isNaN)]) (E := Eof []) (ov := false) (L := fun x => Lof ([])) Tryd.func35 rfl (by decide) (Γof_ok (l := [(55, 0, s_isNaN)]) ⟨isNaN_ok, trivial⟩) fun (x : List UInt8 × List UInt8) (hx : True) => (cmpStr_vc  x).mpr (by
  (repeat' first | with_reducible rfl | exact True.intro | refine inR_i64 ?_ ?_ | with_reducible refine And.intro ?_ ?_ | with_reducible refine bcase_dec (fun _ => ?_) (fun _ => ?_) | with_reducible refine bcase_bne (fun _ => ?_) (fun _ => ?_) | with_reducible refine bcase_beq (fun _ => ?_) (fun _ => ?_) | with_reducible refine bcase_not (fun _ => ?_) (fun _ => ?_) | refine bcase_intro (fun _ => ?_) (fun _ => ?_) | refine sl_eq ?_ | refine ex_flip () ?_ ?_ | (apply ex_flip6 <;> try dsimp only) | (apply ex_flip5 <;> try dsimp only) | (apply ex_flip4 <;> try dsimp only) | (apply ex_flip3 <;> try dsimp only) | (apply ex_flip2 <;> try dsimp only) | apply ex_flip | (refine Prod.forall.2 ?_; intro _; try dsimp only) | (intro _; try dsimp only)) <;> (try dsimp only at *) <;> (try simp only [i64max, List.length_cons, List.length_nil]) <;> (try omega)
  all_goals simp_all [cmpV])

def s_cmpO  : Sig := { X := List Nd × Int × Int, args := fun x => [.agg [.any, .int .i64 x.2.1], .agg [.any, .int .i64 x.2.2], .pf [nds x.1]], pre := fun x => x.1.length < 2 ^ 62 ∧ ∀ e ∈ x.1, e.text.length ≤ 2 ^ 40, Y := Unit, post := fun x y => True, res := fun x y => .int .i64 (cmpV (gkey x.1 x.2.1) (gkey x.1 x.2.2)), outs := fun x y => [.top, .top, .top], keep := false }
theorem cmpO_vc (x : List Nd × Int × Int) : vcFun Go.Proofs.Tryd.prog (Γof [(36, 0, s_iGroupKey), (35, 0, s_cmpStr)]) (Eof []) false (Lof ([])) Go.Proofs.Tryd.f34.ntmps Go.Proofs.Tryd.f34.results.toList (Go.Proofs.Tryd.f34.body.getD .skip) s_cmpO x = ((∀ (y : Unit), True → True ∧ True ∧ True ∧ True ∧ True) ∧ true = true ∧ true = true ∧ ∃ (x_1 : List Nd × Int), (List.length x_1.fst < (4611686018427387904 : Nat) ∧ ∀ (e : Nd), e ∈ x_1.fst → List.length e.text ≤ (1099511627776 : Nat)) ∧ AV.sl false (0 : Nat) (4 : Nat) Nd (ndA false) x.fst = AV.sl false (0 : Nat) (4 : Nat) Nd (ndA false) x_1.fst ∧ x.snd.fst = x_1.snd ∧ ∃ (y0 : Unit), (∀ (y : Unit), True → AV.str (gkey x_1.fst x_1.snd) = AV.str (gkey x_1.fst x_1.snd)) ∧ true = true ∧ ∃ (x_2 : List Nd × Int), (List.length x_2.fst < (4611686018427387904 : Nat) ∧ ∀ (e : Nd), e ∈ x_2.fst → List.length e.text ≤ (1099511627776 : Nat)) ∧ AV.sl false (0 : Nat) (4 : Nat) Nd (ndA false) x.fst = AV.sl false (0 : Nat) (4 : Nat) Nd (ndA false) x_2.fst ∧ x.snd.snd = x_2.snd ∧ ∃ (y0 : Unit), (∀ (y : Unit), True → AV.str (gkey x_2.fst x_2.snd) = AV.str (gkey x_2.fst x_2.snd)) ∧ true = true ∧ ∃ (x_3 : List UInt8 × List UInt8), True ∧ gkey x_1.fst x_1.snd = x_3.fst ∧ gkey x_2.fst x_2.snd = x_3.snd ∧ ∃ (y0 : Unit), (∀ (y : Unit), True → AV.int IntKind.i64 (cmpV x_3.fst x_3.snd) = AV.int IntKind.i64 (cmpV x_3.fst x_3.snd)) ∧ true = true ∧ ∃ (y : Unit), True ∧ cmpV x_3.fst x_3.snd = cmpV (gkey x.fst x.snd.fst) (gkey x.fst x.snd.snd) ∧ True) := by kernel_rfl
theorem cmpO_ok  : Contract G Tryd.prog 34 s_cmpO :=
  vcFun_ok (Γ := Γof [(36, 0, s_iGroupKey), (35, 0, s_cmpStr)]) (E := Eof []) (ov := false) (L := fun x => Lof ([])) Tryd.func34 rfl (by decide) (Γof_ok (l := [(36, 0, s_iGroupKey), (35, 0, s_cmpStr)]) ⟨iGroupKey_ok, cmpStr_ok, trivial⟩) fun (x : List Nd × Int × Int) (hx : x.1.length < 2 ^ 62 ∧ ∀ e ∈ x.1, e.text.length ≤ 2 ^ 40) => (cmpO_vc  x).mpr (by
  have h1 := hx.1; have h2 := hx.2
  (repeat' first | with_reducible rfl | exact True.intro | refine inR_i64 ?_ ?_ | with_reducible refine And.intro ?_ ?_ | with_reducible refine bcase_dec (fun _ => ?_) (fun _ => ?_) | with_reducible refine bcase_bne (fun _ => ?_) (fun _ => ?_) | with_reducible refine bcase_beq (fun _ => ?_) (fun _ => ?_) | with_reducible refine bcase_not (fun _ => ?_) (fun _ => ?_) | refine bcase_intro (fun _ => ?_) (fun _ => ?_) | refine sl_eq ?_ | refine ex_flip () ?_ ?_ | (apply ex_flip6 <;> try dsimp only) | (apply ex_flip5 <;> try dsimp only) | (apply ex_flip4 <;> try dsimp only) | (apply ex_flip3 <;> try dsimp only) | (apply ex_flip2 <;> try dsimp only) | apply ex_flip | (refine Prod.forall.2 ?_; intro _; try dsimp only) | (intro _; try dsimp only))
  all_goals first | exact h1 | exact h2 | exact h2 _ (by assumption) | skip)

def sfI (ns : List Nd) (l : List Gr) (i : Int) : Prop := (i < l.length ∧ (i = -1 ∨ 0 ≤ i)) ∧ ∀ (j : Nat) (a b : Gr), i ≤ j → l[j + 1]? = some b → l[j]? = some a → ltG ns b a = false
theorem sfI_init {ns : List Nd} {l : List Gr} : sfI ns l (l.length - 1) := ⟨by omega, fun j a b h hb _ => by have := (getE hb).1; omega⟩
theorem sfI_next {ns : List Nd} {l : List Gr} {i : Int} {a b : Gr} (h : sfI ns l i) (hi : i > 0) (hb : l[i.toNat]? = some b) (ha : l[(i - 1).toNat]? = some a) (hc : ¬ cmpV (gkey ns b.member) (gkey ns a.member) < 0) : sfI ns l (i - 1) := by
  refine ⟨by have := h.1; omega, fun j c d hj hd hc' => ?_⟩
  by_cases e : i ≤ j
  · exact h.2 j c d e hd hc'
  · have e1 : j + 1 = i.toNat := by omega
    have e2 : j = (i - 1).toNat := by omega
    rw [e1, hb] at hd; rw [e2, ha] at hc'
    cases hd; cases hc'
    rw [cmpV_neg] at hc
    simpa [ltG] using hc
theorem sfI_done {ns : List Nd} {l : List Gr} {i : Int} (h : sfI ns l i) (hi : ¬ i > 0) : true = asc (ltG ns) l := by
  symm; rw [asc_iff]; intro j a b hb ha
  exact h.2 j a b (by omega) hb ha
theorem sf_not {ns : List Nd} {l : List Gr} {i : Int} {a b : Gr} (hi : i > 0) (hb : l[i.toNat]? = some b) (ha : l[(i - 1).toNat]? = some a) (hc : cmpV (gkey ns b.member) (gkey ns a.member) < 0) : false = asc (ltG ns) l := by
  symm
  have e : i.toNat = (i - 1).toNat + 1 := by omega
  rw [e] at hb
  exact asc_not hb ha (cmpV_neg.1 hc)
def s_isSortedF  : Sig := { X := List Gr × List Nd, args := fun x => [grs x.1, .clo (.func 34) [.pf [nds x.2]]], pre := fun x => (x.1.length < 2 ^ 62 ∧ x.2.length < 2 ^ 62) ∧ ∀ e ∈ x.2, e.text.length ≤ 2 ^ 40, Y := Unit, post := fun x y => True, res := fun x y => .bool (asc (ltG x.2) x.1), outs := fun x y => [.top, .top], keep := false }
theorem isSortedF_vc (x : List Gr × List Nd) : vcFun Go.Proofs.Tryd.prog (Γof [(34, 0, s_cmpO)]) (Eof []) false (Lof ([(2,{ ι := Int, inv := sfI x.2 x.1, regs := fun i => [(0, grs x.1), (1, .clo (.func 34) [.pf [nds x.2]]), (5, .int .i64 i)], als := [], meas := fun i => i.toNat })])) Go.Proofs.Tryd.f33.ntmps Go.Proofs.Tryd.f33.results.toList (Go.Proofs.Tryd.f33.body.getD .skip) s_isSortedF x = ((∀ (y : Unit), True → True ∧ True ∧ True ∧ True) ∧ inR IntKind.i64 ((↑(List.length x.fst) : Int) - (1 : Int)) ∧ (∃ (i : Int), sfI x.snd x.fst i ∧ (AV.sl false (0 : Nat) (2 : Nat) Gr (grA false) x.fst = AV.sl false (0 : Nat) (2 : Nat) Gr (grA false) x.fst ∧ AV.pf [AV.sl false (0 : Nat) (4 : Nat) Nd (ndA false) x.snd] = AV.pf [AV.sl false (0 : Nat) (4 : Nat) Nd (ndA false) x.snd] ∧ (↑(List.length x.fst) : Int) - (1 : Int) = i ∧ True) ∧ True) ∧ ∀ (i : Int), sfI x.snd x.fst i → bcase (decide (i > (0 : Int))) (true = true ∧ true = true ∧ ((0 : Int) ≤ i ∧ i < (↑(List.length x.fst) : Int)) ∧ ∀ (e : Gr), x.fst[Int.toNat i]? = some e → inR IntKind.i64 (i - (1 : Int)) ∧ ((0 : Int) ≤ i - (1 : Int) ∧ i - (1 : Int) < (↑(List.length x.fst) : Int)) ∧ ∀ (e_1 : Gr), x.fst[Int.toNat (i - (1 : Int))]? = some e_1 → ∃ (x_1 : List Nd × Int × Int), (List.length x_1.fst < (4611686018427387904 : Nat) ∧ ∀ (e : Nd), e ∈ x_1.fst → List.length e.text ≤ (1099511627776 : Nat)) ∧ e.member = x_1.snd.fst ∧ e_1.member = x_1.snd.snd ∧ AV.pf [AV.sl false (0 : Nat) (4 : Nat) Nd (ndA false) x.snd] = AV.pf [AV.sl false (0 : Nat) (4 : Nat) Nd (ndA false) x_1.fst] ∧ ∃ (y0 : Unit), (∀ (y : Unit), True → AV.int IntKind.i64 (cmpV (gkey x_1.fst x_1.snd.fst) (gkey x_1.fst x_1.snd.snd)) = AV.int IntKind.i64 (cmpV (gkey x_1.fst x_1.snd.fst) (gkey x_1.fst x_1.snd.snd))) ∧ true = true ∧ bcase (decide (cmpV (gkey x_1.fst x_1.snd.fst) (gkey x_1.fst x_1.snd.snd) < (0 : Int))) (∃ (y : Unit), True ∧ false = asc (ltG x.snd) x.fst ∧ True) (inR IntKind.i64 (i - (1 : Int)) ∧ ∃ (i' : Int), sfI x.snd x.fst i' ∧ Int.toNat i' < Int.toNat i ∧ (AV.sl false (0 : Nat) (2 : Nat) Gr (grA false) x.fst = AV.sl false (0 : Nat) (2 : Nat) Gr (grA false) x.fst ∧ AV.pf [AV.sl false (0 : Nat) (4 : Nat) Nd (ndA false) x.snd] = AV.pf [AV.sl false (0 : Nat) (4 : Nat) Nd (ndA false) x.snd] ∧ i - (1 : Int) = i' ∧ True) ∧ True)) (∃ (y : Unit), True ∧ true = asc (ltG x.snd) x.fst ∧ True)) := by kernel_rfl
theorem isSortedF_ok  : Contract G Tryd.prog 33 s_isSortedF :=
  vcFun_ok (Γ := Γof [(34, 0, s_cmpO)]) (E := Eof []) (ov := false) (L := fun x => Lof ([(2,{ ι := Int, inv := sfI x.2 x.1, regs := fun i => [(0, grs x.1), (1, .clo (.func 34) [.pf [nds x.2]]), (5, .int .i64 i)], als := [], meas := fun i => i.toNat })])) Tryd.func33 rfl (by decide) (Γof_ok (l := [(34, 0, s_cmpO)]) ⟨cmpO_ok, trivial⟩) fun (x : List Gr × List Nd) (hx : (x.1.length < 2 ^ 62 ∧ x.2.length < 2 ^ 62) ∧ ∀ e ∈ x.2, e.text.length ≤ 2 ^ 40) => (isSortedF_vc  x).mpr (by
  obtain ⟨⟨h1, h2⟩, h3⟩ := hx
  (repeat' first | with_reducible rfl | exact True.intro | refine inR_i64 ?_ ?_ | with_reducible refine And.intro ?_ ?_ | with_reducible refine bcase_dec (fun _ => ?_) (fun _ => ?_) | with_reducible refine bcase_bne (fun _ => ?_) (fun _ => ?_) | with_reducible refine bcase_beq (fun _ => ?_) (fun _ => ?_) | with_reducible refine bcase_not (fun _ => ?_) (fun _ => ?_) | refine bcase_intro (fun _ => ?_) (fun _ => ?_) | refine sl_eq ?_ | refine ex_flip () ?_ ?_ | (apply ex_flip6 <;> try dsimp only) | (apply ex_flip5 <;> try dsimp only) | (apply ex_flip4 <;> try dsimp only) | (apply ex_flip3 <;> try dsimp only) | (apply ex_flip2 <;> try dsimp only) | apply ex_flip | (refine Prod.forall.2 ?_; intro _; try dsimp only) | (intro _; try dsimp only))
  all_goals first
    | rfl
    | exact h1
    | exact h2
    | exact h3
    | exact h3 _ (by assumption)
    | exact sfI_init
    | exact sf_not (by assumption) (by assumption) (by assumption) (by assumption)
    | exact sfI_next (by assumption) (by assumption) (by assumption) (by assumption) (by assumption)
    | exact sfI_done (by assumption) (by assumption)
    | (have hs := (show sfI _ _ _ by assumption).1; (try simp only [i64max]); omega)
    | ((try simp only [i64max]); omega)
    | skip)

def s_iIsOrdered  : Sig := { X := List Nd, args := fun x => [nds x], pre := fun x => (okNds x ∧ x.length ≤ 2 ^ 30) ∧ ∀ e ∈ x, e.text.length ≤ 2 ^ 40, Y := Unit, post := fun x y => True, res := fun x y => .bool (asc (ltG x) (groupsOf x)), outs := fun x y => [.top], keep := false }
theorem iIsOrdered_vc (x : List Nd) : vcFun Go.Proofs.Tryd.prog (Γof [(17, 0, s_iGroupsOf), (33, 34 + 1, s_isSortedF)]) (Eof []) false (Lof ([])) Go.Proofs.Tryd.f15.ntmps Go.Proofs.Tryd.f15.results.toList (Go.Proofs.Tryd.f15.body.getD .skip) s_iIsOrdered x = ((∀ (y : Unit), True → True ∧ True ∧ True) ∧ ∃ (x_1 : List Nd), (okNds x_1 ∧ List.length x_1 ≤ (1073741824 : Nat)) ∧ AV.sl false (0 : Nat) (4 : Nat) Nd (ndA false) x = AV.sl false (0 : Nat) (4 : Nat) Nd (ndA false) x_1 ∧ ∀ (y : Unit), True → ∃ (x_2 : List Gr × List Nd), ((List.length x_2.fst < (4611686018427387904 : Nat) ∧ List.length x_2.snd < (4611686018427387904 : Nat)) ∧ ∀ (e : Nd), e ∈ x_2.snd → List.length e.text ≤ (1099511627776 : Nat)) ∧ AV.sl false (0 : Nat) (2 : Nat) Gr (fun (x : Gr) => fzL (grA true x)) (groupsOf x_1) = AV.sl false (0 : Nat) (2 : Nat) Gr (grA false) x_2.fst ∧ AV.pf [AV.sl false (0 : Nat) (4 : Nat) Nd (fun (x : Nd) => fzL._f [AV.int IntKind.i64 x.kind, AV.str x.text, AV.sl false (0 : Nat) (1 : Nat) Int intA x.kids, AV.bool x.blank] ⟨AV.rec (fun (k : IntKind) (n : Int) => ⟨fz._f (AV.int k n) PUnit.unit, PUnit.unit⟩) (fun (b : Bool) => ⟨fz._f (AV.bool b) PUnit.unit, PUnit.unit⟩) (fun (l : List UInt8) => ⟨fz._f (AV.str l) PUnit.unit, PUnit.unit⟩) (fun (v : Value) => ⟨fz._f (AV.val v) PUnit.unit, PUnit.unit⟩) ⟨fz._f AV.any PUnit.unit, PUnit.unit⟩ ⟨fz._f AV.top PUnit.unit, PUnit.unit⟩ ⟨fz._f AV.nil PUnit.unit, PUnit.unit⟩ (fun (id : Nat) => ⟨fz._f (AV.hole id) PUnit.unit, PUnit.unit⟩) (fun (id : Nat) => ⟨fz._f (AV.al id) PUnit.unit, PUnit.unit⟩) (fun (id k sz off : Nat) => ⟨fz._f (AV.po id k sz off) PUnit.unit, PUnit.unit⟩) (fun (fs : List AV) (fs_ih : List AV ×' AV.below_1 fs) => ⟨fz._f (AV.agg fs) fs_ih, fs_ih⟩) (fun (vs : List AV) (vs_ih : List AV ×' AV.below_1 vs) => ⟨fz._f (AV.tup vs) vs_ih, vs_ih⟩) (fun (id : Nat) (c : List AV) (c_ih : List AV ×' AV.below_1 c) => ⟨fz._f (AV.box id c) c_ih, c_ih⟩) (fun (c : List AV) (c_ih : List AV ×' AV.below_1 c) => ⟨fz._f (AV.pf c) c_ih, c_ih⟩) (fun (fn : Fn) (caps : List AV) (caps_ih : List AV ×' AV.below_1 caps) => ⟨fz._f (AV.clo fn caps) caps_ih, caps_ih⟩) (fun (own : Bool) (id sz : Nat) (α : Type) (f : α → List AV) (xs : List α) (f_ih : (a : α) → List AV ×' AV.below_1 (f a)) => ⟨fz._f (AV.sl own id sz α f xs) f_ih, f_ih⟩) ⟨fzL._f [] PUnit.unit, PUnit.unit⟩ (fun (head : AV) (tail : List AV) (head_ih : AV ×' AV.below head) (tail_ih : List AV ×' AV.below_1 tail) => ⟨fzL._f (head :: tail) ⟨head_ih, tail_ih⟩, head_ih, tail_ih⟩) (AV.int IntKind.i64 x.kind), AV.rec_1 (fun (k : IntKind) (n : Int) => ⟨fz._f (AV.int k n) PUnit.unit, PUnit.unit⟩) (fun (b : Bool) => ⟨fz._f (AV.bool b) PUnit.unit, PUnit.unit⟩) (fun (l : List UInt8) => ⟨fz._f (AV.str l) PUnit.unit, PUnit.unit⟩) (fun (v : Value) => ⟨fz._f (AV.val v) PUnit.unit, PUnit.unit⟩) ⟨fz._f AV.any PUnit.unit, PUnit.unit⟩ ⟨fz._f AV.top PUnit.unit, PUnit.unit⟩ ⟨fz._f AV.nil PUnit.unit, PUnit.unit⟩ (fun (id : Nat) => ⟨fz._f (AV.hole id) PUnit.unit, PUnit.unit⟩) (fun (id : Nat) => ⟨fz._f (AV.al id) PUnit.unit, PUnit.unit⟩) (fun (id k sz off : Nat) => ⟨fz._f (AV.po id k sz off) PUnit.unit, PUnit.unit⟩) (fun (fs : List AV) (fs_ih : List AV ×' AV.below_1 fs) => ⟨fz._f (AV.agg fs) fs_ih, fs_ih⟩) (fun (vs : List AV) (vs_ih : List AV ×' AV.below_1 vs) => ⟨fz._f (AV.tup vs) vs_ih, vs_ih⟩) (fun (id : Nat) (c : List AV) (c_ih : List AV ×' AV.below_1 c) => ⟨fz._f (AV.box id c) c_ih, c_ih⟩) (fun (c : List AV) (c_ih : List AV ×' AV.below_1 c) => ⟨fz._f (AV.pf c) c_ih, c_ih⟩) (fun (fn : Fn) (caps : List AV) (caps_ih : List AV ×' AV.below_1 caps) => ⟨fz._f (AV.clo fn caps) caps_ih, caps_ih⟩) (fun (own : Bool) (id sz : Nat) (α : Type) (f : α → List AV) (xs : List α) (f_ih : (a : α) → List AV ×' AV.below_1 (f a)) => ⟨fz._f (AV.sl own id sz α f xs) f_ih, f_ih⟩) ⟨fzL._f [] PUnit.unit, PUnit.unit⟩ (fun (head : AV) (tail : List AV) (head_ih : AV ×' AV.below head) (tail_ih : List AV ×' AV.below_1 tail) => ⟨fzL._f (head :: tail) ⟨head_ih, tail_ih⟩, head_ih, tail_ih⟩) [AV.str x.text, AV.sl false (0 : Nat) (1 : Nat) Int intA x.kids, AV.bool x.blank]⟩) x] = AV.pf [AV.sl false (0 : Nat) (4 : Nat) Nd (ndA false) x_2.snd] ∧ ∀ (y : Unit), True → ∃ (y : Unit), True ∧ asc (ltG x_2.snd) x_2.fst = asc (ltG x) (groupsOf x) ∧ True) := by kernel_rfl
theorem iIsOrdered_ok  : Contract G Tryd.prog 15 s_iIsOrdered :=
  vcFun_ok (Γ := Γof [(17, 0, s_iGroupsOf), (33, 34 + 1, s_isSortedF)]) (E := Eof []) (ov := false) (L := fun x => Lof ([])) Tryd.func15 rfl (by decide) (Γof_ok (l := [(17, 0, s_iGroupsOf), (33, 34 + 1, s_isSortedF)]) ⟨iGroupsOf_ok, isSortedF_ok, trivial⟩) fun (x : List Nd) (hx : (okNds x ∧ x.length ≤ 2 ^ 30) ∧ ∀ e ∈ x, e.text.length ≤ 2 ^ 40) => (iIsOrdered_vc  x).mpr (by
  obtain ⟨⟨h1, h2⟩, h3⟩ := hx
  (repeat' first | with_reducible rfl | exact True.intro | refine inR_i64 ?_ ?_ | with_reducible refine And.intro ?_ ?_ | with_reducible refine bcase_dec (fun _ => ?_) (fun _ => ?_) | with_reducible refine bcase_bne (fun _ => ?_) (fun _ => ?_) | with_reducible refine bcase_beq (fun _ => ?_) (fun _ => ?_) | with_reducible refine bcase_not (fun _ => ?_) (fun _ => ?_) | refine bcase_intro (fun _ => ?_) (fun _ => ?_) | refine sl_eq ?_ | refine ex_flip () ?_ ?_ | (apply ex_flip6 <;> try dsimp only) | (apply ex_flip5 <;> try dsimp only) | (apply ex_flip4 <;> try dsimp only) | (apply ex_flip3 <;> try dsimp only) | (apply ex_flip2 <;> try dsimp only) | apply ex_flip | (refine Prod.forall.2 ?_; intro _; try dsimp only) | (intro _; try dsimp only))
  all_goals first
    | rfl
    | exact h1
    | exact h2
    | exact h3
    | exact h3 _ (by assumption)
    | exact h1.1
    | (have hg := @groupsOf_len x; omega)
    | skip)

end Go.My
end
section
/- The laws' helpers over groups and marks; the laws of order and of groups. -/
set_option linter.unusedVariables false
set_option linter.unusedSimpArgs false
namespace Go.My
open Go.Eng Go.Proofs
variable {G : GInv}

theorem ex_gr {p q : Gr → Prop} (a : List Int) (b : Int) (h1 : p ⟨a, b⟩) (h2 : q ⟨a, b⟩) : ∃ x, p x ∧ q x := ⟨_, h1, h2⟩
theorem ex_nd {p q : Nd → Prop} (a : Int) (b : List UInt8) (c : List Int) (d : Bool) (h1 : p ⟨a, b, c, d⟩) (h2 : q ⟨a, b, c, d⟩) : ∃ x, p x ∧ q x := ⟨_, h1, h2⟩
theorem ex_gr2 {p q : Gr → Prop} (a : List Int) (b : Int) (h2 : q ⟨a, b⟩) (h1 : p ⟨a, b⟩) : ∃ x, p x ∧ q x := ⟨_, h1, h2⟩
theorem ex_nd2 {p q : Nd → Prop} (a : Int) (b : List UInt8) (c : List Int) (d : Bool) (h2 : q ⟨a, b, c, d⟩) (h1 : p ⟨a, b, c, d⟩) : ∃ x, p x ∧ q x := ⟨_, h1, h2⟩
def s_eqGr  : Sig := { X := Gr × Gr, args := fun x => [.agg (grA false x.1), .agg (grA false x.2)], pre := fun x => x.1.notes.length < 2 ^ 62 ∧ x.2.notes.length < 2 ^ 62, Y := Unit, post := fun x y => True, res := fun x y => .bool (beqGr x.1 x.2), outs := fun x y => [.top, .top], keep := false }
theorem eqGr_vc (x : Gr × Gr) : vcFun Go.Proofs.Tryd.prog (Γof [(53, 0, s_eqInts)]) (Eof []) false (Lof ([])) Go.Proofs.Tryd.f39.ntmps Go.Proofs.Tryd.f39.results.toList (Go.Proofs.Tryd.f39.body.getD .skip) s_eqGr x = ((∀ (y : Unit), True → True ∧ True ∧ True ∧ True) ∧ ∃ (x_1 : List Int × List Int), (List.length x_1.fst < (9223372036854775808 : Nat) ∧ List.length x_1.snd < (9223372036854775808 : Nat)) ∧ AV.sl false (0 : Nat) (1 : Nat) Int intA x.fst.notes = AV.sl false (0 : Nat) (1 : Nat) Int intA x_1.fst ∧ AV.sl false (0 : Nat) (1 : Nat) Int intA x.snd.notes = AV.sl false (0 : Nat) (1 : Nat) Int intA x_1.snd ∧ ∀ (y : Unit), True → bcase (!x_1.fst == x_1.snd) (∃ (y : Unit), True ∧ false = beqGr x.fst x.snd ∧ True) (bcase (x.fst.member != x.snd.member) (∃ (y : Unit), True ∧ false = beqGr x.fst x.snd ∧ True) (∃ (y : Unit), True ∧ true = beqGr x.fst x.snd ∧ True))) := by kernel_rfl
theorem eqGr_ok  : Contract G Tryd.prog 39 s_eqGr :=
  vcFun_ok (Γ := Γof [(53, 0, s_eqInts)]) (E := Eof []) (ov := false) (L := fun x => Lof ([])) Tryd.func39 rfl (by decide) (Γof_ok (l := [(53, 0, s_eqInts)]) ⟨eqInts_ok, trivial⟩) fun (x : Gr × Gr) (hx : x.1.notes.length < 2 ^ 62 ∧ x.2.notes.length < 2 ^ 62) => (eqGr_vc  x).mpr (by
  obtain ⟨h1, h2⟩ := hx
  (repeat' first | with_reducible rfl | exact True.intro | refine inR_i64 ?_ ?_ | with_reducible refine And.intro ?_ ?_ | with_reducible refine bcase_dec (fun _ => ?_) (fun _ => ?_) | with_reducible refine bcase_bne (fun _ => ?_) (fun _ => ?_) | with_reducible refine bcase_beq (fun _ => ?_) (fun _ => ?_) | with_reducible refine bcase_not (fun _ => ?_) (fun _ => ?_) | refine bcase_intro (fun _ => ?_) (fun _ => ?_) | refine sl_eq ?_ | refine ex_flip () ?_ ?_ | (apply ex_flip6 <;> try dsimp only) | (apply ex_flip5 <;> try dsimp only) | (apply ex_flip4 <;> try dsimp only) | (apply ex_flip3 <;> try dsimp only) | (apply ex_flip2 <;> try dsimp only) | apply ex_flip | (refine Prod.forall.2 ?_; intro _; try dsimp only) | (intro _; try dsimp only)) <;> (try dsimp only at *) <;> (try simp only [i64max, List.length_cons, List.length_nil]) <;> (try omega)
  all_goals simp_all [beqGr]
  all_goals omega)

def lEqGrs (x : List Gr × List Gr) : LS := {
  ι := Int, inv := fun i => 0 ≤ i ∧ i ≤ x.1.length ∧ x.1.take i.toNat = x.2.take i.toNat, regs := fun i => [(0, grs x.1), (1, grs x.2), (5, .int .i64 i)], als := [], meas := fun i => x.1.length - i.toNat }
def s_eqGrs  : Sig := { X := List Gr × List Gr, args := fun x => [grs x.1, grs x.2], pre := fun x => smallGrs x.1 ∧ smallGrs x.2, Y := Unit, post := fun x y => True, res := fun x y => .bool (beqGrs x.1 x.2), outs := fun x y => [.top, .top], keep := false }
theorem eqGrs_vc (x : List Gr × List Gr) : vcFun Go.Proofs.Tryd.prog (Γof [(39, 0, s_eqGr)]) (Eof []) false (Lof ([(4,lEqGrs x)])) Go.Proofs.Tryd.f18.ntmps Go.Proofs.Tryd.f18.results.toList (Go.Proofs.Tryd.f18.body.getD .skip) s_eqGrs x = ((∀ (y : Unit), True → True ∧ True ∧ True ∧ True) ∧ bcase ((↑(List.length x.fst) : Int) != (↑(List.length x.snd) : Int)) (∃ (y : Unit), True ∧ false = beqGrs x.fst x.snd ∧ True) ((∃ (i : Int), ((0 : Int) ≤ i ∧ i ≤ (↑(List.length x.fst) : Int) ∧ List.take (Int.toNat i) x.fst = List.take (Int.toNat i) x.snd) ∧ (AV.sl false (0 : Nat) (2 : Nat) Gr (grA false) x.fst = AV.sl false (0 : Nat) (2 : Nat) Gr (grA false) x.fst ∧ AV.sl false (0 : Nat) (2 : Nat) Gr (grA false) x.snd = AV.sl false (0 : Nat) (2 : Nat) Gr (grA false) x.snd ∧ (0 : Int) = i ∧ True) ∧ True) ∧ ∀ (i : Int), (0 : Int) ≤ i ∧ i ≤ (↑(List.length x.fst) : Int) ∧ List.take (Int.toNat i) x.fst = List.take (Int.toNat i) x.snd → bcase (decide (i < (↑(List.length x.fst) : Int))) (true = true ∧ true = true ∧ ((0 : Int) ≤ i ∧ i < (↑(List.length x.fst) : Int)) ∧ ∀ (e : Gr), x.fst[Int.toNat i]? = some e → ((0 : Int) ≤ i ∧ i < (↑(List.length x.snd) : Int)) ∧ ∀ (e_1 : Gr), x.snd[Int.toNat i]? = some e_1 → ∃ (x_1 : Gr × Gr), (List.length x_1.fst.notes < (4611686018427387904 : Nat) ∧ List.length x_1.snd.notes < (4611686018427387904 : Nat)) ∧ AV.sl false (0 : Nat) (1 : Nat) Int intA e.notes = AV.sl false (0 : Nat) (1 : Nat) Int intA x_1.fst.notes ∧ e.member = x_1.fst.member ∧ AV.sl false (0 : Nat) (1 : Nat) Int intA e_1.notes = AV.sl false (0 : Nat) (1 : Nat) Int intA x_1.snd.notes ∧ e_1.member = x_1.snd.member ∧ ∃ (y0 : Unit), (∀ (y : Unit), True → AV.bool (beqGr x_1.fst x_1.snd) = AV.bool (beqGr x_1.fst x_1.snd)) ∧ true = true ∧ bcase (!beqGr x_1.fst x_1.snd) (∃ (y : Unit), True ∧ false = beqGrs x.fst x.snd ∧ True) (inR IntKind.i64 (i + (1 : Int)) ∧ ∃ (i' : Int), ((0 : Int) ≤ i' ∧ i' ≤ (↑(List.length x.fst) : Int) ∧ List.take (Int.toNat i') x.fst = List.take (Int.toNat i') x.snd) ∧ List.length x.fst - Int.toNat i' < List.length x.fst - Int.toNat i ∧ (AV.sl false (0 : Nat) (2 : Nat) Gr (grA false) x.fst = AV.sl false (0 : Nat) (2 : Nat) Gr (grA false) x.fst ∧ AV.sl false (0 : Nat) (2 : Nat) Gr (grA false) x.snd = AV.sl false (0 : Nat) (2 : Nat) Gr (grA false) x.snd ∧ i + (1 : Int) = i' ∧ True) ∧ True)) (∃ (y : Unit), True ∧ true = beqGrs x.fst x.snd ∧ True))) := by kernel_rfl
theorem eqGrs_ok  : Contract G Tryd.prog 18 s_eqGrs :=
  vcFun_ok (Γ := Γof [(39, 0, s_eqGr)]) (E := Eof []) (ov := false) (L := fun x => Lof ([(4,lEqGrs x)])) Tryd.func18 rfl (by decide) (Γof_ok (l := [(39, 0, s_eqGr)]) ⟨eqGr_ok, trivial⟩) fun (x : List Gr × List Gr) (hx : smallGrs x.1 ∧ smallGrs x.2) => (eqGrs_vc  x).mpr (by
  obtain ⟨h1, h2⟩ := hx; have hl1 := h1.1; have hl2 := h2.1
  (repeat' first | with_reducible rfl | exact True.intro | refine inR_i64 ?_ ?_ | with_reducible refine And.intro ?_ ?_ | with_reducible refine bcase_dec (fun _ => ?_) (fun _ => ?_) | with_reducible refine bcase_bne (fun _ => ?_) (fun _ => ?_) | with_reducible refine bcase_beq (fun _ => ?_) (fun _ => ?_) | with_reducible refine bcase_not (fun _ => ?_) (fun _ => ?_) | refine bcase_intro (fun _ => ?_) (fun _ => ?_) | refine sl_eq ?_ | refine ex_flip () ?_ ?_ | (apply ex_flip6 <;> try dsimp only) | (apply ex_flip5 <;> try dsimp only) | (apply ex_flip4 <;> try dsimp only) | (apply ex_flip3 <;> try dsimp only) | (apply ex_flip2 <;> try dsimp only) | apply ex_flip | (refine Prod.forall.2 ?_; intro _; try dsimp only) | (intro _; try dsimp only)) <;> (try dsimp only at *) <;> (try simp only [i64max, List.length_cons, List.length_nil]) <;> (try omega)
  · rename_i h; exact beqGrs_false (fun e => h (by rw [e]))
  · rfl
  · rename_i h i hi hl e he f hf hn
    exact beqGrs_false (fun e => by rw [e, hf] at he; rw [Option.some.inj he, beqGr_self] at hn; cases hn)
  · rename_i h i hi hl e he f hf hn
    exact takeEq hi.1 hi.2.2 he hf (beqGr_eq.1 hn)
  · rename_i h i hi hl e he f hf
    have := h1.2 _ (memE he); omega
  · rename_i h i hi hl e he f hf
    have := h2.2 _ (memE hf); omega
  · rename_i h i hi hl
    exact beqGrs_true (takeAll (by omega) hi.2.2 (by omega)))

theorem mk_len {k i : Int} {l : List Int} (h : 0 ≤ i ∧ i ≤ l.length) : (mkI k i.toNat ++ l.drop i.toNat).length = l.length := by rw [List.length_append, mkI_len, List.length_drop]; omega
theorem mk_set {k i : Int} {l : List Int} (h : 0 ≤ i ∧ i ≤ l.length) (hl : i < ((mkI k i.toNat ++ l.drop i.toNat).length : Int)) : (mkI k i.toNat ++ l.drop i.toNat).set i.toNat (k + i) = mkI k (i + 1).toNat ++ l.drop (i + 1).toNat := by
  rw [mk_len h] at hl
  have := @mkI_set k l i.toNat (by omega)
  rw [show ((i.toNat : Nat) : Int) = i by omega] at this
  rw [this, toNat1 h.1]
theorem mk_end {k i : Int} {l : List Int} (h : 0 ≤ i ∧ i ≤ l.length) (hl : ¬ i < ((mkI k i.toNat ++ l.drop i.toNat).length : Int)) : mkI k i.toNat ++ l.drop i.toNat = mkI k l.length := by
  rw [mk_len h] at hl
  exact mkI_full (by omega) (by omega)
theorem mk_end2 {k i : Int} {l : List Int} (h : 0 ≤ i ∧ i ≤ l.length) (hl : ¬ i < ((mkI k i.toNat ++ l.drop i.toNat).length : Int)) : k + i = k + l.length := by
  rw [mk_len h] at hl; omega
def s_markInts  : Sig := { X := List Int × Int, args := fun x => [oints x.1, .int .i64 x.2], pre := fun x => x.1.length ≤ 2 ^ 40 ∧ 0 ≤ x.2 ∧ x.2 ≤ 2 ^ 60, Y := Unit, post := fun x y => True, res := fun x y => .int .i64 (x.2 + x.1.length), outs := fun x y => [oints (mkI x.2 x.1.length), .top], keep := false, fixed := [0] }
theorem markInts_vc (x : List Int × Int) : vcFun Go.Proofs.Tryd.prog (Γof []) (Eof []) false (Lof ([(2,{ ι := Int, inv := fun i => 0 ≤ i ∧ i ≤ x.1.length, regs := fun i => [(0, oints (mkI x.2 i.toNat ++ x.1.drop i.toNat)), (1, .int .i64 (x.2 + i)), (5, .int .i64 i)], als := [], meas := fun i => x.1.length - i.toNat })])) Go.Proofs.Tryd.f41.ntmps Go.Proofs.Tryd.f41.results.toList (Go.Proofs.Tryd.f41.body.getD .skip) s_markInts x = ((∀ (y : Unit), True → True ∧ (∀ (x : Int), True ∧ True) ∧ True ∧ True) ∧ (∃ (i : Int), ((0 : Int) ≤ i ∧ i ≤ (↑(List.length x.fst) : Int)) ∧ (AV.sl true (0 : Nat) (1 : Nat) Int intA x.fst = AV.sl true (0 : Nat) (1 : Nat) Int intA (mkI x.snd (Int.toNat i) ++ List.drop (Int.toNat i) x.fst) ∧ x.snd = x.snd + i ∧ (0 : Int) = i ∧ True) ∧ True) ∧ ∀ (i : Int), (0 : Int) ≤ i ∧ i ≤ (↑(List.length x.fst) : Int) → bcase (decide (i < (↑(List.length (mkI x.snd (Int.toNat i) ++ List.drop (Int.toNat i) x.fst)) : Int))) (((0 : Int) ≤ i ∧ i < (↑(List.length (mkI x.snd (Int.toNat i) ++ List.drop (Int.toNat i) x.fst)) : Int)) ∧ Int.toNat i < List.length (mkI x.snd (Int.toNat i) ++ List.drop (Int.toNat i) x.fst) ∧ ∀ (x_1 : Int), (mkI x.snd (Int.toNat i) ++ List.drop (Int.toNat i) x.fst)[Int.toNat i]? = some x_1 → ∃ (x' : Int), ((@List.nil AV) = [] ∧ (@List.nil AV) = []) ∧ x.snd + i = x' ∧ inR IntKind.i64 (x.snd + i + (1 : Int)) ∧ inR IntKind.i64 (i + (1 : Int)) ∧ ∃ (i' : Int), ((0 : Int) ≤ i' ∧ i' ≤ (↑(List.length x.fst) : Int)) ∧ List.length x.fst - Int.toNat i' < List.length x.fst - Int.toNat i ∧ (AV.sl true (0 : Nat) (1 : Nat) Int intA (List.set (mkI x.snd (Int.toNat i) ++ List.drop (Int.toNat i) x.fst) (Int.toNat i) x') = AV.sl true (0 : Nat) (1 : Nat) Int intA (mkI x.snd (Int.toNat i') ++ List.drop (Int.toNat i') x.fst) ∧ x.snd + i + (1 : Int) = x.snd + i' ∧ i + (1 : Int) = i' ∧ True) ∧ True) (∃ (y : Unit), True ∧ x.snd + i = x.snd + (↑(List.length x.fst) : Int) ∧ AV.sl true (0 : Nat) (1 : Nat) Int intA (mkI x.snd (Int.toNat i) ++ List.drop (Int.toNat i) x.fst) = AV.sl true (0 : Nat) (1 : Nat) Int intA (mkI x.snd (List.length x.fst)) ∧ True)) := by kernel_rfl
theorem markInts_ok  : Contract G Tryd.prog 41 s_markInts :=
  vcFun_ok (Γ := Γof []) (E := Eof []) (ov := false) (L := fun x => Lof ([(2,{ ι := Int, inv := fun i => 0 ≤ i ∧ i ≤ x.1.length, regs := fun i => [(0, oints (mkI x.2 i.toNat ++ x.1.drop i.toNat)), (1, .int .i64 (x.2 + i)), (5, .int .i64 i)], als := [], meas := fun i => x.1.length - i.toNat })])) Tryd.func41 rfl (by decide) (Γof_ok (l := []) trivial) fun (x : List Int × Int) (hx : x.1.length ≤ 2 ^ 40 ∧ 0 ≤ x.2 ∧ x.2 ≤ 2 ^ 60) => (markInts_vc  x).mpr (by
  obtain ⟨h1, h2, h3⟩ := hx
  (repeat' first | with_reducible rfl | exact True.intro | refine inR_i64 ?_ ?_ | with_reducible refine And.intro ?_ ?_ | with_reducible refine bcase_dec (fun _ => ?_) (fun _ => ?_) | with_reducible refine bcase_bne (fun _ => ?_) (fun _ => ?_) | with_reducible refine bcase_beq (fun _ => ?_) (fun _ => ?_) | with_reducible refine bcase_not (fun _ => ?_) (fun _ => ?_) | refine bcase_intro (fun _ => ?_) (fun _ => ?_) | refine sl_eq ?_ | refine ex_flip () ?_ ?_ | (apply ex_flip6 <;> try dsimp only) | (apply ex_flip5 <;> try dsimp only) | (apply ex_flip4 <;> try dsimp only) | (apply ex_flip3 <;> try dsimp only) | (apply ex_flip2 <;> try dsimp only) | apply ex_flip | (refine Prod.forall.2 ?_; intro _; try dsimp only) | (intro _; try dsimp only))
  all_goals first
    | rfl
    | (simp [mkI]; done)
    | exact mk_set (by assumption) (by assumption)
    | exact mk_end (by assumption) (by assumption)
    | exact mk_end2 (by assumption) (by assumption)
    | ((try simp only [i64max]); omega)
    | (have hi := (show (0 : Int) ≤ _ ∧ _ ≤ (x.1.length : Int) by assumption); have hl := @mk_len x.2 _ x.1 hi; (try simp only [i64max]); omega)
    | skip)

def s_heldInts  : Sig := { X := List Int × Int, args := fun x => [ints x.1, .int .i64 x.2], pre := fun x => x.1 = mkI x.2 x.1.length ∧ x.1.length ≤ 2 ^ 40 ∧ 0 ≤ x.2 ∧ x.2 ≤ 2 ^ 60, Y := Unit, post := fun x y => True, res := fun x y => .int .i64 (x.2 + x.1.length), outs := fun x y => [.top, .top], keep := false }
theorem heldInts_vc (x : List Int × Int) : vcFun Go.Proofs.Tryd.prog (Γof []) (Eof []) false (Lof ([(2,{ ι := Int, inv := fun i => 0 ≤ i ∧ i ≤ x.1.length, regs := fun i => [(0, ints x.1), (1, .int .i64 (x.2 + i)), (5, .int .i64 i)], als := [], meas := fun i => x.1.length - i.toNat })])) Go.Proofs.Tryd.f42.ntmps Go.Proofs.Tryd.f42.results.toList (Go.Proofs.Tryd.f42.body.getD .skip) s_heldInts x = ((∀ (y : Unit), True → True ∧ True ∧ True ∧ True) ∧ (∃ (i : Int), ((0 : Int) ≤ i ∧ i ≤ (↑(List.length x.fst) : Int)) ∧ (AV.sl false (0 : Nat) (1 : Nat) Int intA x.fst = AV.sl false (0 : Nat) (1 : Nat) Int intA x.fst ∧ x.snd = x.snd + i ∧ (0 : Int) = i ∧ True) ∧ True) ∧ ∀ (i : Int), (0 : Int) ≤ i ∧ i ≤ (↑(List.length x.fst) : Int) → bcase (decide (i < (↑(List.length x.fst) : Int))) (((0 : Int) ≤ i ∧ i < (↑(List.length x.fst) : Int)) ∧ ∀ (e : Int), x.fst[Int.toNat i]? = some e → bcase (e != x.snd + i) (∃ (y : Unit), True ∧ (-1 : Int) = x.snd + (↑(List.length x.fst) : Int) ∧ True) (inR IntKind.i64 (x.snd + i + (1 : Int)) ∧ inR IntKind.i64 (i + (1 : Int)) ∧ ∃ (i' : Int), ((0 : Int) ≤ i' ∧ i' ≤ (↑(List.length x.fst) : Int)) ∧ List.length x.fst - Int.toNat i' < List.length x.fst - Int.toNat i ∧ (AV.sl false (0 : Nat) (1 : Nat) Int intA x.fst = AV.sl false (0 : Nat) (1 : Nat) Int intA x.fst ∧ x.snd + i + (1 : Int) = x.snd + i' ∧ i + (1 : Int) = i' ∧ True) ∧ True)) (∃ (y : Unit), True ∧ x.snd + i = x.snd + (↑(List.length x.fst) : Int) ∧ True)) := by kernel_rfl
theorem heldInts_ok  : Contract G Tryd.prog 42 s_heldInts :=
  vcFun_ok (Γ := Γof []) (E := Eof []) (ov := false) (L := fun x => Lof ([(2,{ ι := Int, inv := fun i => 0 ≤ i ∧ i ≤ x.1.length, regs := fun i => [(0, ints x.1), (1, .int .i64 (x.2 + i)), (5, .int .i64 i)], als := [], meas := fun i => x.1.length - i.toNat })])) Tryd.func42 rfl (by decide) (Γof_ok (l := []) trivial) fun (x : List Int × Int) (hx : x.1 = mkI x.2 x.1.length ∧ x.1.length ≤ 2 ^ 40 ∧ 0 ≤ x.2 ∧ x.2 ≤ 2 ^ 60) => (heldInts_vc  x).mpr (by
  obtain ⟨h0, h1, h2, h3⟩ := hx
  have hat : ∀ {i v : Int}, 0 ≤ i → x.1[i.toNat]? = some v → v = x.2 + i := by
    intro i v hi hv
    have hl := (getE hv).1
    rw [h0, mkI_at hl] at hv
    simp only [Option.some.injEq] at hv; omega
  (repeat' first | with_reducible rfl | exact True.intro | refine inR_i64 ?_ ?_ | with_reducible refine And.intro ?_ ?_ | with_reducible refine bcase_dec (fun _ => ?_) (fun _ => ?_) | with_reducible refine bcase_bne (fun _ => ?_) (fun _ => ?_) | with_reducible refine bcase_beq (fun _ => ?_) (fun _ => ?_) | with_reducible refine bcase_not (fun _ => ?_) (fun _ => ?_) | refine bcase_intro (fun _ => ?_) (fun _ => ?_) | refine sl_eq ?_ | refine ex_flip () ?_ ?_ | (apply ex_flip6 <;> try dsimp only) | (apply ex_flip5 <;> try dsimp only) | (apply ex_flip4 <;> try dsimp only) | (apply ex_flip3 <;> try dsimp only) | (apply ex_flip2 <;> try dsimp only) | apply ex_flip | (refine Prod.forall.2 ?_; intro _; try dsimp only) | (intro _; try dsimp only))
  all_goals try (have hv := hat (show 0 ≤ _ from And.left (by assumption)) (by assumption))
  all_goals first
    | rfl
    | ((try simp only [i64max]); omega)
    | skip)

def mkB (l : List Gr) : Prop := l.length ≤ 12 ∧ ∀ g ∈ l, g.notes.length ≤ 12
theorem mkB_tot {l : List Gr} {i : Nat} (h : mkB l) : 0 ≤ totG (l.take i) ∧ totG (l.take i) ≤ 200 := by
  have := @totG_bd (l.take i) 12 fun g hg => h.2 g (List.mem_of_mem_take hg)
  have h2 : (l.take i).length ≤ 12 := by rw [List.length_take]; have := h.1; omega
  omega
def mgI (l : List Gr) (i : Int) : Prop := mkB l ∧ 0 ≤ i ∧ i ≤ l.length
theorem mgI_len {k i : Int} {l : List Gr} (h : mgI l i) : (mkGs k (l.take i.toNat) ++ l.drop i.toNat).length = l.length := by
  obtain ⟨_, h1, h2⟩ := h
  rw [List.length_append, mkGs_len, List.length_take, List.length_drop]; omega
theorem mgI_at {k i : Int} {l : List Gr} {g : Gr} (h : mgI l i) (hg : (mkGs k (l.take i.toNat) ++ l.drop i.toNat)[i.toNat]? = some g) : l[i.toNat]? = some g := by
  have hlt := (getE hg).1
  rw [mgI_len h] at hlt
  have hl : (mkGs k (l.take i.toNat)).length = i.toNat := by rw [mkGs_len, List.length_take]; omega
  rw [List.getElem?_append_right (by omega), hl, Nat.sub_self] at hg
  simpa using hg
theorem mgI_g {k i : Int} {l : List Gr} {g : Gr} (h : mgI l i) (hg : (mkGs k (l.take i.toNat) ++ l.drop i.toNat)[i.toNat]? = some g) : g.notes.length ≤ 12 := h.1.2 g (memE (mgI_at h hg))
theorem mg_set1 {l : List Gr} {i : Nat} {a b : Gr} (h : i < l.length) : (l.set i a)[i]? = some b ↔ a = b := by
  rw [List.getElem?_set_self h]; simp
theorem mg_set2 {l : List Gr} {i : Nat} {a b : Gr} : (l.set i a).set i b = l.set i b := List.set_set ..
theorem mg_step {k i : Int} {l : List Gr} {g b : Gr} (h : mgI l i) (hg : (mkGs k (l.take i.toNat) ++ l.drop i.toNat)[i.toNat]? = some g) (hb : b = mkG (k + totG (l.take i.toNat)) g) :
    (mkGs k (l.take i.toNat) ++ l.drop i.toNat).set i.toNat b = mkGs k (l.take (i + 1).toNat) ++ l.drop (i + 1).toNat := by
  rw [hb, mkGs_set (mgI_at h hg), toNat1 h.2.1]
theorem mg_tot {k i : Int} {l : List Gr} {g : Gr} (h : mgI l i) (hg : (mkGs k (l.take i.toNat) ++ l.drop i.toNat)[i.toNat]? = some g) : k + totG (l.take i.toNat) + g.notes.length + 1 = k + totG (l.take (i + 1).toNat) := by
  rw [toNat1 h.2.1, takeE (mgI_at h hg), totG_snoc]; omega
theorem mg_end {k i : Int} {l : List Gr} (h : mgI l i) (hl : ¬ i < ((mkGs k (l.take i.toNat) ++ l.drop i.toNat).length : Int)) : mkGs k (l.take i.toNat) ++ l.drop i.toNat = mkGs k l ∧ k + totG (l.take i.toNat) = k + totG l := by
  rw [mgI_len h] at hl
  rw [List.take_of_length_le (by omega), List.drop_eq_nil_of_le (by omega)]; simp
theorem mg_set2' {k i : Int} {l : List Gr} {g b c : Gr} (h : mgI l i) (hg : (mkGs k (l.take i.toNat) ++ l.drop i.toNat)[i.toNat]? = some g) (hb : b = mkG (k + totG (l.take i.toNat)) g) :
    ((mkGs k (l.take i.toNat) ++ l.drop i.toNat).set i.toNat c).set i.toNat b = mkGs k (l.take (i + 1).toNat) ++ l.drop (i + 1).toNat := by
  rw [mg_set2]; exact mg_step h hg hb
theorem mg_set3 {k i : Int} {l : List Gr} {g c b : Gr} (h : mgI l i) (hg : (mkGs k (l.take i.toNat) ++ l.drop i.toNat)[i.toNat]? = some g) (hb : ((mkGs k (l.take i.toNat) ++ l.drop i.toNat).set i.toNat c)[i.toNat]? = some b) : c = b :=
  (mg_set1 (getE hg).1).1 hb
theorem mgI_tot {i : Int} {l : List Gr} (h : mgI l i) : 0 ≤ totG (l.take i.toNat) ∧ totG (l.take i.toNat) ≤ 200 := mkB_tot h.1
def lMkGrs (x : List Gr × Int) : LS := {
  ι := Int, inv := mgI x.1, regs := fun i => [(0, ogrs (mkGs x.2 (x.1.take i.toNat) ++ x.1.drop i.toNat)), (1, .int .i64 (x.2 + totG (x.1.take i.toNat))), (5, .int .i64 i)], als := [], meas := fun i => x.1.length - i.toNat }
def s_markGrs  : Sig := { X := List Gr × Int, args := fun x => [ogrs x.1, .int .i64 x.2], pre := fun x => mkB x.1 ∧ 0 ≤ x.2 ∧ x.2 ≤ 2 ^ 50, Y := Unit, post := fun x y => True, res := fun x y => .int .i64 (x.2 + totG x.1), outs := fun x y => [ogrs (mkGs x.2 x.1), .top], keep := false, fixed := [0] }
theorem markGrs_vc (x : List Gr × Int) : vcFun Go.Proofs.Tryd.prog (Γof [(41, 0, s_markInts)]) (Eof []) false (Lof ([(2,lMkGrs x)])) Go.Proofs.Tryd.f20.ntmps Go.Proofs.Tryd.f20.results.toList (Go.Proofs.Tryd.f20.body.getD .skip) s_markGrs x = ((∀ (y : Unit), True → True ∧ (∀ (x : Gr), (∀ (x : Int), True ∧ True) ∧ True ∧ True) ∧ True ∧ True) ∧ (∃ (i : Int), mgI x.fst i ∧ (AV.sl true (0 : Nat) (2 : Nat) Gr (grA true) x.fst = AV.sl true (0 : Nat) (2 : Nat) Gr (grA true) (mkGs x.snd (List.take (Int.toNat i) x.fst) ++ List.drop (Int.toNat i) x.fst) ∧ x.snd = x.snd + totG (List.take (Int.toNat i) x.fst) ∧ (0 : Int) = i ∧ True) ∧ True) ∧ ∀ (i : Int), mgI x.fst i → bcase (decide (i < (↑(List.length (mkGs x.snd (List.take (Int.toNat i) x.fst) ++ List.drop (Int.toNat i) x.fst)) : Int))) (((0 : Int) ≤ i ∧ i < (↑(List.length (mkGs x.snd (List.take (Int.toNat i) x.fst) ++ List.drop (Int.toNat i) x.fst)) : Int)) ∧ Int.toNat i < List.length (mkGs x.snd (List.take (Int.toNat i) x.fst) ++ List.drop (Int.toNat i) x.fst) ∧ ∀ (z : Gr), (mkGs x.snd (List.take (Int.toNat i) x.fst) ++ List.drop (Int.toNat i) x.fst)[Int.toNat i]? = some z → ∃ (x_1 : List Int × Int), (List.length x_1.fst ≤ (1099511627776 : Nat) ∧ (0 : Int) ≤ x_1.snd ∧ x_1.snd ≤ (2 : Int) ^ (60 : Nat)) ∧ AV.sl true (0 : Nat) (1 : Nat) Int intA z.notes = AV.sl true (0 : Nat) (1 : Nat) Int intA x_1.fst ∧ x.snd + totG (List.take (Int.toNat i) x.fst) = x_1.snd ∧ ∀ (y : Unit), True → ∃ (z' : Gr), [AV.sl true (0 : Nat) (1 : Nat) Int intA z'.notes, AV.int IntKind.i64 z'.member] = [AV.sl true (0 : Nat) (1 : Nat) Int intA (mkI x_1.snd (List.length x_1.fst)), AV.int IntKind.i64 z.member] ∧ ((0 : Int) ≤ i ∧ i < (↑(List.length (List.set (mkGs x.snd (List.take (Int.toNat i) x.fst) ++ List.drop (Int.toNat i) x.fst) (Int.toNat i) z')) : Int)) ∧ Int.toNat i < List.length (List.set (mkGs x.snd (List.take (Int.toNat i) x.fst) ++ List.drop (Int.toNat i) x.fst) (Int.toNat i) z') ∧ ∀ (x_2 : Gr), (List.set (mkGs x.snd (List.take (Int.toNat i) x.fst) ++ List.drop (Int.toNat i) x.fst) (Int.toNat i) z')[Int.toNat i]? = some x_2 → ∃ (x' : Gr), ([AV.sl true (0 : Nat) (1 : Nat) Int intA x'.notes] = [AV.sl true (0 : Nat) (1 : Nat) Int intA x_2.notes] ∧ (@List.nil AV) = []) ∧ x_1.snd + (↑(List.length x_1.fst) : Int) = x'.member ∧ inR IntKind.i64 (x_1.snd + (↑(List.length x_1.fst) : Int) + (1 : Int)) ∧ inR IntKind.i64 (i + (1 : Int)) ∧ ∃ (i' : Int), mgI x.fst i' ∧ List.length x.fst - Int.toNat i' < List.length x.fst - Int.toNat i ∧ (AV.sl true (0 : Nat) (2 : Nat) Gr (grA true) (List.set (List.set (mkGs x.snd (List.take (Int.toNat i) x.fst) ++ List.drop (Int.toNat i) x.fst) (Int.toNat i) z') (Int.toNat i) x') = AV.sl true (0 : Nat) (2 : Nat) Gr (grA true) (mkGs x.snd (List.take (Int.toNat i') x.fst) ++ List.drop (Int.toNat i') x.fst) ∧ x_1.snd + (↑(List.length x_1.fst) : Int) + (1 : Int) = x.snd + totG (List.take (Int.toNat i') x.fst) ∧ i + (1 : Int) = i' ∧ True) ∧ True) (∃ (y : Unit), True ∧ x.snd + totG (List.take (Int.toNat i) x.fst) = x.snd + totG x.fst ∧ AV.sl true (0 : Nat) (2 : Nat) Gr (grA true) (mkGs x.snd (List.take (Int.toNat i) x.fst) ++ List.drop (Int.toNat i) x.fst) = AV.sl true (0 : Nat) (2 : Nat) Gr (grA true) (mkGs x.snd x.fst) ∧ True)) := by kernel_rfl
theorem markGrs_ok  : Contract G Tryd.prog 20 s_markGrs :=
  vcFun_ok (Γ := Γof [(41, 0, s_markInts)]) (E := Eof []) (ov := false) (L := fun x => Lof ([(2,lMkGrs x)])) Tryd.func20 rfl (by decide) (Γof_ok (l := [(41, 0, s_markInts)]) ⟨markInts_ok, trivial⟩) fun (x : List Gr × Int) (hx : mkB x.1 ∧ 0 ≤ x.2 ∧ x.2 ≤ 2 ^ 50) => (markGrs_vc  x).mpr (by
  obtain ⟨h1, h2, h3⟩ := hx
  (repeat' first | refine ex_gr (mkI _ _) _ rfl ?_ | refine ex_gr2 _ _ ⟨rfl, ?_⟩ ⟨rfl, rfl⟩ | with_reducible rfl | exact True.intro | refine inR_i64 ?_ ?_ | with_reducible refine And.intro ?_ ?_ | with_reducible refine bcase_dec (fun _ => ?_) (fun _ => ?_) | with_reducible refine bcase_bne (fun _ => ?_) (fun _ => ?_) | with_reducible refine bcase_beq (fun _ => ?_) (fun _ => ?_) | with_reducible refine bcase_not (fun _ => ?_) (fun _ => ?_) | refine bcase_intro (fun _ => ?_) (fun _ => ?_) | refine sl_eq ?_ | refine ex_flip () ?_ ?_ | (apply ex_flip6 <;> try dsimp only) | (apply ex_flip5 <;> try dsimp only) | (apply ex_flip4 <;> try dsimp only) | (apply ex_flip3 <;> try dsimp only) | (apply ex_flip2 <;> try dsimp only) | apply ex_flip | (refine Prod.forall.2 ?_; intro _; try dsimp only) | (intro _; try dsimp only))
  all_goals try (have e := mg_set3 (show mgI _ _ by assumption) (show (mkGs _ _ ++ _)[Int.toNat _]? = some _ by assumption) (show (List.set _ _ _)[_]? = some _ by assumption); subst e)
  all_goals first
    | rfl
    | exact ⟨h1, by omega, by omega⟩
    | (simp [totG, mkGs]; done)
    | exact (show mgI _ _ by assumption).2.1
    | exact mg_tot (by assumption) (by assumption)
    | exact (mg_end (by assumption) (by assumption)).1
    | exact (mg_end (by assumption) (by assumption)).2
    | exact mg_set2' (by assumption) (by assumption) rfl
    | (have hi := (show mgI _ _ by assumption); have hl := @mgI_len x.2 _ x.1 hi; exact ⟨h1, by have := hi.2.1; omega, by have := hi.2.2; omega⟩)
    | (have hi := (show mgI _ _ by assumption); have hl := @mgI_len x.2 _ x.1 hi; have hg := mgI_g hi (show (mkGs _ _ ++ _)[Int.toNat _]? = some _ by assumption); (try dsimp only); omega)
    | (have hi := (show mgI _ _ by assumption); have hl := @mgI_len x.2 _ x.1 hi; have ht := mgI_tot hi; have := hi.2.1; have := hi.2.2; have hg := mgI_g hi (show (mkGs _ _ ++ _)[Int.toNat _]? = some _ by assumption); (try rw [List.length_set]); (try simp only [i64max]); omega)
    | (have hi := (show mgI _ _ by assumption); have hl := @mgI_len x.2 _ x.1 hi; have := hi.2.1; have := hi.2.2; have := h1.1; (try rw [List.length_set]); (try simp only [i64max]); omega)
    | skip)

def hgI (k : Int) (l : List Gr) (i : Int) : Prop := (mkB l ∧ l = mkGs k l) ∧ 0 ≤ i ∧ i ≤ l.length
theorem hgI_at {k i : Int} {l : List Gr} {g : Gr} (h : hgI k l i) (hg : l[i.toNat]? = some g) : g = mkG (k + totG (l.take i.toNat)) g := by
  have h1 : (mkGs k l)[i.toNat]? = some g := by rw [← h.1.2]; exact hg
  have h2 := mkGs_at (k := k) hg
  rw [h1] at h2; exact Option.some.inj h2
theorem hgI_1 {k i : Int} {l : List Gr} {g : Gr} (h : hgI k l i) (hg : l[i.toNat]? = some g) : g.notes = mkI (k + totG (l.take i.toNat)) g.notes.length ∧ g.member = k + totG (l.take i.toNat) + g.notes.length := by
  have h2 := hgI_at h hg
  have h3 := congrArg Gr.notes h2; have h4 := congrArg Gr.member h2
  exact ⟨h3, h4⟩
theorem hgI_tot {k i : Int} {l : List Gr} {g : Gr} (h : hgI k l i) (hg : l[i.toNat]? = some g) : k + totG (l.take i.toNat) + g.notes.length + 1 = k + totG (l.take (i + 1).toNat) := by
  rw [toNat1 h.2.1, takeE hg, totG_snoc]; omega
theorem hgI_bd {k i : Int} {l : List Gr} (h : hgI k l i) : (0 ≤ totG (l.take i.toNat) ∧ totG (l.take i.toNat) ≤ 200) ∧ l.length ≤ 12 := ⟨mkB_tot h.1.1, h.1.1.1⟩
theorem hgI_nt {k i : Int} {l : List Gr} {g : Gr} (h : hgI k l i) (hg : l[i.toNat]? = some g) : g.notes.length ≤ 12 := h.1.1.2 g (memE hg)
theorem hgI_end {k i : Int} {l : List Gr} (h : hgI k l i) (hl : ¬ i < l.length) : k + totG (l.take i.toNat) = k + totG l := by
  rw [List.take_of_length_le (by have := h.2.2; omega)]
def lHdGrs (x : List Gr × Int) : LS := {
  ι := Int, inv := hgI x.2 x.1, regs := fun i => [(0, grs x.1), (1, .int .i64 (x.2 + totG (x.1.take i.toNat))), (5, .int .i64 i)], als := [], meas := fun i => x.1.length - i.toNat }
def s_heldGrs  : Sig := { X := List Gr × Int, args := fun x => [grs x.1, .int .i64 x.2], pre := fun x => (mkB x.1 ∧ x.1 = mkGs x.2 x.1) ∧ 0 ≤ x.2 ∧ x.2 ≤ 2 ^ 50, Y := Unit, post := fun x y => True, res := fun x y => .int .i64 (x.2 + totG x.1), outs := fun x y => [.top, .top], keep := false }
theorem heldGrs_vc (x : List Gr × Int) : vcFun Go.Proofs.Tryd.prog (Γof [(42, 0, s_heldInts)]) (Eof []) false (Lof ([(2,lHdGrs x)])) Go.Proofs.Tryd.f21.ntmps Go.Proofs.Tryd.f21.results.toList (Go.Proofs.Tryd.f21.body.getD .skip) s_heldGrs x = ((∀ (y : Unit), True → True ∧ True ∧ True ∧ True) ∧ (∃ (i : Int), hgI x.snd x.fst i ∧ (AV.sl false (0 : Nat) (2 : Nat) Gr (grA false) x.fst = AV.sl false (0 : Nat) (2 : Nat) Gr (grA false) x.fst ∧ x.snd = x.snd + totG (List.take (Int.toNat i) x.fst) ∧ (0 : Int) = i ∧ True) ∧ True) ∧ ∀ (i : Int), hgI x.snd x.fst i → bcase (decide (i < (↑(List.length x.fst) : Int))) (((0 : Int) ≤ i ∧ i < (↑(List.length x.fst) : Int)) ∧ ∀ (e : Gr), x.fst[Int.toNat i]? = some e → ∃ (x_1 : List Int × Int), (x_1.fst = mkI x_1.snd (List.length x_1.fst) ∧ List.length x_1.fst ≤ (1099511627776 : Nat) ∧ (0 : Int) ≤ x_1.snd ∧ x_1.snd ≤ (2 : Int) ^ (60 : Nat)) ∧ AV.sl false (0 : Nat) (1 : Nat) Int intA e.notes = AV.sl false (0 : Nat) (1 : Nat) Int intA x_1.fst ∧ x.snd + totG (List.take (Int.toNat i) x.fst) = x_1.snd ∧ ∀ (y : Unit), True → bcase (decide (x_1.snd + (↑(List.length x_1.fst) : Int) < (0 : Int))) (∃ (y : Unit), True ∧ (-1 : Int) = x.snd + totG x.fst ∧ True) (((0 : Int) ≤ i ∧ i < (↑(List.length x.fst) : Int)) ∧ ∀ (e : Gr), x.fst[Int.toNat i]? = some e → bcase (e.member != x_1.snd + (↑(List.length x_1.fst) : Int)) (∃ (y : Unit), True ∧ (-1 : Int) = x.snd + totG x.fst ∧ True) (inR IntKind.i64 (x_1.snd + (↑(List.length x_1.fst) : Int) + (1 : Int)) ∧ inR IntKind.i64 (i + (1 : Int)) ∧ ∃ (i' : Int), hgI x.snd x.fst i' ∧ List.length x.fst - Int.toNat i' < List.length x.fst - Int.toNat i ∧ (AV.sl false (0 : Nat) (2 : Nat) Gr (grA false) x.fst = AV.sl false (0 : Nat) (2 : Nat) Gr (grA false) x.fst ∧ x_1.snd + (↑(List.length x_1.fst) : Int) + (1 : Int) = x.snd + totG (List.take (Int.toNat i') x.fst) ∧ i + (1 : Int) = i' ∧ True) ∧ True))) (∃ (y : Unit), True ∧ x.snd + totG (List.take (Int.toNat i) x.fst) = x.snd + totG x.fst ∧ True)) := by kernel_rfl
theorem heldGrs_ok  : Contract G Tryd.prog 21 s_heldGrs :=
  vcFun_ok (Γ := Γof [(42, 0, s_heldInts)]) (E := Eof []) (ov := false) (L := fun x => Lof ([(2,lHdGrs x)])) Tryd.func21 rfl (by decide) (Γof_ok (l := [(42, 0, s_heldInts)]) ⟨heldInts_ok, trivial⟩) fun (x : List Gr × Int) (hx : (mkB x.1 ∧ x.1 = mkGs x.2 x.1) ∧ 0 ≤ x.2 ∧ x.2 ≤ 2 ^ 50) => (heldGrs_vc  x).mpr (by
  obtain ⟨h1, h2, h3⟩ := hx
  (repeat' first | with_reducible rfl | exact True.intro | refine inR_i64 ?_ ?_ | with_reducible refine And.intro ?_ ?_ | with_reducible refine bcase_dec (fun _ => ?_) (fun _ => ?_) | with_reducible refine bcase_bne (fun _ => ?_) (fun _ => ?_) | with_reducible refine bcase_beq (fun _ => ?_) (fun _ => ?_) | with_reducible refine bcase_not (fun _ => ?_) (fun _ => ?_) | refine bcase_intro (fun _ => ?_) (fun _ => ?_) | refine sl_eq ?_ | refine ex_flip () ?_ ?_ | (apply ex_flip6 <;> try dsimp only) | (apply ex_flip5 <;> try dsimp only) | (apply ex_flip4 <;> try dsimp only) | (apply ex_flip3 <;> try dsimp only) | (apply ex_flip2 <;> try dsimp only) | apply ex_flip | (refine Prod.forall.2 ?_; intro _; try dsimp only) | (intro _; try dsimp only))
  all_goals (repeat (rename x.1[Int.toNat _]? = some _ => hq; revert hq; rename x.1[Int.toNat _]? = some _ => hr; intro hq; rw [hr] at hq; cases hq))
  all_goals first
    | rfl
    | exact ⟨h1, by omega, by omega⟩
    | (simp [totG]; done)
    | exact (show hgI _ _ _ by assumption).2.1
    | exact hgI_tot (by assumption) (by assumption)
    | exact hgI_end (by assumption) (by assumption)
    | exact (hgI_1 (by assumption) (by assumption)).1
    | (have hi := (show hgI _ _ _ by assumption); exact ⟨h1, by have := hi.2.1; omega, by have := hi.2.2; omega⟩)
    | (have hi := (show hgI _ _ _ by assumption); have hb := hgI_bd hi; have := hi.2.1; have := hi.2.2; (try simp only [i64max]); omega)
    | (have hi := (show hgI _ _ _ by assumption); have hb := hgI_bd hi; have hn := hgI_nt hi (by assumption); have hm := (hgI_1 hi (by assumption)).2; have := hi.2.1; have := hi.2.2; (try simp only [i64max]); omega)
    | skip)

/- the reference's order, and the laws -/
def siI (ns : List Nd) (l : List Gr) (i : Int) : Prop := 1 ≤ i ∧ l.length ≤ 12 ∧ ∀ (j : Nat) (a b : Gr), (j : Int) + 1 < i → l[j + 1]? = some b → l[j]? = some a → ltG ns b a = false
theorem siI_init {ns : List Nd} : siI ns (groupsOf ns) 1 := ⟨by omega, groupsOf_len.1, fun j a b h => by omega⟩
theorem siI_next {ns : List Nd} {l : List Gr} {i : Int} {a b : Gr} (h : siI ns l i) (hb : l[i.toNat]? = some b) (ha : l[(i - 1).toNat]? = some a) (hc : bLt (gkey ns b.member) (gkey ns a.member) = false) : siI ns l (i + 1) := by
  obtain ⟨h1, h2, h3⟩ := h
  refine ⟨by omega, h2, fun j c d hj hd hc' => ?_⟩
  by_cases e : (j : Int) + 1 < i
  · exact h3 j c d e hd hc'
  · have e1 : j + 1 = i.toNat := by omega
    have e2 : j = (i - 1).toNat := by omega
    rw [e1, hb] at hd; rw [e2, ha] at hc'
    cases hd; cases hc'; exact hc
theorem siI_done {ns : List Nd} {l : List Gr} {i : Int} (h : siI ns l i) (hi : ¬ i < l.length) : true = asc (ltG ns) l := by
  symm; rw [asc_iff]; intro j a b hb ha
  exact h.2.2 j a b (by have := (getE hb).1; omega) hb ha
theorem si_not {ns : List Nd} {l : List Gr} {i : Int} {a b : Gr} (h : siI ns l i) (hb : l[i.toNat]? = some b) (ha : l[(i - 1).toNat]? = some a) (hc : bLt (gkey ns b.member) (gkey ns a.member) = true) : false = asc (ltG ns) l := by
  symm
  have e : i.toNat = (i - 1).toNat + 1 := by have := h.1; omega
  rw [e] at hb
  exact asc_not hb ha hc
def s_sIsOrdered  : Sig := { X := List Nd, args := fun x => [nds x], pre := fun x => (okNds x ∧ x.length ≤ 2 ^ 30) ∧ ∀ e ∈ x, e.text.length ≤ 2 ^ 40, Y := Unit, post := fun x y => True, res := fun x y => .bool (asc (ltG x) (groupsOf x)), outs := fun x y => [.top], keep := false }
theorem sIsOrdered_vc (x : List Nd) : vcFun Go.Proofs.Tryd.prog (Γof [(16, 0, s_sGroupsOf), (32, 0, s_sGroupKey)]) (Eof []) false (Lof ([(3,{ ι := Int, inv := siI x (groupsOf x), regs := fun i => [(0, nds x), (3, ogrs (groupsOf x)), (4, .int .i64 i)], als := [], meas := fun i => (groupsOf x).length - i.toNat })])) Go.Proofs.Tryd.f14.ntmps Go.Proofs.Tryd.f14.results.toList (Go.Proofs.Tryd.f14.body.getD .skip) s_sIsOrdered x = ((∀ (y : Unit), True → True ∧ True ∧ True) ∧ ∃ (x_1 : List Nd), (okNds x_1 ∧ List.length x_1 ≤ (1073741824 : Nat)) ∧ AV.sl false (0 : Nat) (4 : Nat) Nd (ndA false) x = AV.sl false (0 : Nat) (4 : Nat) Nd (ndA false) x_1 ∧ ∀ (y : Unit), True → (∃ (i : Int), siI x (groupsOf x) i ∧ (AV.sl false (0 : Nat) (4 : Nat) Nd (ndA false) x = AV.sl false (0 : Nat) (4 : Nat) Nd (ndA false) x ∧ AV.sl true (0 : Nat) (2 : Nat) Gr (grA true) (groupsOf x_1) = AV.sl true (0 : Nat) (2 : Nat) Gr (grA true) (groupsOf x) ∧ (1 : Int) = i ∧ True) ∧ True) ∧ ∀ (i : Int), siI x (groupsOf x) i → bcase (decide (i < (↑(List.length (groupsOf x)) : Int))) (true = true ∧ true = true ∧ ((0 : Int) ≤ i ∧ i < (↑(List.length (groupsOf x)) : Int)) ∧ Int.toNat i < List.length (groupsOf x) ∧ ∀ (x_2 : Gr), (groupsOf x)[Int.toNat i]? = some x_2 → ∃ (x_3 : List Nd × Int), (List.length x_3.fst < (4611686018427387904 : Nat) ∧ ∀ (e : Nd), e ∈ x_3.fst → List.length e.text ≤ (1099511627776 : Nat)) ∧ AV.sl false (0 : Nat) (4 : Nat) Nd (ndA false) x = AV.sl false (0 : Nat) (4 : Nat) Nd (ndA false) x_3.fst ∧ x_2.member = x_3.snd ∧ ∃ (y0 : Unit), (∀ (y : Unit), True → AV.str (gkey x_3.fst x_3.snd) = AV.str (gkey x_3.fst x_3.snd)) ∧ true = true ∧ inR IntKind.i64 (i - (1 : Int)) ∧ ((0 : Int) ≤ i - (1 : Int) ∧ i - (1 : Int) < (↑(List.length (groupsOf x)) : Int)) ∧ Int.toNat (i - (1 : Int)) < List.length (groupsOf x) ∧ ∀ (x_4 : Gr), (groupsOf x)[Int.toNat (i - (1 : Int))]? = some x_4 → ∃ (x_5 : List Nd × Int), (List.length x_5.fst < (4611686018427387904 : Nat) ∧ ∀ (e : Nd), e ∈ x_5.fst → List.length e.text ≤ (1099511627776 : Nat)) ∧ AV.sl false (0 : Nat) (4 : Nat) Nd (ndA false) x = AV.sl false (0 : Nat) (4 : Nat) Nd (ndA false) x_5.fst ∧ x_4.member = x_5.snd ∧ ∃ (y0 : Unit), (∀ (y : Unit), True → AV.str (gkey x_5.fst x_5.snd) = AV.str (gkey x_5.fst x_5.snd)) ∧ true = true ∧ bcase (Op.bytesLess (gkey x_3.fst x_3.snd) (gkey x_5.fst x_5.snd)) (∃ (y : Unit), True ∧ false = asc (ltG x) (groupsOf x) ∧ True) (inR IntKind.i64 (i + (1 : Int)) ∧ ∃ (i' : Int), siI x (groupsOf x) i' ∧ List.length (groupsOf x) - Int.toNat i' < List.length (groupsOf x) - Int.toNat i ∧ (AV.sl false (0 : Nat) (4 : Nat) Nd (ndA false) x = AV.sl false (0 : Nat) (4 : Nat) Nd (ndA false) x ∧ AV.sl true (0 : Nat) (2 : Nat) Gr (grA true) (groupsOf x) = AV.sl true (0 : Nat) (2 : Nat) Gr (grA true) (groupsOf x) ∧ i + (1 : Int) = i' ∧ True) ∧ True)) (∃ (y : Unit), True ∧ true = asc (ltG x) (groupsOf x) ∧ True)) := by kernel_rfl
theorem sIsOrdered_ok  : Contract G Tryd.prog 14 s_sIsOrdered :=
  vcFun_ok (Γ := Γof [(16, 0, s_sGroupsOf), (32, 0, s_sGroupKey)]) (E := Eof []) (ov := false) (L := fun x => Lof ([(3,{ ι := Int, inv := siI x (groupsOf x), regs := fun i => [(0, nds x), (3, ogrs (groupsOf x)), (4, .int .i64 i)], als := [], meas := fun i => (groupsOf x).length - i.toNat })])) Tryd.func14 rfl (by decide) (Γof_ok (l := [(16, 0, s_sGroupsOf), (32, 0, s_sGroupKey)]) ⟨sGroupsOf_ok, sGroupKey_ok, trivial⟩) fun (x : List Nd) (hx : (okNds x ∧ x.length ≤ 2 ^ 30) ∧ ∀ e ∈ x, e.text.length ≤ 2 ^ 40) => (sIsOrdered_vc  x).mpr (by
  obtain ⟨⟨h1, h2⟩, h3⟩ := hx; have hl := h1.1
  (repeat' first | with_reducible rfl | exact True.intro | refine inR_i64 ?_ ?_ | with_reducible refine And.intro ?_ ?_ | with_reducible refine bcase_dec (fun _ => ?_) (fun _ => ?_) | with_reducible refine bcase_bne (fun _ => ?_) (fun _ => ?_) | with_reducible refine bcase_beq (fun _ => ?_) (fun _ => ?_) | with_reducible refine bcase_not (fun _ => ?_) (fun _ => ?_) | refine bcase_intro (fun _ => ?_) (fun _ => ?_) | refine sl_eq ?_ | refine ex_flip () ?_ ?_ | (apply ex_flip6 <;> try dsimp only) | (apply ex_flip5 <;> try dsimp only) | (apply ex_flip4 <;> try dsimp only) | (apply ex_flip3 <;> try dsimp only) | (apply ex_flip2 <;> try dsimp only) | apply ex_flip | (refine Prod.forall.2 ?_; intro _; try dsimp only) | (intro _; try dsimp only))
  all_goals first
    | rfl
    | exact h1
    | exact h2
    | exact h3 _ (by assumption)
    | exact hl
    | exact siI_init
    | exact siI_next (by assumption) (by assumption) (by assumption) (by assumption)
    | exact siI_done (by assumption) (by assumption)
    | exact si_not (by assumption) (by assumption) (by assumption) (by assumption)
    | (have hs := (show siI _ _ _ by assumption); have := hs.1; have := hs.2.1; (try simp only [i64max]); omega)
    | skip)

theorem gText {l : List Nd} (h : ¬ szNds l 1048576 < 0) {e : Nd} (he : e ∈ l) : e.text.length ≤ 1099511627776 := by have := gB2 h he; omega
def s_lawIsOrdered  : Sig := { X := List Nd, args := fun x => [nds x], pre := fun x => smallNds x, Y := Unit, post := fun x y => True, res := fun x y => .bool true, outs := fun x y => [.top], keep := false }
theorem lawIsOrdered_vc (x : List Nd) : vcFun Go.Proofs.Tryd.prog (Γof [(7, 0, s_szNds), (9, 0, s_toNds), (14, 0, s_sIsOrdered), (15, 0, s_iIsOrdered), (11, 0, s_eqNds)]) (Eof []) false (Lof ([])) Go.Proofs.Tryd.f5.ntmps Go.Proofs.Tryd.f5.results.toList (Go.Proofs.Tryd.f5.body.getD .skip) s_lawIsOrdered x = ((∀ (y : Unit), True → True ∧ True ∧ True) ∧ ∃ (x_1 : List Nd × Int), ((-1 : Int) ≤ x_1.snd ∧ x_1.snd ≤ (2 : Int) ^ (50 : Nat) ∧ smallNds x_1.fst) ∧ AV.sl false (0 : Nat) (4 : Nat) Nd (ndA false) x = AV.sl false (0 : Nat) (4 : Nat) Nd (ndA false) x_1.fst ∧ (1048576 : Int) = x_1.snd ∧ ∀ (y : Unit), True → bcase (decide (szNds x_1.fst x_1.snd < (0 : Int))) (∃ (y : Unit), True ∧ true = true ∧ True) (∃ (x_2 : List Nd), (List.length x_2 ≤ (1073741824 : Nat) ∧ ∀ (e : Nd), e ∈ x_2 → List.length e.kids ≤ (1073741824 : Nat)) ∧ AV.sl false (0 : Nat) (4 : Nat) Nd (ndA false) x = AV.sl false (0 : Nat) (4 : Nat) Nd (ndA false) x_2 ∧ ∀ (y : Unit), True → ∃ (x_3 : List Nd), ((okNds x_3 ∧ List.length x_3 ≤ (1073741824 : Nat)) ∧ ∀ (e : Nd), e ∈ x_3 → List.length e.text ≤ (1099511627776 : Nat)) ∧ AV.sl false (0 : Nat) (4 : Nat) Nd (fun (x : Nd) => fzL (ndA true x)) x_2 = AV.sl false (0 : Nat) (4 : Nat) Nd (ndA false) x_3 ∧ ∀ (y : Unit), True → ∃ (x_4 : List Nd), (List.length x_4 ≤ (1073741824 : Nat) ∧ ∀ (e : Nd), e ∈ x_4 → List.length e.kids ≤ (1073741824 : Nat)) ∧ AV.sl false (0 : Nat) (4 : Nat) Nd (ndA false) x = AV.sl false (0 : Nat) (4 : Nat) Nd (ndA false) x_4 ∧ ∀ (y : Unit), True → ∃ (x_5 : List Nd), ((okNds x_5 ∧ List.length x_5 ≤ (1073741824 : Nat)) ∧ ∀ (e : Nd), e ∈ x_5 → List.length e.text ≤ (1099511627776 : Nat)) ∧ AV.sl false (0 : Nat) (4 : Nat) Nd (fun (x : Nd) => fzL (ndA true x)) x_4 = AV.sl false (0 : Nat) (4 : Nat) Nd (ndA false) x_5 ∧ ∀ (y : Unit), True → bcase (!asc (ltG x_5) (groupsOf x_5) == asc (ltG x_3) (groupsOf x_3)) (∃ (y : Unit), True ∧ false = true ∧ True) (∃ (x_6 : List Nd), (List.length x_6 ≤ (1073741824 : Nat) ∧ ∀ (e : Nd), e ∈ x_6 → List.length e.kids ≤ (1073741824 : Nat)) ∧ AV.sl false (0 : Nat) (4 : Nat) Nd (ndA false) x = AV.sl false (0 : Nat) (4 : Nat) Nd (ndA false) x_6 ∧ ∀ (y : Unit), True → ∃ (x : List Nd × List Nd), (smallNds x.fst ∧ smallNds x.snd) ∧ AV.sl false (0 : Nat) (4 : Nat) Nd (fun (x : Nd) => fzL (ndA true x)) x_4 = AV.sl false (0 : Nat) (4 : Nat) Nd (ndA false) x.fst ∧ AV.sl false (0 : Nat) (4 : Nat) Nd (fun (x : Nd) => fzL (ndA true x)) x_6 = AV.sl false (0 : Nat) (4 : Nat) Nd (ndA false) x.snd ∧ ∀ (y : Unit), True → bcase (!beqNds x.fst x.snd) (∃ (y : Unit), True ∧ false = true ∧ True) (∃ (y : Unit), True ∧ true = true ∧ True)))) := by kernel_rfl
theorem lawIsOrdered_ok  : Contract G Tryd.prog 5 s_lawIsOrdered :=
  vcFun_ok (Γ := Γof [(7, 0, s_szNds), (9, 0, s_toNds), (14, 0, s_sIsOrdered), (15, 0, s_iIsOrdered), (11, 0, s_eqNds)]) (E := Eof []) (ov := false) (L := fun x => Lof ([])) Tryd.func5 rfl (by decide) (Γof_ok (l := [(7, 0, s_szNds), (9, 0, s_toNds), (14, 0, s_sIsOrdered), (15, 0, s_iIsOrdered), (11, 0, s_eqNds)]) ⟨szNds_ok, toNds_ok, sIsOrdered_ok, iIsOrdered_ok, eqNds_ok, trivial⟩) fun (x : List Nd) (hx : smallNds x) => (lawIsOrdered_vc  x).mpr (by
  have h1 : smallNds x := hx
  simp only [fz_nds]
  (repeat' first | with_reducible rfl | exact True.intro | refine inR_i64 ?_ ?_ | with_reducible refine And.intro ?_ ?_ | with_reducible refine bcase_dec (fun _ => ?_) (fun _ => ?_) | with_reducible refine bcase_bne (fun _ => ?_) (fun _ => ?_) | with_reducible refine bcase_beq (fun _ => ?_) (fun _ => ?_) | with_reducible refine bcase_not (fun _ => ?_) (fun _ => ?_) | refine bcase_intro (fun _ => ?_) (fun _ => ?_) | refine sl_eq ?_ | refine ex_flip () ?_ ?_ | (apply ex_flip6 <;> try dsimp only) | (apply ex_flip5 <;> try dsimp only) | (apply ex_flip4 <;> try dsimp only) | (apply ex_flip3 <;> try dsimp only) | (apply ex_flip2 <;> try dsimp only) | apply ex_flip | (refine Prod.forall.2 ?_; intro _; try dsimp only) | (intro _; try dsimp only))
  all_goals first
    | exact h1
    | contradiction
    | (simp only [ne_eq, not_true_eq_false] at *; done)
    | exact gB6 (by assumption)
    | exact gOk (by assumption)
    | exact gB3 (by assumption)
    | exact gText (by assumption) (by assumption)
    | (exact fun e he => gB4 (by assumption) he)
    | (have := gB4 (by assumption) (by assumption); omega)
    | (have := gB3 (by assumption); omega)
    | (exfalso; simp [beqNds_self] at *; done)
    | omega
    | skip)

end Go.My
end
section
/- What a reading of data says, in the engine's words. -/
set_option linter.unusedVariables false
set_option linter.unusedSimpArgs false
namespace Go.Eng

def Old (w : World) : FP := fun b => w.heap.size ≤ b

def Opens (P : Program) (t : TypeId) {α : Type} (f : α → List AV) (good : α → Prop) : Prop :=
  ∀ {H : Type} (enc : TypeId × Value → H) (w : World) (spare : Nat → Bool) (held : Bool) (fuel : Nat) (cs : List Value) (y : DataW H × List MemPlace),
    DataW.trod enc P w 0 spare held fuel t cs = some y → ∃ x : α, good x ∧ rel0L (Old w) w (f x) cs (fun _ => False)

theorem rel0L_one {Z : FP} {w : World} {a : AV} {v : Value} : rel0L Z w [a] [v] (fun _ => False) ↔ rel0 Z w a v (fun _ => False) := by
  simp only [rel0L]
  constructor
  · rintro ⟨u, cs', A, B, e, hj, h1, h2, h3⟩
    simp only [List.cons.injEq] at e
    obtain ⟨rfl, rfl⟩ := e
    have := (emp_of_join hj emp_false).1
    rwa [emp_eq this] at h1
  · intro h
    exact ⟨v, [], fun _ => False, fun _ => False, rfl, join_emp_left _, h, rfl, emp_false⟩

theorem rel0L_cons {Z : FP} {w : World} {a : AV} {azs : List AV} {v : Value} {vs : List Value} (h1 : rel0 Z w a v (fun _ => False)) (h2 : rel0L Z w azs vs (fun _ => False)) :
    rel0L Z w (a :: azs) (v :: vs) (fun _ => False) := by
  simp only [rel0L]
  exact ⟨v, vs, _, _, rfl, join_emp_left _, h1, h2⟩

theorem wf_int {k : IntKind} {n : Int} (h : (Lit.int k n).wf = true) : inR k n := by
  unfold inR
  simpa [Lit.wf] using h

theorem opens_int {P : Program} {t : TypeId} {k : IntKind} (ht : P.underlying t = some (.int k)) : Opens P t (fun n : Int => [.int k n]) (fun n => inR k n) := by
  intro H enc w spare held fuel cs y h
  obtain ⟨n, rfl, _, hw⟩ := DataW.trod_int ht h
  exact ⟨n, wf_int hw, rel0L_one.2 (by simp [rel0, emp])⟩
theorem opens_bool {P : Program} {t : TypeId} (ht : P.underlying t = some .bool) : Opens P t (fun b : Bool => [.bool b]) (fun _ => True) := by
  intro H enc w spare held fuel cs y h
  obtain ⟨n, rfl, _⟩ := DataW.trod_bool ht h
  exact ⟨n, trivial, rel0L_one.2 (by simp [rel0, emp])⟩
theorem opens_str {P : Program} {t : TypeId} (ht : P.underlying t = some .string) : Opens P t (fun s : List UInt8 => [.str s]) (fun s => s.length < 2 ^ 63) := by
  intro H enc w spare held fuel cs y h
  obtain ⟨n, rfl, _, hl⟩ := DataW.trod_string ht h
  refine ⟨n.data.toList, ?_, rel0L_one.2 ?_⟩
  · have : n.data.toList.length ≤ maxLen := hl
    unfold maxLen at this; omega
  · simp only [rel0]; exact ⟨trivial, emp_false⟩

theorem exists_list {α : Type} {p : Nat → α → Prop} : ∀ n, (∀ i, i < n → ∃ x, p i x) → ∃ l : List α, l.length = n ∧ ∀ i x, l[i]? = some x → p i x
  | 0, _ => ⟨[], rfl, fun i x h => by simp at h⟩
  | n + 1, h => by
    obtain ⟨l, hl, hp⟩ := exists_list n fun i hi => h i (by omega)
    obtain ⟨x, hx⟩ := h n (by omega)
    refine ⟨l ++ [x], by simp [hl], fun i y hy => ?_⟩
    by_cases hi : i < l.length
    · rw [List.getElem?_append_left hi] at hy; exact hp i y hy
    · rw [List.getElem?_append_right (by omega)] at hy
      have : i - l.length = 0 := by
        rcases Nat.eq_zero_or_pos (i - l.length) with h | h
        · exact h
        · rw [List.getElem?_eq_none (by simp; omega)] at hy; cases hy
      rw [this] at hy; simp at hy; subst hy
      rwa [show i = n by omega]

theorem rows_of {α : Type} {sz : Nat} {R : α → List Value → FP → Prop} : ∀ (xs : List α) (arr : List Value),
    (∀ (i : Nat) (x : α), xs[i]? = some x → ((arr.drop (i * sz)).take sz).length = sz ∧ R x ((arr.drop (i * sz)).take sz) (fun _ => False)) → Rows sz R xs arr (fun _ => False)
  | [], arr, h => emp_false
  | x :: xs, arr, h => by
    have h0 := h 0 x rfl
    simp only [Nat.zero_mul, List.drop_zero] at h0
    refine ⟨_, _, join_emp_left _, h0.1, h0.2, rows_of xs (arr.drop sz) fun i y hy => ?_⟩
    have := h (i + 1) y (by simpa using hy)
    rwa [Nat.succ_mul, Nat.add_comm, ← List.drop_drop] at this

theorem opens_slice {P : Program} {t e : TypeId} {sz : Nat} {α : Type} {f : α → List AV} {good : α → Prop} (ht : P.underlying t = some (.slice e)) (hc : P.cellsOf e = sz) (hpos : 0 < sz)
    (ho : Opens P e f good) : Opens P t (fun l : List α => [.sl false 0 sz α f l]) (fun l => l.length < 2 ^ 63 ∧ ∀ x ∈ l, good x) := by
  intro H enc w spare held fuel cs y h
  rcases DataW.trod_slice ht h with ⟨rfl, _⟩ | ⟨a, len, cap, elems, rest, n, _, rfl, _, hb, hl, hm, hlen, hel, _, _⟩
  · refine ⟨[], ⟨by simp, by simp⟩, rel0L_one.2 ?_⟩
    simp only [rel0]
    exact ⟨none, 0, 0, rfl, rfl, Nat.le_refl _, .inr ⟨trivial, emp_false, .inl trivial⟩⟩
  · have each : ∀ i, i < len → ∃ x : α, good x ∧ ∃ cs, w.cells? 0 (a.add (i * sz)) sz = some cs ∧ rel0L (Old w) w (f x) cs (fun _ => False) := by
      intro i hi
      have h1 := hel i hi
      rw [hc] at h1
      rw [List.getElem?_eq_getElem (by omega : i < elems.length), Option.bind_eq_some_iff] at h1
      obtain ⟨cs, h2, h3⟩ := h1
      obtain ⟨x, hg, hr⟩ := ho enc w spare held n cs _ h3
      exact ⟨x, hg, cs, h2, hr⟩
    obtain ⟨l, hll, hp⟩ := exists_list len each
    refine ⟨l, ⟨?_, ?_⟩, rel0L_one.2 ?_⟩
    · unfold maxLen at hm; omega
    · intro x hx
      obtain ⟨i, hi⟩ := List.getElem?_of_mem hx
      exact (hp i x hi).1
    · simp only [rel0]
      refine ⟨some a, len, cap, rfl, hll.symm, hl, .inr ⟨trivial, emp_false, ?_⟩⟩
      rcases Nat.eq_zero_or_pos len with h0 | h0
      · exact .inl (List.length_eq_zero_iff.1 (by omega))
      · refine .inr ?_
        obtain ⟨x0, _, c0, hc0, _⟩ := each 0 h0
        have h00 := (World.cells?_some hc0).2.2 0 hpos
        have hcl := (World.cells?_some hc0).2.1
        simp only [Nat.zero_mul, Addr.add] at h00
        obtain ⟨b, off, sp⟩ := a
        simp only [World.cell?, if_true] at h00
        split at h00
        · rename_i arr ty fr harr
          split at h00
          · rw [List.getElem?_eq_getElem (by omega)] at h00; cases h00
          · rename_i hsp
            have hsp : sp = none := by simpa using hsp
            subst hsp
            have hlt : b < w.heap.size := by
              rcases Nat.lt_or_ge b w.heap.size with h | h
              · exact h
              · rw [Array.getElem?_eq_none h] at harr; cases harr
            refine ⟨b, off, arr, ty, fr, rfl, by unfold Old; omega, harr, rows_of l _ fun i x hx => ?_⟩
            have hi : i < l.length := (List.getElem?_eq_some_iff.1 hx).1
            obtain ⟨hg, cs, hcs, hr⟩ := hp i x hx
            obtain ⟨_, hcl, hce⟩ := World.cells?_some hcs
            have e : ((arr.toList.drop off).drop (i * sz)).take sz = cs := by
              refine List.ext_getElem? fun j => ?_
              rw [List.getElem?_take]
              split
              · rename_i hj
                have := hce j hj
                rw [← this]
                simp only [List.getElem?_drop, Array.getElem?_toList]
                have ea : ((⟨b, off, none⟩ : Addr).add (i * sz)).add j = ⟨b, off + i * sz + j, none⟩ := by
                  unfold Addr.add
                  by_cases h1 : i * sz = 0 <;> by_cases h2 : j = 0 <;> simp [h1, h2]
                rw [ea]
                simp only [World.cell?, harr]
                simp [Nat.add_assoc]
              · rw [List.getElem?_eq_none (by omega)]
            rw [e]
            exact ⟨hcl, hr⟩
        · rw [List.getElem?_eq_getElem (by omega)] at h00; cases h00

theorem trod_struct_cells {P : Program} {H : Type} {enc : TypeId × Value → H} {w : World} {base : Nat} {spare : Nat → Bool} {held : Bool} {fuel : Nat} {t : TypeId} {cs : List Value} {y : DataW H × List MemPlace} {fs : Array Field}
    (ht : P.underlying t = some (.struct fs)) (hn : P.cellsOf t = fs.size) (hf : ∀ (i : Nat) (f : Field), fs[i]? = some f → f.offset = i ∧ P.cellsOf f.type = 1)
    (h : DataW.trod enc P w base spare held fuel t cs = some y) : cs.length = fs.size ∧ ∃ n, ∀ (i : Nat) (f : Field) (c : Value), fs[i]? = some f → cs[i]? = some c →
      ∃ z, DataW.trod enc P w base spare held n f.type [c] = some z := by
  obtain ⟨xs, n, _, _, h1, h2, h3⟩ := DataW.trod_struct ht h
  refine ⟨by omega, n, fun i f c hi hc => ?_⟩
  have h4 := h3 i f hi
  rw [(hf i f hi).1, (hf i f hi).2] at h4
  have hlt : i < cs.length := (List.getElem?_eq_some_iff.1 hc).1
  have e : (cs.drop i).take 1 = [c] := by
    rw [List.drop_eq_getElem_cons hlt]
    simp only [List.take_succ_cons, List.take_zero, List.cons.injEq, and_true]
    exact (List.getElem?_eq_some_iff.1 hc).2
  rw [e] at h4
  rw [h4]
  have : i < xs.length := by omega
  exact ⟨xs[i], by simp [this]⟩
end Go.Eng
end
section
/- From a function's contract to a row: a law that returns true. -/
set_option linter.unusedVariables false
set_option linter.unusedSimpArgs false
namespace Go.Eng
open Go.ChangeShapes Go.WideShapes Go.ChangeAt Go.RowKit

theorem after_below {Z Z' A' : FP} {w w' : World} (h : After Z w (fun _ => False) Z' w' A') : Below w.heap.size w w' :=
  ⟨h.os, h.tape, h.output, h.size, fun b hb => (h.old b hb (fun x => x)).1⟩

theorem trodAll_below {H : Type} {enc : TypeId × Value → H} {P : Program} (hl : laidOutB P = true) {W W' : World} (hb : Below W.heap.size W W') :
    ∀ (ts : List TypeId) (vs : List Value) (ds : List (DataW H)) (ps : List MemPlace), ts.all (fun t => P.readableRec t && decide (t < P.types.size)) = true →
    DataW.TrodAll enc P W 0 (fun _ => true) true ts vs ds ps → (∀ x ∈ ps, x.block < W.heap.size) → DataW.TrodAll enc P W' 0 (fun b => decide (b < W.heap.size)) true ts vs ds ps
  | [], [], [], ps, ht, h, hp => h
  | t :: ts, v :: vs, d :: ds, ps, ht, h, hp => by
    obtain ⟨p, q, h1, h2, rfl⟩ := h
    simp only [List.all_cons, Bool.and_eq_true, decide_eq_true_eq] at ht
    exact ⟨p, q, Below.trod hl ht.1.1 ht.1.2 h1 hb (fun x hx => hp x (List.mem_append_left _ hx)), trodAll_below hl hb ts vs ds q ht.2 h2 (fun x hx => hp x (List.mem_append_right _ hx)), rfl⟩
  | [], _ :: _, _, _, ht, h, hp => h.elim
  | [], [], _ :: _, _, ht, h, hp => h.elim
  | _ :: _, [], _, _, ht, h, hp => h.elim
  | _ :: _, _ :: _, [], _, ht, h, hp => h.elim

theorem law_post {H : Type} {enc : TypeId × Value → H} {P : Program} {f : Func} {s : ChangeSpec} {W W' : World} {args : Array Value} {ds gs : List (DataW H)} {before : List MemPlace} {tb : TypeId}
    (hl : laidOutB P = true) (ht : f.params.toList.all (fun t => P.readableRec t && decide (t < P.types.size)) = true) (hv : s.vars = [])
    (hs : s.fn H ds = { results := [.lit (.bool true)], args := ds }) (hr : f.resultTypes = #[tb]) (htb : P.underlying tb = some .bool)
    (hW : DataW.Whole enc P f.params.toList s.vars false W args.toList ds gs before) (hb : Below W.heap.size W W') : s.post enc P f false true false false W args (.bool true) W' := by
  have hW0 := hW
  obtain ⟨p, q, hA, hV, rfl, hfz, hnd⟩ := hW
  rw [hv] at hV
  obtain ⟨rfl, rfl⟩ := trodVars_none hV
  refine ⟨ds, [], p ++ [], [], p, [], hW0, ?_, ?_, ?_, hb.frame _, fun h => by cases h⟩
  · simp only [List.append_nil]
    rw [hs, hr]
    exact trodAll_mk1 (shut_bool htb _)
  · simp only [List.append_nil]
    rw [hs]
    exact trodAll_below hl hb _ _ _ _ ht hA (fun x hx => by simpa using hW0.lt x (by simpa using hx))
  · simp only [List.append_nil]
    rw [hs, hv]
    rfl

/- nothing is asked of the world -/
def noG : GInv := ⟨fun _ _ => True, fun _ _ _ _ _ _ => trivial⟩
/- a law's signature -/
def lawSig (X : Type) (args : X → List AV) (pre : X → Prop) (n : Nat) : Sig :=
  { X := X, args := args, pre := pre, Y := Unit, post := fun _ _ => True, res := fun _ _ => .bool true, outs := fun _ _ => List.replicate n .top, keep := false }

theorem law_calls {H : Type} {enc : TypeId × Value → H} {P : Program} {fi : FuncId} {f : Func} {s : ChangeSpec} {W : World} {args : Array Value} {ds gs : List (DataW H)} {before : List MemPlace} {tb : TypeId}
    {X : Type} {azs : X → List AV} {pre : X → Prop} {n : Nat} {G : GInv} (hc : Contract G P fi (lawSig X azs pre n)) (hG : G.p (Old W) W)
    (hl : laidOutB P = true) (ht : f.params.toList.all (fun t => P.readableRec t && decide (t < P.types.size)) = true) (hv : s.vars = [])
    (hs : s.fn H ds = { results := [.lit (.bool true)], args := ds }) (hr : f.resultTypes = #[tb]) (htb : P.underlying tb = some .bool)
    (hW : DataW.Whole enc P f.params.toList s.vars false W args.toList ds gs before)
    (ho : ∃ x, pre x ∧ rel0L (Old W) W (azs x) args.toList (fun _ => False)) :
    Calls P fi args W fun e W' => ∃ v, e = .returned v ∧ s.post enc P f false true false false W args v W' := by
  obtain ⟨x, hx, hrel⟩ := ho
  refine (hc.2 x hx (Old W) W args.toList _ hG hrel (fun b h => h.elim)).mono fun e W' h => ?_
  obtain ⟨y, v, Z', A', _, rfl, hr2, hafter⟩ := h
  simp only [rel0L] at hr2
  obtain ⟨v', us, A1, A2, e1, _, h1, _⟩ := hr2
  simp only [List.cons.injEq] at e1
  obtain ⟨rfl, _⟩ := e1
  have : v = .bool true := by
    have h1 : rel0 Z' W' (.bool true) v A1 := h1
    simp only [rel0] at h1; exact h1.1
  subst this
  exact ⟨_, rfl, law_post hl ht hv hs hr htb hW (after_below hafter)⟩
end Go.Eng
end
section
/- Arguments of a row opened into the engine's words. -/
set_option linter.unusedVariables false
set_option linter.unusedSimpArgs false
namespace Go.Eng
open Go.ChangeShapes Go.WideShapes Go.ChangeAt Go.RowKit

theorem open_one {H : Type} {enc : TypeId × Value → H} {P : Program} {t : TypeId} {α : Type} {f : α → AV} {good : α → Prop} (hO : Opens P t (fun x => [f x]) good) {W : World} {v : Value} (hc : isCell v)
    {d : DataW H} {ps : List MemPlace} (h : DataW.Trod enc P W 0 (fun _ => true) true t v d ps) : ∃ x, good x ∧ rel0 (Old W) W (f x) v (fun _ => False) := by
  obtain ⟨fuel, hf⟩ := h
  rw [cells_of_cell hc] at hf
  obtain ⟨x, hg, hr⟩ := hO enc W _ _ fuel _ _ hf
  exact ⟨x, hg, rel0L_one.1 hr⟩
theorem open_agg {H : Type} {enc : TypeId × Value → H} {P : Program} {t : TypeId} {α : Type} {f : α → List AV} {good : α → Prop} (hO : Opens P t f good) {W : World} {cs : Array Value}
    {d : DataW H} {ps : List MemPlace} (h : DataW.Trod enc P W 0 (fun _ => true) true t (.agg cs) d ps) : ∃ x, good x ∧ rel0 (Old W) W (.agg (f x)) (.agg cs) (fun _ => False) := by
  obtain ⟨fuel, hf⟩ := h
  obtain ⟨x, hg, hr⟩ := hO enc W _ _ fuel _ _ hf
  refine ⟨x, hg, ?_⟩
  simp only [rel0]
  exact ⟨_, rfl, hr⟩
theorem open_int1 {H : Type} {enc : TypeId × Value → H} {P : Program} {t : TypeId} {k : IntKind} (ht : P.underlying t = some (.int k)) {W : World} {r : Reach} {base : Nat} {v : Value} (hv : Value.okWide P W r base t v)
    {d : DataW H} {ps : List MemPlace} (h : DataW.Trod enc P W 0 (fun _ => true) true t v d ps) : ∃ n, inR k n ∧ rel0 (Old W) W (.int k n) v (fun _ => False) :=
  open_one (opens_int ht) (by obtain ⟨n, rfl⟩ := okWide_int ht hv; trivial) h
theorem open_str1 {H : Type} {enc : TypeId × Value → H} {P : Program} {t : TypeId} (ht : P.underlying t = some .string) {W : World} {r : Reach} {base : Nat} {v : Value} (hv : Value.okWide P W r base t v)
    {d : DataW H} {ps : List MemPlace} (h : DataW.Trod enc P W 0 (fun _ => true) true t v d ps) : ∃ s : List UInt8, s.length < 2 ^ 63 ∧ rel0 (Old W) W (.str s) v (fun _ => False) :=
  open_one (opens_str ht) (by obtain ⟨n, rfl⟩ := okWide_string ht hv; trivial) h
theorem open_sl1 {H : Type} {enc : TypeId × Value → H} {P : Program} {t e : TypeId} {α : Type} {f : α → AV} {good : α → Prop} (ht : P.underlying t = some (.slice e)) (hO : Opens P t (fun x => [f x]) good)
    {W : World} {r : Reach} {base : Nat} {v : Value} (hv : Value.okWide P W r base t v)
    {d : DataW H} {ps : List MemPlace} (h : DataW.Trod enc P W 0 (fun _ => true) true t v d ps) : ∃ x, good x ∧ rel0 (Old W) W (f x) v (fun _ => False) :=
  open_one hO (by obtain ⟨a, l, c, rfl⟩ := okWide_slice ht hv; trivial) h
theorem open_st1 {H : Type} {enc : TypeId × Value → H} {P : Program} {t : TypeId} {fs : Array Field} {α : Type} {f : α → List AV} {good : α → Prop} (ht : P.underlying t = some (.struct fs)) (hO : Opens P t f good)
    {W : World} {r : Reach} {base : Nat} {v : Value} (hv : Value.okWide P W r base t v)
    {d : DataW H} {ps : List MemPlace} (h : DataW.Trod enc P W 0 (fun _ => true) true t v d ps) : ∃ x, good x ∧ rel0 (Old W) W (.agg (f x)) v (fun _ => False) := by
  obtain ⟨cs, rfl, _⟩ := okWide_struct ht hv
  exact open_agg hO h
theorem rel0L_nil {Z : FP} {w : World} : rel0L Z w [] [] (fun _ => False) := ⟨rfl, emp_false⟩
/- structs of two and of four cells -/
theorem opens_st2 {P : Program} {t : TypeId} {f0 f1 : Field} {α β : Type} {a : α → AV} {b : β → AV} {ga : α → Prop} {gb : β → Prop} (ht : P.underlying t = some (.struct #[f0, f1])) (hn : P.cellsOf t = 2)
    (h0 : f0.offset = 0 ∧ P.cellsOf f0.type = 1) (h1 : f1.offset = 1 ∧ P.cellsOf f1.type = 1)
    (o0 : Opens P f0.type (fun x => [a x]) ga) (o1 : Opens P f1.type (fun x => [b x]) gb) : Opens P t (fun x : α × β => [a x.1, b x.2]) (fun x => ga x.1 ∧ gb x.2) := by
  intro H enc w spare held fuel cs y h
  obtain ⟨hl, n, hf⟩ := trod_struct_cells ht hn (fun i f hi => by
    match i, hi with
    | 0, hi => simp at hi; subst hi; exact h0
    | 1, hi => simp at hi; subst hi; exact h1
    | n + 2, hi => simp at hi) h
  match cs, hl with
  | [c0, c1], _ =>
    obtain ⟨z0, e0⟩ := hf 0 _ c0 rfl rfl
    obtain ⟨z1, e1⟩ := hf 1 _ c1 rfl rfl
    obtain ⟨x0, g0, r0⟩ := o0 enc w _ _ _ _ _ e0
    obtain ⟨x1, g1, r1⟩ := o1 enc w _ _ _ _ _ e1
    exact ⟨(x0, x1), ⟨g0, g1⟩, rel0L_cons (rel0L_one.1 r0) r1⟩
theorem opens_st4 {P : Program} {t : TypeId} {f0 f1 f2 f3 : Field} {α β γ δ : Type} {a : α → AV} {b : β → AV} {c : γ → AV} {d : δ → AV} {ga : α → Prop} {gb : β → Prop} {gc : γ → Prop} {gd : δ → Prop}
    (ht : P.underlying t = some (.struct #[f0, f1, f2, f3])) (hn : P.cellsOf t = 4)
    (h0 : f0.offset = 0 ∧ P.cellsOf f0.type = 1) (h1 : f1.offset = 1 ∧ P.cellsOf f1.type = 1) (h2 : f2.offset = 2 ∧ P.cellsOf f2.type = 1) (h3 : f3.offset = 3 ∧ P.cellsOf f3.type = 1)
    (o0 : Opens P f0.type (fun x => [a x]) ga) (o1 : Opens P f1.type (fun x => [b x]) gb) (o2 : Opens P f2.type (fun x => [c x]) gc) (o3 : Opens P f3.type (fun x => [d x]) gd) :
    Opens P t (fun x : α × β × γ × δ => [a x.1, b x.2.1, c x.2.2.1, d x.2.2.2]) (fun x => ga x.1 ∧ gb x.2.1 ∧ gc x.2.2.1 ∧ gd x.2.2.2) := by
  intro H enc w spare held fuel cs y h
  obtain ⟨hl, n, hf⟩ := trod_struct_cells ht hn (fun i f hi => by
    match i, hi with
    | 0, hi => simp at hi; subst hi; exact h0
    | 1, hi => simp at hi; subst hi; exact h1
    | 2, hi => simp at hi; subst hi; exact h2
    | 3, hi => simp at hi; subst hi; exact h3
    | n + 4, hi => simp at hi) h
  match cs, hl with
  | [c0, c1, c2, c3], _ =>
    obtain ⟨z0, e0⟩ := hf 0 _ c0 rfl rfl
    obtain ⟨z1, e1⟩ := hf 1 _ c1 rfl rfl
    obtain ⟨z2, e2⟩ := hf 2 _ c2 rfl rfl
    obtain ⟨z3, e3⟩ := hf 3 _ c3 rfl rfl
    obtain ⟨x0, g0, r0⟩ := o0 enc w _ _ _ _ _ e0
    obtain ⟨x1, g1, r1⟩ := o1 enc w _ _ _ _ _ e1
    obtain ⟨x2, g2, r2⟩ := o2 enc w _ _ _ _ _ e2
    obtain ⟨x3, g3, r3⟩ := o3 enc w _ _ _ _ _ e3
    exact ⟨(x0, x1, x2, x3), ⟨g0, g1, g2, g3⟩, rel0L_cons (rel0L_one.1 r0) (rel0L_cons (rel0L_one.1 r1) (rel0L_cons (rel0L_one.1 r2) r3))⟩
theorem opens_map {P : Program} {t : TypeId} {α β : Type} {f : α → List AV} {g : β → List AV} {p : α → Prop} {q : β → Prop} (m : α → β) (ho : Opens P t f p) (hf : ∀ x, f x = g (m x)) (hg : ∀ x, p x → q (m x)) : Opens P t g q := by
  intro H enc w spare held fuel cs y h
  obtain ⟨x, hx, hr⟩ := ho enc w _ _ fuel _ _ h
  exact ⟨m x, hg x hx, by rw [← hf]; exact hr⟩
end Go.Eng
end
section
/- The laws' arguments opened. -/
set_option linter.unusedVariables false
set_option maxRecDepth 100000
namespace Go.My
open Go.Eng Go.Proofs
variable {G : GInv}

theorem opens_ints : Opens Tryd.prog 39 (fun l : List Int => [ints l]) (fun l => l.length < 2 ^ 63 ∧ ∀ x ∈ l, inR .i64 x) :=
  opens_slice (e := 3) rfl (by kernel_rfl) (by decide) (opens_int rfl)
theorem opens_node : Opens Tryd.prog 41 (ndA false) smallNd :=
  opens_map (fun x : Int × List UInt8 × List Int × Bool => (⟨x.1, x.2.1, x.2.2.1, x.2.2.2⟩ : Nd)) (opens_st4 (t := 41) (P := Tryd.prog) (a := fun n => .int .i64 n) (b := .str) (c := ints) (d := .bool)
    (gd := fun _ => True) rfl (by kernel_rfl) ⟨by kernel_rfl, by kernel_rfl⟩ ⟨by kernel_rfl, by kernel_rfl⟩ ⟨by kernel_rfl, by kernel_rfl⟩ ⟨by kernel_rfl, by kernel_rfl⟩ (opens_int (k := .i64) rfl) (opens_str rfl) opens_ints (opens_bool rfl)) (fun _ => rfl) (fun x h => ⟨h.2.1, h.2.2.1.1⟩)
theorem opens_nodes : Opens Tryd.prog 22 (fun l : List Nd => [nds l]) smallNds :=
  opens_slice (e := 41) rfl (by kernel_rfl) (by decide) opens_node
end Go.My
end
