/- A part of the proof: the engine and the contracts, joined. -/
import Derived.Test.YtinkjpfkemkhaaaGreatDoorQG
section
/- The laws' helpers over groups, and marks: what is written into what came back, and looked at again. -/
set_option linter.unusedVariables false
set_option linter.unusedSimpArgs false
namespace Go.My
open Go.Eng Go.Proofs
variable {G : GInv}

/- equality of groups -/
def beqGr (a b : Gr) : Bool := a.notes == b.notes && a.member == b.member
theorem beqGr_eq {a b : Gr} : beqGr a b = true ↔ a = b := by
  cases a; cases b; simp [beqGr]
theorem beqGr_self (a : Gr) : beqGr a a = true := beqGr_eq.2 rfl
def beqGrs : List Gr → List Gr → Bool
  | [], [] => true
  | a :: l, b :: m => beqGr a b && beqGrs l m
  | _, _ => false
theorem beqGrs_eq : ∀ {a b : List Gr}, beqGrs a b = true ↔ a = b
  | [], [] => by simp [beqGrs]
  | [], _ :: _ => by simp [beqGrs]
  | _ :: _, [] => by simp [beqGrs]
  | a :: l, b :: m => by simp [beqGrs, beqGr_eq, beqGrs_eq (a := l) (b := m)]
theorem beqGrs_false {a b : List Gr} (h : a ≠ b) : false = beqGrs a b := by
  cases hb : beqGrs a b
  · rfl
  · exact (h (beqGrs_eq.1 hb)).elim
theorem beqGrs_true {a b : List Gr} (h : a = b) : true = beqGrs a b := (beqGrs_eq.2 h).symm
theorem beqGrs_self (a : List Gr) : beqGrs a a = true := beqGrs_eq.2 rfl
def smallGrs (l : List Gr) : Prop := l.length < 2 ^ 40 ∧ ∀ g ∈ l, g.notes.length < 2 ^ 40
theorem fz_grs {l : List Gr} : AV.sl false 0 2 Gr (fun x => fzL (grA true x)) l = AV.sl false 0 2 Gr (grA false) l := rfl

/- marks -/
def mkI (k : Int) (n : Nat) : List Int := (List.range n).map fun j : Nat => k + (j : Int)
theorem mkI_len {k : Int} {n : Nat} : (mkI k n).length = n := by simp [mkI]
theorem mkI_at {k : Int} {n i : Nat} (h : i < n) : (mkI k n)[i]? = some (k + i) := by simp [mkI, h]
theorem mkI_set {k : Int} {l : List Int} {i : Nat} (h : i < l.length) : (mkI k i ++ l.drop i).set i (k + i) = mkI k (i + 1) ++ l.drop (i + 1) := by
  rw [List.set_append_right _ _ (by rw [mkI_len]; exact Nat.le_refl i), mkI_len, Nat.sub_self, List.drop_eq_getElem_cons h, List.set_cons_zero]
  simp [mkI, List.range_succ]
theorem mkI_full {k : Int} {l : List Int} {i : Nat} (h : l.length ≤ i) (h2 : i ≤ l.length) : mkI k i ++ l.drop i = mkI k l.length := by
  obtain rfl : i = l.length := by omega
  simp
def mkG (k : Int) (g : Gr) : Gr := ⟨mkI k g.notes.length, k + g.notes.length⟩
def totG : List Gr → Int
  | [] => 0
  | g :: l => g.notes.length + 1 + totG l
def mkGs (k : Int) : List Gr → List Gr
  | [] => []
  | g :: l => mkG k g :: mkGs (k + g.notes.length + 1) l
theorem totG_snoc : ∀ {l : List Gr} {g : Gr}, totG (l ++ [g]) = totG l + g.notes.length + 1
  | [], g => by simp [totG]
  | x :: l, g => by simp only [List.cons_append, totG]; rw [totG_snoc]; omega
theorem totG_cons {l : List Gr} {g : Gr} : totG (g :: l) = g.notes.length + 1 + totG l := rfl
theorem mkGs_snoc : ∀ {l : List Gr} {g : Gr} {k : Int}, mkGs k (l ++ [g]) = mkGs k l ++ [mkG (k + totG l) g]
  | [], g, k => by simp [mkGs, totG]
  | x :: l, g, k => by
    simp only [List.cons_append, mkGs]; rw [mkGs_snoc, totG_cons]
    rw [show k + (x.notes.length : Int) + 1 + totG l = k + (x.notes.length + 1 + totG l) by omega]
theorem mkGs_len : ∀ {l : List Gr} {k : Int}, (mkGs k l).length = l.length
  | [], k => rfl
  | x :: l, k => by simp [mkGs, mkGs_len]
theorem mkGs_at : ∀ {l : List Gr} {k : Int} {i : Nat} {g : Gr}, l[i]? = some g → (mkGs k l)[i]? = some (mkG (k + totG (l.take i)) g)
  | [], k, i, g, h => by simp at h
  | x :: l, k, 0, g, h => by simp at h; subst h; simp [mkGs, totG]
  | x :: l, k, i + 1, g, h => by
    simp only [mkGs, List.getElem?_cons_succ, List.take_succ_cons] at h ⊢
    rw [mkGs_at h, totG_cons]; congr 2; omega
theorem totG_bd : ∀ {l : List Gr} {n : Nat}, (∀ g ∈ l, g.notes.length ≤ n) → 0 ≤ totG l ∧ totG l ≤ l.length * (n + 1)
  | [], n, h => by simp [totG]
  | x :: l, n, h => by
    have h1 := h x (by simp)
    have h2 := totG_bd (l := l) (n := n) fun g hg => h g (by simp [hg])
    rw [totG_cons, List.length_cons]
    have e : ((l.length + 1 : Nat) : Int) * ((n : Int) + 1) = l.length * (n + 1) + (n + 1) := by rw [Int.natCast_add, Int.add_mul]; simp
    rw [e]; omega
theorem mkGs_set {l : List Gr} {k : Int} {i : Nat} {g : Gr} (h : l[i]? = some g) : (mkGs k (l.take i) ++ l.drop i).set i (mkG (k + totG (l.take i)) g) = mkGs k (l.take (i + 1)) ++ l.drop (i + 1) := by
  have hi := (getE h).1
  have e : (mkGs k (l.take i)).length = i := by rw [mkGs_len, List.length_take]; omega
  rw [List.set_append_right _ _ (by rw [e]; exact Nat.le_refl i), e, Nat.sub_self, dropE h, List.set_cons_zero, takeE h, mkGs_snoc]
  simp

/- order -/
theorem asc_iff {α : Type} {lt : α → α → Bool} {l : List α} : asc lt l = true ↔ ∀ (j : Nat) (a b : α), l[j + 1]? = some b → l[j]? = some a → lt b a = false := by
  unfold asc
  rw [List.all_eq_true]
  constructor
  · intro h j a b hb ha
    have := h j (List.mem_range.2 (by have := (getE hb).1; omega))
    rw [hb, ha] at this
    simpa using this
  · intro h j hj
    have hj := List.mem_range.1 hj
    have e1 : l[j + 1]? = some l[j + 1] := by simp
    have e2 : l[j]? = some l[j] := by simp
    rw [e1, e2]
    simp [h j _ _ e1 e2]
theorem asc_not {α : Type} {lt : α → α → Bool} {l : List α} {j : Nat} {a b : α} (hb : l[j + 1]? = some b) (ha : l[j]? = some a) (h : lt b a = true) : asc lt l = false := by
  rw [Bool.eq_false_iff]; intro hh
  rw [asc_iff.1 hh j a b hb ha] at h; cases h
def ltG (ns : List Nd) (a b : Gr) : Bool := bLt (gkey ns a.member) (gkey ns b.member)
def cmpV (a b : List UInt8) : Int := if bLt a b then -1 else if !(bLt a b || a == b) then 1 else 0
theorem cmpV_neg {a b : List UInt8} : cmpV a b < 0 ↔ bLt a b = true := by
  unfold cmpV
  by_cases h : bLt a b = true
  · simp [h]
  · rw [if_neg h]; split <;> simp [h]
def s_isNaN  : Sig := { X := List UInt8, args := fun x => [.str x], pre := fun x => True, Y := Unit, post := fun x y => True, res := fun x y => .bool false, outs := fun x y => [.top], keep := false }
theorem isNaN_vc (x : List UInt8) : vcFun Go.Proofs.Tryz.prog (Γof []) (Eof []) false (Lof ([])) Go.Proofs.Tryz.f117.ntmps Go.Proofs.Tryz.f117.results.toList (Go.Proofs.Tryz.f117.body.getD .skip) s_isNaN x = ((∀ (y : Unit), True → True ∧ True ∧ True) ∧ ∃ (y : Unit), True ∧ (!x == x) = false ∧ True) := by kernel_rfl
theorem isNaN_ok  : Contract G Tryz.prog 117 s_isNaN :=
  vcFun_ok (Γ := Γof []) (E := Eof []) (ov := false) (L := fun x => Lof ([])) Tryz.func117 rfl (by decide) (Γof_ok (l := []) trivial) fun (x : List UInt8) (hx : True) => (isNaN_vc  x).mpr (by
  (repeat' first | with_reducible rfl | exact True.intro | refine inR_i64 ?_ ?_ | with_reducible refine And.intro ?_ ?_ | with_reducible refine bcase_dec (fun _ => ?_) (fun _ => ?_) | with_reducible refine bcase_bne (fun _ => ?_) (fun _ => ?_) | with_reducible refine bcase_beq (fun _ => ?_) (fun _ => ?_) | with_reducible refine bcase_not (fun _ => ?_) (fun _ => ?_) | refine bcase_intro (fun _ => ?_) (fun _ => ?_) | refine sl_eq ?_ | refine ex_flip () ?_ ?_ | (apply ex_flip6 <;> try dsimp only) | (apply ex_flip5 <;> try dsimp only) | (apply ex_flip4 <;> try dsimp only) | (apply ex_flip3 <;> try dsimp only) | (apply ex_flip2 <;> try dsimp only) | apply ex_flip | (refine Prod.forall.2 ?_; intro _; try dsimp only) | (intro _; try dsimp only)) <;> (try dsimp only at *) <;> (try simp only [i64max, List.length_cons, List.length_nil]) <;> (try omega)
  all_goals simp)

def s_cmpStr  : Sig := { X := List UInt8 × List UInt8, args := fun x => [.str x.1, .str x.2], pre := fun x => True, Y := Unit, post := fun x y => True, res := fun x y => .int .i64 (cmpV x.1 x.2), outs := fun x y => [.top, .top], keep := false }
theorem cmpStr_vc (x : List UInt8 × List UInt8) : vcFun Go.Proofs.Tryz.prog (Γof [(117, 0, s_isNaN)]) (Eof []) false (Lof ([])) Go.Proofs.Tryz.f66.ntmps Go.Proofs.Tryz.f66.results.toList (Go.Proofs.Tryz.f66.body.getD .skip) s_cmpStr x = ((∀ (y : Unit), True → True ∧ True ∧ True ∧ True) ∧ ∃ (x_1 : List UInt8), True ∧ x.fst = x_1 ∧ ∀ (y : Unit), True → ∃ (x_2 : List UInt8), True ∧ x.snd = x_2 ∧ ∀ (y : Unit), True → bcase (Op.bytesLess x.fst x.snd) (∃ (y : Unit), True ∧ (-1 : Int) = cmpV x.fst x.snd ∧ True) (bcase (!(Op.bytesLess x.fst x.snd || x.fst == x.snd)) (∃ (y : Unit), True ∧ (1 : Int) = cmpV x.fst x.snd ∧ True) (∃ (y : Unit), True ∧ (0 : Int) = cmpV x.fst x.snd ∧ True))) := by kernel_rfl
theorem cmpStr_ok  : Contract G Tryz.prog 66 s_cmpStr :=
  vcFun_ok (Γ := Γof [(117, 0, s_isNaN)]) (E := Eof []) (ov := false) (L := fun x => Lof ([])) Tryz.func66 rfl (by decide) (Γof_ok (l := [(117, 0, s_isNaN)]) ⟨isNaN_ok, trivial⟩) fun (x : List UInt8 × List UInt8) (hx : True) => (cmpStr_vc  x).mpr (by
  (repeat' first | with_reducible rfl | exact True.intro | refine inR_i64 ?_ ?_ | with_reducible refine And.intro ?_ ?_ | with_reducible refine bcase_dec (fun _ => ?_) (fun _ => ?_) | with_reducible refine bcase_bne (fun _ => ?_) (fun _ => ?_) | with_reducible refine bcase_beq (fun _ => ?_) (fun _ => ?_) | with_reducible refine bcase_not (fun _ => ?_) (fun _ => ?_) | refine bcase_intro (fun _ => ?_) (fun _ => ?_) | refine sl_eq ?_ | refine ex_flip () ?_ ?_ | (apply ex_flip6 <;> try dsimp only) | (apply ex_flip5 <;> try dsimp only) | (apply ex_flip4 <;> try dsimp only) | (apply ex_flip3 <;> try dsimp only) | (apply ex_flip2 <;> try dsimp only) | apply ex_flip | (refine Prod.forall.2 ?_; intro _; try dsimp only) | (intro _; try dsimp only)) <;> (try dsimp only at *) <;> (try simp only [i64max, List.length_cons, List.length_nil]) <;> (try omega)
  all_goals simp_all [cmpV])

end Go.My
end
section
/- The laws' helpers over groups and marks; the laws of order and of groups. -/
set_option linter.unusedVariables false
set_option linter.unusedSimpArgs false
namespace Go.My
open Go.Eng Go.Proofs
variable {G : GInv}

theorem ex_gr {p q : Gr → Prop} (a : List Int) (b : Int) (h1 : p ⟨a, b⟩) (h2 : q ⟨a, b⟩) : ∃ x, p x ∧ q x := ⟨_, h1, h2⟩
theorem ex_nd {p q : Nd → Prop} (a : Int) (b : List UInt8) (c : List Int) (d : Bool) (h1 : p ⟨a, b, c, d⟩) (h2 : q ⟨a, b, c, d⟩) : ∃ x, p x ∧ q x := ⟨_, h1, h2⟩
theorem ex_gr2 {p q : Gr → Prop} (a : List Int) (b : Int) (h2 : q ⟨a, b⟩) (h1 : p ⟨a, b⟩) : ∃ x, p x ∧ q x := ⟨_, h1, h2⟩
theorem ex_nd2 {p q : Nd → Prop} (a : Int) (b : List UInt8) (c : List Int) (d : Bool) (h2 : q ⟨a, b, c, d⟩) (h1 : p ⟨a, b, c, d⟩) : ∃ x, p x ∧ q x := ⟨_, h1, h2⟩
def s_eqGr  : Sig := { X := Gr × Gr, args := fun x => [.agg (grA false x.1), .agg (grA false x.2)], pre := fun x => x.1.notes.length < 2 ^ 62 ∧ x.2.notes.length < 2 ^ 62, Y := Unit, post := fun x y => True, res := fun x y => .bool (beqGr x.1 x.2), outs := fun x y => [.top, .top], keep := false }
theorem eqGr_vc (x : Gr × Gr) : vcFun Go.Proofs.Tryz.prog (Γof [(38, 0, s_eqInts)]) (Eof []) false (Lof ([])) Go.Proofs.Tryz.f68.ntmps Go.Proofs.Tryz.f68.results.toList (Go.Proofs.Tryz.f68.body.getD .skip) s_eqGr x = ((∀ (y : Unit), True → True ∧ True ∧ True ∧ True) ∧ ∃ (x_1 : List Int × List Int), (List.length x_1.fst < (9223372036854775808 : Nat) ∧ List.length x_1.snd < (9223372036854775808 : Nat)) ∧ AV.sl false (0 : Nat) (1 : Nat) Int intA x.fst.notes = AV.sl false (0 : Nat) (1 : Nat) Int intA x_1.fst ∧ AV.sl false (0 : Nat) (1 : Nat) Int intA x.snd.notes = AV.sl false (0 : Nat) (1 : Nat) Int intA x_1.snd ∧ ∀ (y : Unit), True → bcase (!x_1.fst == x_1.snd) (∃ (y : Unit), True ∧ false = beqGr x.fst x.snd ∧ True) (bcase (x.fst.member != x.snd.member) (∃ (y : Unit), True ∧ false = beqGr x.fst x.snd ∧ True) (∃ (y : Unit), True ∧ true = beqGr x.fst x.snd ∧ True))) := by kernel_rfl
theorem eqGr_ok  : Contract G Tryz.prog 68 s_eqGr :=
  vcFun_ok (Γ := Γof [(38, 0, s_eqInts)]) (E := Eof []) (ov := false) (L := fun x => Lof ([])) Tryz.func68 rfl (by decide) (Γof_ok (l := [(38, 0, s_eqInts)]) ⟨eqInts_ok, trivial⟩) fun (x : Gr × Gr) (hx : x.1.notes.length < 2 ^ 62 ∧ x.2.notes.length < 2 ^ 62) => (eqGr_vc  x).mpr (by
  obtain ⟨h1, h2⟩ := hx
  (repeat' first | with_reducible rfl | exact True.intro | refine inR_i64 ?_ ?_ | with_reducible refine And.intro ?_ ?_ | with_reducible refine bcase_dec (fun _ => ?_) (fun _ => ?_) | with_reducible refine bcase_bne (fun _ => ?_) (fun _ => ?_) | with_reducible refine bcase_beq (fun _ => ?_) (fun _ => ?_) | with_reducible refine bcase_not (fun _ => ?_) (fun _ => ?_) | refine bcase_intro (fun _ => ?_) (fun _ => ?_) | refine sl_eq ?_ | refine ex_flip () ?_ ?_ | (apply ex_flip6 <;> try dsimp only) | (apply ex_flip5 <;> try dsimp only) | (apply ex_flip4 <;> try dsimp only) | (apply ex_flip3 <;> try dsimp only) | (apply ex_flip2 <;> try dsimp only) | apply ex_flip | (refine Prod.forall.2 ?_; intro _; try dsimp only) | (intro _; try dsimp only)) <;> (try dsimp only at *) <;> (try simp only [i64max, List.length_cons, List.length_nil]) <;> (try omega)
  all_goals simp_all [beqGr]
  all_goals omega)

def lEqGrs (x : List Gr × List Gr) : LS := {
  ι := Int, inv := fun i => 0 ≤ i ∧ i ≤ x.1.length ∧ x.1.take i.toNat = x.2.take i.toNat, regs := fun i => [(0, grs x.1), (1, grs x.2), (5, .int .i64 i)], als := [], meas := fun i => x.1.length - i.toNat }
def s_eqGrs  : Sig := { X := List Gr × List Gr, args := fun x => [grs x.1, grs x.2], pre := fun x => smallGrs x.1 ∧ smallGrs x.2, Y := Unit, post := fun x y => True, res := fun x y => .bool (beqGrs x.1 x.2), outs := fun x y => [.top, .top], keep := false }
theorem eqGrs_vc (x : List Gr × List Gr) : vcFun Go.Proofs.Tryz.prog (Γof [(68, 0, s_eqGr)]) (Eof []) false (Lof ([(4,lEqGrs x)])) Go.Proofs.Tryz.f20.ntmps Go.Proofs.Tryz.f20.results.toList (Go.Proofs.Tryz.f20.body.getD .skip) s_eqGrs x = ((∀ (y : Unit), True → True ∧ True ∧ True ∧ True) ∧ bcase ((↑(List.length x.fst) : Int) != (↑(List.length x.snd) : Int)) (∃ (y : Unit), True ∧ false = beqGrs x.fst x.snd ∧ True) ((∃ (i : Int), ((0 : Int) ≤ i ∧ i ≤ (↑(List.length x.fst) : Int) ∧ List.take (Int.toNat i) x.fst = List.take (Int.toNat i) x.snd) ∧ (AV.sl false (0 : Nat) (2 : Nat) Gr (grA false) x.fst = AV.sl false (0 : Nat) (2 : Nat) Gr (grA false) x.fst ∧ AV.sl false (0 : Nat) (2 : Nat) Gr (grA false) x.snd = AV.sl false (0 : Nat) (2 : Nat) Gr (grA false) x.snd ∧ (0 : Int) = i ∧ True) ∧ True) ∧ ∀ (i : Int), (0 : Int) ≤ i ∧ i ≤ (↑(List.length x.fst) : Int) ∧ List.take (Int.toNat i) x.fst = List.take (Int.toNat i) x.snd → bcase (decide (i < (↑(List.length x.fst) : Int))) (true = true ∧ true = true ∧ ((0 : Int) ≤ i ∧ i < (↑(List.length x.fst) : Int)) ∧ ∀ (e : Gr), x.fst[Int.toNat i]? = some e → ((0 : Int) ≤ i ∧ i < (↑(List.length x.snd) : Int)) ∧ ∀ (e_1 : Gr), x.snd[Int.toNat i]? = some e_1 → ∃ (x_1 : Gr × Gr), (List.length x_1.fst.notes < (4611686018427387904 : Nat) ∧ List.length x_1.snd.notes < (4611686018427387904 : Nat)) ∧ AV.sl false (0 : Nat) (1 : Nat) Int intA e.notes = AV.sl false (0 : Nat) (1 : Nat) Int intA x_1.fst.notes ∧ e.member = x_1.fst.member ∧ AV.sl false (0 : Nat) (1 : Nat) Int intA e_1.notes = AV.sl false (0 : Nat) (1 : Nat) Int intA x_1.snd.notes ∧ e_1.member = x_1.snd.member ∧ ∃ (y0 : Unit), (∀ (y : Unit), True → AV.bool (beqGr x_1.fst x_1.snd) = AV.bool (beqGr x_1.fst x_1.snd)) ∧ true = true ∧ bcase (!beqGr x_1.fst x_1.snd) (∃ (y : Unit), True ∧ false = beqGrs x.fst x.snd ∧ True) (inR IntKind.i64 (i + (1 : Int)) ∧ ∃ (i' : Int), ((0 : Int) ≤ i' ∧ i' ≤ (↑(List.length x.fst) : Int) ∧ List.take (Int.toNat i') x.fst = List.take (Int.toNat i') x.snd) ∧ List.length x.fst - Int.toNat i' < List.length x.fst - Int.toNat i ∧ (AV.sl false (0 : Nat) (2 : Nat) Gr (grA false) x.fst = AV.sl false (0 : Nat) (2 : Nat) Gr (grA false) x.fst ∧ AV.sl false (0 : Nat) (2 : Nat) Gr (grA false) x.snd = AV.sl false (0 : Nat) (2 : Nat) Gr (grA false) x.snd ∧ i + (1 : Int) = i' ∧ True) ∧ True)) (∃ (y : Unit), True ∧ true = beqGrs x.fst x.snd ∧ True))) := by kernel_rfl
theorem eqGrs_ok  : Contract G Tryz.prog 20 s_eqGrs :=
  vcFun_ok (Γ := Γof [(68, 0, s_eqGr)]) (E := Eof []) (ov := false) (L := fun x => Lof ([(4,lEqGrs x)])) Tryz.func20 rfl (by decide) (Γof_ok (l := [(68, 0, s_eqGr)]) ⟨eqGr_ok, trivial⟩) fun (x : List Gr × List Gr) (hx : smallGrs x.1 ∧ smallGrs x.2) => (eqGrs_vc  x).mpr (by
  obtain ⟨h1, h2⟩ := hx; have hl1 := h1.1; have hl2 := h2.1
  (repeat' first | with_reducible rfl | exact True.intro | refine inR_i64 ?_ ?_ | with_reducible refine And.intro ?_ ?_ | with_reducible refine bcase_dec (fun _ => ?_) (fun _ => ?_) | with_reducible refine bcase_bne (fun _ => ?_) (fun _ => ?_) | with_reducible refine bcase_beq (fun _ => ?_) (fun _ => ?_) | with_reducible refine bcase_not (fun _ => ?_) (fun _ => ?_) | refine bcase_intro (fun _ => ?_) (fun _ => ?_) | refine sl_eq ?_ | refine ex_flip () ?_ ?_ | (apply ex_flip6 <;> try dsimp only) | (apply ex_flip5 <;> try dsimp only) | (apply ex_flip4 <;> try dsimp only) | (apply ex_flip3 <;> try dsimp only) | (apply ex_flip2 <;> try dsimp only) | apply ex_flip | (refine Prod.forall.2 ?_; intro _; try dsimp only) | (intro _; try dsimp only)) <;> (try dsimp only at *) <;> (try simp only [i64max, List.length_cons, List.length_nil]) <;> (try omega)
  · rename_i h; exact beqGrs_false (fun e => h (by rw [e]))
  · rfl
  · rename_i h i hi hl e he f hf hn
    exact beqGrs_false (fun e => by rw [e, hf] at he; rw [Option.some.inj he, beqGr_self] at hn; cases hn)
  · rename_i h i hi hl e he f hf hn
    exact takeEq hi.1 hi.2.2 he hf (beqGr_eq.1 hn)
  · rename_i h i hi hl e he f hf
    have := h1.2 _ (memE he); omega
  · rename_i h i hi hl e he f hf
    have := h2.2 _ (memE hf); omega
  · rename_i h i hi hl
    exact beqGrs_true (takeAll (by omega) hi.2.2 (by omega)))

theorem mk_len {k i : Int} {l : List Int} (h : 0 ≤ i ∧ i ≤ l.length) : (mkI k i.toNat ++ l.drop i.toNat).length = l.length := by rw [List.length_append, mkI_len, List.length_drop]; omega
theorem mk_set {k i : Int} {l : List Int} (h : 0 ≤ i ∧ i ≤ l.length) (hl : i < ((mkI k i.toNat ++ l.drop i.toNat).length : Int)) : (mkI k i.toNat ++ l.drop i.toNat).set i.toNat (k + i) = mkI k (i + 1).toNat ++ l.drop (i + 1).toNat := by
  rw [mk_len h] at hl
  have := @mkI_set k l i.toNat (by omega)
  rw [show ((i.toNat : Nat) : Int) = i by omega] at this
  rw [this, toNat1 h.1]
theorem mk_end {k i : Int} {l : List Int} (h : 0 ≤ i ∧ i ≤ l.length) (hl : ¬ i < ((mkI k i.toNat ++ l.drop i.toNat).length : Int)) : mkI k i.toNat ++ l.drop i.toNat = mkI k l.length := by
  rw [mk_len h] at hl
  exact mkI_full (by omega) (by omega)
theorem mk_end2 {k i : Int} {l : List Int} (h : 0 ≤ i ∧ i ≤ l.length) (hl : ¬ i < ((mkI k i.toNat ++ l.drop i.toNat).length : Int)) : k + i = k + l.length := by
  rw [mk_len h] at hl; omega
def s_markInts  : Sig := { X := List Int × Int, args := fun x => [oints x.1, .int .i64 x.2], pre := fun x => x.1.length ≤ 2 ^ 40 ∧ 0 ≤ x.2 ∧ x.2 ≤ 2 ^ 60, Y := Unit, post := fun x y => True, res := fun x y => .int .i64 (x.2 + x.1.length), outs := fun x y => [oints (mkI x.2 x.1.length), .top], keep := false, fixed := [0] }
theorem markInts_vc (x : List Int × Int) : vcFun Go.Proofs.Tryz.prog (Γof []) (Eof []) false (Lof ([(2,{ ι := Int, inv := fun i => 0 ≤ i ∧ i ≤ x.1.length, regs := fun i => [(0, oints (mkI x.2 i.toNat ++ x.1.drop i.toNat)), (1, .int .i64 (x.2 + i)), (5, .int .i64 i)], als := [], meas := fun i => x.1.length - i.toNat })])) Go.Proofs.Tryz.f39.ntmps Go.Proofs.Tryz.f39.results.toList (Go.Proofs.Tryz.f39.body.getD .skip) s_markInts x = ((∀ (y : Unit), True → True ∧ (∀ (x : Int), True ∧ True) ∧ True ∧ True) ∧ (∃ (i : Int), ((0 : Int) ≤ i ∧ i ≤ (↑(List.length x.fst) : Int)) ∧ (AV.sl true (0 : Nat) (1 : Nat) Int intA x.fst = AV.sl true (0 : Nat) (1 : Nat) Int intA (mkI x.snd (Int.toNat i) ++ List.drop (Int.toNat i) x.fst) ∧ x.snd = x.snd + i ∧ (0 : Int) = i ∧ True) ∧ True) ∧ ∀ (i : Int), (0 : Int) ≤ i ∧ i ≤ (↑(List.length x.fst) : Int) → bcase (decide (i < (↑(List.length (mkI x.snd (Int.toNat i) ++ List.drop (Int.toNat i) x.fst)) : Int))) (((0 : Int) ≤ i ∧ i < (↑(List.length (mkI x.snd (Int.toNat i) ++ List.drop (Int.toNat i) x.fst)) : Int)) ∧ Int.toNat i < List.length (mkI x.snd (Int.toNat i) ++ List.drop (Int.toNat i) x.fst) ∧ ∀ (x_1 : Int), (mkI x.snd (Int.toNat i) ++ List.drop (Int.toNat i) x.fst)[Int.toNat i]? = some x_1 → ∃ (x' : Int), ((@List.nil AV) = [] ∧ (@List.nil AV) = []) ∧ x.snd + i = x' ∧ inR IntKind.i64 (x.snd + i + (1 : Int)) ∧ inR IntKind.i64 (i + (1 : Int)) ∧ ∃ (i' : Int), ((0 : Int) ≤ i' ∧ i' ≤ (↑(List.length x.fst) : Int)) ∧ List.length x.fst - Int.toNat i' < List.length x.fst - Int.toNat i ∧ (AV.sl true (0 : Nat) (1 : Nat) Int intA (List.set (mkI x.snd (Int.toNat i) ++ List.drop (Int.toNat i) x.fst) (Int.toNat i) x') = AV.sl true (0 : Nat) (1 : Nat) Int intA (mkI x.snd (Int.toNat i') ++ List.drop (Int.toNat i') x.fst) ∧ x.snd + i + (1 : Int) = x.snd + i' ∧ i + (1 : Int) = i' ∧ True) ∧ True) (∃ (y : Unit), True ∧ x.snd + i = x.snd + (↑(List.length x.fst) : Int) ∧ AV.sl true (0 : Nat) (1 : Nat) Int intA (mkI x.snd (Int.toNat i) ++ List.drop (Int.toNat i) x.fst) = AV.sl true (0 : Nat) (1 : Nat) Int intA (mkI x.snd (List.length x.fst)) ∧ True)) := by kernel_rfl
theorem markInts_ok  : Contract G Tryz.prog 39 s_markInts :=
  vcFun_ok (Γ := Γof []) (E := Eof []) (ov := false) (L := fun x => Lof ([(2,{ ι := Int, inv := fun i => 0 ≤ i ∧ i ≤ x.1.length, regs := fun i => [(0, oints (mkI x.2 i.toNat ++ x.1.drop i.toNat)), (1, .int .i64 (x.2 + i)), (5, .int .i64 i)], als := [], meas := fun i => x.1.length - i.toNat })])) Tryz.func39 rfl (by decide) (Γof_ok (l := []) trivial) fun (x : List Int × Int) (hx : x.1.length ≤ 2 ^ 40 ∧ 0 ≤ x.2 ∧ x.2 ≤ 2 ^ 60) => (markInts_vc  x).mpr (by
  obtain ⟨h1, h2, h3⟩ := hx
  (repeat' first | with_reducible rfl | exact True.intro | refine inR_i64 ?_ ?_ | with_reducible refine And.intro ?_ ?_ | with_reducible refine bcase_dec (fun _ => ?_) (fun _ => ?_) | with_reducible refine bcase_bne (fun _ => ?_) (fun _ => ?_) | with_reducible refine bcase_beq (fun _ => ?_) (fun _ => ?_) | with_reducible refine bcase_not (fun _ => ?_) (fun _ => ?_) | refine bcase_intro (fun _ => ?_) (fun _ => ?_) | refine sl_eq ?_ | refine ex_flip () ?_ ?_ | (apply ex_flip6 <;> try dsimp only) | (apply ex_flip5 <;> try dsimp only) | (apply ex_flip4 <;> try dsimp only) | (apply ex_flip3 <;> try dsimp only) | (apply ex_flip2 <;> try dsimp only) | apply ex_flip | (refine Prod.forall.2 ?_; intro _; try dsimp only) | (intro _; try dsimp only))
  all_goals first
    | rfl
    | (simp [mkI]; done)
    | exact mk_set (by assumption) (by assumption)
    | exact mk_end (by assumption) (by assumption)
    | exact mk_end2 (by assumption) (by assumption)
    | ((try simp only [i64max]); omega)
    | (have hi := (show (0 : Int) ≤ _ ∧ _ ≤ (x.1.length : Int) by assumption); have hl := @mk_len x.2 _ x.1 hi; (try simp only [i64max]); omega)
    | skip)

def s_heldInts  : Sig := { X := List Int × Int, args := fun x => [ints x.1, .int .i64 x.2], pre := fun x => x.1 = mkI x.2 x.1.length ∧ x.1.length ≤ 2 ^ 40 ∧ 0 ≤ x.2 ∧ x.2 ≤ 2 ^ 60, Y := Unit, post := fun x y => True, res := fun x y => .int .i64 (x.2 + x.1.length), outs := fun x y => [.top, .top], keep := false }
theorem heldInts_vc (x : List Int × Int) : vcFun Go.Proofs.Tryz.prog (Γof []) (Eof []) false (Lof ([(2,{ ι := Int, inv := fun i => 0 ≤ i ∧ i ≤ x.1.length, regs := fun i => [(0, ints x.1), (1, .int .i64 (x.2 + i)), (5, .int .i64 i)], als := [], meas := fun i => x.1.length - i.toNat })])) Go.Proofs.Tryz.f60.ntmps Go.Proofs.Tryz.f60.results.toList (Go.Proofs.Tryz.f60.body.getD .skip) s_heldInts x = ((∀ (y : Unit), True → True ∧ True ∧ True ∧ True) ∧ (∃ (i : Int), ((0 : Int) ≤ i ∧ i ≤ (↑(List.length x.fst) : Int)) ∧ (AV.sl false (0 : Nat) (1 : Nat) Int intA x.fst = AV.sl false (0 : Nat) (1 : Nat) Int intA x.fst ∧ x.snd = x.snd + i ∧ (0 : Int) = i ∧ True) ∧ True) ∧ ∀ (i : Int), (0 : Int) ≤ i ∧ i ≤ (↑(List.length x.fst) : Int) → bcase (decide (i < (↑(List.length x.fst) : Int))) (((0 : Int) ≤ i ∧ i < (↑(List.length x.fst) : Int)) ∧ ∀ (e : Int), x.fst[Int.toNat i]? = some e → bcase (e != x.snd + i) (∃ (y : Unit), True ∧ (-1 : Int) = x.snd + (↑(List.length x.fst) : Int) ∧ True) (inR IntKind.i64 (x.snd + i + (1 : Int)) ∧ inR IntKind.i64 (i + (1 : Int)) ∧ ∃ (i' : Int), ((0 : Int) ≤ i' ∧ i' ≤ (↑(List.length x.fst) : Int)) ∧ List.length x.fst - Int.toNat i' < List.length x.fst - Int.toNat i ∧ (AV.sl false (0 : Nat) (1 : Nat) Int intA x.fst = AV.sl false (0 : Nat) (1 : Nat) Int intA x.fst ∧ x.snd + i + (1 : Int) = x.snd + i' ∧ i + (1 : Int) = i' ∧ True) ∧ True)) (∃ (y : Unit), True ∧ x.snd + i = x.snd + (↑(List.length x.fst) : Int) ∧ True)) := by kernel_rfl
theorem heldInts_ok  : Contract G Tryz.prog 60 s_heldInts :=
  vcFun_ok (Γ := Γof []) (E := Eof []) (ov := false) (L := fun x => Lof ([(2,{ ι := Int, inv := fun i => 0 ≤ i ∧ i ≤ x.1.length, regs := fun i => [(0, ints x.1), (1, .int .i64 (x.2 + i)), (5, .int .i64 i)], als := [], meas := fun i => x.1.length - i.toNat })])) Tryz.func60 rfl (by decide) (Γof_ok (l := []) trivial) fun (x : List Int × Int) (hx : x.1 = mkI x.2 x.1.length ∧ x.1.length ≤ 2 ^ 40 ∧ 0 ≤ x.2 ∧ x.2 ≤ 2 ^ 60) => (heldInts_vc  x).mpr (by
  obtain ⟨h0, h1, h2, h3⟩ := hx
  have hat : ∀ {i v : Int}, 0 ≤ i → x.1[i.toNat]? = some v → v = x.2 + i := by
    intro i v hi hv
    have hl := (getE hv).1
    rw [h0, mkI_at hl] at hv
    simp only [Option.some.injEq] at hv; omega
  (repeat' first | with_reducible rfl | exact True.intro | refine inR_i64 ?_ ?_ | with_reducible refine And.intro ?_ ?_ | with_reducible refine bcase_dec (fun _ => ?_) (fun _ => ?_) | with_reducible refine bcase_bne (fun _ => ?_) (fun _ => ?_) | with_reducible refine bcase_beq (fun _ => ?_) (fun _ => ?_) | with_reducible refine bcase_not (fun _ => ?_) (fun _ => ?_) | refine bcase_intro (fun _ => ?_) (fun _ => ?_) | refine sl_eq ?_ | refine ex_flip () ?_ ?_ | (apply ex_flip6 <;> try dsimp only) | (apply ex_flip5 <;> try dsimp only) | (apply ex_flip4 <;> try dsimp only) | (apply ex_flip3 <;> try dsimp only) | (apply ex_flip2 <;> try dsimp only) | apply ex_flip | (refine Prod.forall.2 ?_; intro _; try dsimp only) | (intro _; try dsimp only))
  all_goals try (have hv := hat (show 0 ≤ _ from And.left (by assumption)) (by assumption))
  all_goals first
    | rfl
    | ((try simp only [i64max]); omega)
    | skip)

def mkB (l : List Gr) : Prop := l.length ≤ 12 ∧ ∀ g ∈ l, g.notes.length ≤ 12
theorem mkB_tot {l : List Gr} {i : Nat} (h : mkB l) : 0 ≤ totG (l.take i) ∧ totG (l.take i) ≤ 200 := by
  have := @totG_bd (l.take i) 12 fun g hg => h.2 g (List.mem_of_mem_take hg)
  have h2 : (l.take i).length ≤ 12 := by rw [List.length_take]; have := h.1; omega
  omega
def mgI (l : List Gr) (i : Int) : Prop := mkB l ∧ 0 ≤ i ∧ i ≤ l.length
theorem mgI_len {k i : Int} {l : List Gr} (h : mgI l i) : (mkGs k (l.take i.toNat) ++ l.drop i.toNat).length = l.length := by
  obtain ⟨_, h1, h2⟩ := h
  rw [List.length_append, mkGs_len, List.length_take, List.length_drop]; omega
theorem mgI_at {k i : Int} {l : List Gr} {g : Gr} (h : mgI l i) (hg : (mkGs k (l.take i.toNat) ++ l.drop i.toNat)[i.toNat]? = some g) : l[i.toNat]? = some g := by
  have hlt := (getE hg).1
  rw [mgI_len h] at hlt
  have hl : (mkGs k (l.take i.toNat)).length = i.toNat := by rw [mkGs_len, List.length_take]; omega
  rw [List.getElem?_append_right (by omega), hl, Nat.sub_self] at hg
  simpa using hg
theorem mgI_g {k i : Int} {l : List Gr} {g : Gr} (h : mgI l i) (hg : (mkGs k (l.take i.toNat) ++ l.drop i.toNat)[i.toNat]? = some g) : g.notes.length ≤ 12 := h.1.2 g (memE (mgI_at h hg))
theorem mg_set1 {l : List Gr} {i : Nat} {a b : Gr} (h : i < l.length) : (l.set i a)[i]? = some b ↔ a = b := by
  rw [List.getElem?_set_self h]; simp
theorem mg_set2 {l : List Gr} {i : Nat} {a b : Gr} : (l.set i a).set i b = l.set i b := List.set_set ..
theorem mg_step {k i : Int} {l : List Gr} {g b : Gr} (h : mgI l i) (hg : (mkGs k (l.take i.toNat) ++ l.drop i.toNat)[i.toNat]? = some g) (hb : b = mkG (k + totG (l.take i.toNat)) g) :
    (mkGs k (l.take i.toNat) ++ l.drop i.toNat).set i.toNat b = mkGs k (l.take (i + 1).toNat) ++ l.drop (i + 1).toNat := by
  rw [hb, mkGs_set (mgI_at h hg), toNat1 h.2.1]
theorem mg_tot {k i : Int} {l : List Gr} {g : Gr} (h : mgI l i) (hg : (mkGs k (l.take i.toNat) ++ l.drop i.toNat)[i.toNat]? = some g) : k + totG (l.take i.toNat) + g.notes.length + 1 = k + totG (l.take (i + 1).toNat) := by
  rw [toNat1 h.2.1, takeE (mgI_at h hg), totG_snoc]; omega
theorem mg_end {k i : Int} {l : List Gr} (h : mgI l i) (hl : ¬ i < ((mkGs k (l.take i.toNat) ++ l.drop i.toNat).length : Int)) : mkGs k (l.take i.toNat) ++ l.drop i.toNat = mkGs k l ∧ k + totG (l.take i.toNat) = k + totG l := by
  rw [mgI_len h] at hl
  rw [List.take_of_length_le (by omega), List.drop_eq_nil_of_le (by omega)]; simp
theorem mg_set2' {k i : Int} {l : List Gr} {g b c : Gr} (h : mgI l i) (hg : (mkGs k (l.take i.toNat) ++ l.drop i.toNat)[i.toNat]? = some g) (hb : b = mkG (k + totG (l.take i.toNat)) g) :
    ((mkGs k (l.take i.toNat) ++ l.drop i.toNat).set i.toNat c).set i.toNat b = mkGs k (l.take (i + 1).toNat) ++ l.drop (i + 1).toNat := by
  rw [mg_set2]; exact mg_step h hg hb
theorem mg_set3 {k i : Int} {l : List Gr} {g c b : Gr} (h : mgI l i) (hg : (mkGs k (l.take i.toNat) ++ l.drop i.toNat)[i.toNat]? = some g) (hb : ((mkGs k (l.take i.toNat) ++ l.drop i.toNat).set i.toNat c)[i.toNat]? = some b) : c = b :=
  (mg_set1 (getE hg).1).1 hb
theorem mgI_tot {i : Int} {l : List Gr} (h : mgI l i) : 0 ≤ totG (l.take i.toNat) ∧ totG (l.take i.toNat) ≤ 200 := mkB_tot h.1
def lMkGrs (x : List Gr × Int) : LS := {
  ι := Int, inv := mgI x.1, regs := fun i => [(0, ogrs (mkGs x.2 (x.1.take i.toNat) ++ x.1.drop i.toNat)), (1, .int .i64 (x.2 + totG (x.1.take i.toNat))), (5, .int .i64 i)], als := [], meas := fun i => x.1.length - i.toNat }
def s_markGrs  : Sig := { X := List Gr × Int, args := fun x => [ogrs x.1, .int .i64 x.2], pre := fun x => mkB x.1 ∧ 0 ≤ x.2 ∧ x.2 ≤ 2 ^ 50, Y := Unit, post := fun x y => True, res := fun x y => .int .i64 (x.2 + totG x.1), outs := fun x y => [ogrs (mkGs x.2 x.1), .top], keep := false, fixed := [0] }
theorem markGrs_vc (x : List Gr × Int) : vcFun Go.Proofs.Tryz.prog (Γof [(39, 0, s_markInts)]) (Eof []) false (Lof ([(2,lMkGrs x)])) Go.Proofs.Tryz.f21.ntmps Go.Proofs.Tryz.f21.results.toList (Go.Proofs.Tryz.f21.body.getD .skip) s_markGrs x = ((∀ (y : Unit), True → True ∧ (∀ (x : Gr), (∀ (x : Int), True ∧ True) ∧ True ∧ True) ∧ True ∧ True) ∧ (∃ (i : Int), mgI x.fst i ∧ (AV.sl true (0 : Nat) (2 : Nat) Gr (grA true) x.fst = AV.sl true (0 : Nat) (2 : Nat) Gr (grA true) (mkGs x.snd (List.take (Int.toNat i) x.fst) ++ List.drop (Int.toNat i) x.fst) ∧ x.snd = x.snd + totG (List.take (Int.toNat i) x.fst) ∧ (0 : Int) = i ∧ True) ∧ True) ∧ ∀ (i : Int), mgI x.fst i → bcase (decide (i < (↑(List.length (mkGs x.snd (List.take (Int.toNat i) x.fst) ++ List.drop (Int.toNat i) x.fst)) : Int))) (((0 : Int) ≤ i ∧ i < (↑(List.length (mkGs x.snd (List.take (Int.toNat i) x.fst) ++ List.drop (Int.toNat i) x.fst)) : Int)) ∧ Int.toNat i < List.length (mkGs x.snd (List.take (Int.toNat i) x.fst) ++ List.drop (Int.toNat i) x.fst) ∧ ∀ (z : Gr), (mkGs x.snd (List.take (Int.toNat i) x.fst) ++ List.drop (Int.toNat i) x.fst)[Int.toNat i]? = some z → ∃ (x_1 : List Int × Int), (List.length x_1.fst ≤ (1099511627776 : Nat) ∧ (0 : Int) ≤ x_1.snd ∧ x_1.snd ≤ (2 : Int) ^ (60 : Nat)) ∧ AV.sl true (0 : Nat) (1 : Nat) Int intA z.notes = AV.sl true (0 : Nat) (1 : Nat) Int intA x_1.fst ∧ x.snd + totG (List.take (Int.toNat i) x.fst) = x_1.snd ∧ ∀ (y : Unit), True → ∃ (z' : Gr), [AV.sl true (0 : Nat) (1 : Nat) Int intA z'.notes, AV.int IntKind.i64 z'.member] = [AV.sl true (0 : Nat) (1 : Nat) Int intA (mkI x_1.snd (List.length x_1.fst)), AV.int IntKind.i64 z.member] ∧ ((0 : Int) ≤ i ∧ i < (↑(List.length (List.set (mkGs x.snd (List.take (Int.toNat i) x.fst) ++ List.drop (Int.toNat i) x.fst) (Int.toNat i) z')) : Int)) ∧ Int.toNat i < List.length (List.set (mkGs x.snd (List.take (Int.toNat i) x.fst) ++ List.drop (Int.toNat i) x.fst) (Int.toNat i) z') ∧ ∀ (x_2 : Gr), (List.set (mkGs x.snd (List.take (Int.toNat i) x.fst) ++ List.drop (Int.toNat i) x.fst) (Int.toNat i) z')[Int.toNat i]? = some x_2 → ∃ (x' : Gr), ([AV.sl true (0 : Nat) (1 : Nat) Int intA x'.notes] = [AV.sl true (0 : Nat) (1 : Nat) Int intA x_2.notes] ∧ (@List.nil AV) = []) ∧ x_1.snd + (↑(List.length x_1.fst) : Int) = x'.member ∧ inR IntKind.i64 (x_1.snd + (↑(List.length x_1.fst) : Int) + (1 : Int)) ∧ inR IntKind.i64 (i + (1 : Int)) ∧ ∃ (i' : Int), mgI x.fst i' ∧ List.length x.fst - Int.toNat i' < List.length x.fst - Int.toNat i ∧ (AV.sl true (0 : Nat) (2 : Nat) Gr (grA true) (List.set (List.set (mkGs x.snd (List.take (Int.toNat i) x.fst) ++ List.drop (Int.toNat i) x.fst) (Int.toNat i) z') (Int.toNat i) x') = AV.sl true (0 : Nat) (2 : Nat) Gr (grA true) (mkGs x.snd (List.take (Int.toNat i') x.fst) ++ List.drop (Int.toNat i') x.fst) ∧ x_1.snd + (↑(List.length x_1.fst) : Int) + (1 : Int) = x.snd + totG (List.take (Int.toNat i') x.fst) ∧ i + (1 : Int) = i' ∧ True) ∧ True) (∃ (y : Unit), True ∧ x.snd + totG (List.take (Int.toNat i) x.fst) = x.snd + totG x.fst ∧ AV.sl true (0 : Nat) (2 : Nat) Gr (grA true) (mkGs x.snd (List.take (Int.toNat i) x.fst) ++ List.drop (Int.toNat i) x.fst) = AV.sl true (0 : Nat) (2 : Nat) Gr (grA true) (mkGs x.snd x.fst) ∧ True)) := by kernel_rfl
theorem markGrs_ok  : Contract G Tryz.prog 21 s_markGrs :=
  vcFun_ok (Γ := Γof [(39, 0, s_markInts)]) (E := Eof []) (ov := false) (L := fun x => Lof ([(2,lMkGrs x)])) Tryz.func21 rfl (by decide) (Γof_ok (l := [(39, 0, s_markInts)]) ⟨markInts_ok, trivial⟩) fun (x : List Gr × Int) (hx : mkB x.1 ∧ 0 ≤ x.2 ∧ x.2 ≤ 2 ^ 50) => (markGrs_vc  x).mpr (by
  obtain ⟨h1, h2, h3⟩ := hx
  (repeat' first | refine ex_gr (mkI _ _) _ rfl ?_ | refine ex_gr2 _ _ ⟨rfl, ?_⟩ ⟨rfl, rfl⟩ | with_reducible rfl | exact True.intro | refine inR_i64 ?_ ?_ | with_reducible refine And.intro ?_ ?_ | with_reducible refine bcase_dec (fun _ => ?_) (fun _ => ?_) | with_reducible refine bcase_bne (fun _ => ?_) (fun _ => ?_) | with_reducible refine bcase_beq (fun _ => ?_) (fun _ => ?_) | with_reducible refine bcase_not (fun _ => ?_) (fun _ => ?_) | refine bcase_intro (fun _ => ?_) (fun _ => ?_) | refine sl_eq ?_ | refine ex_flip () ?_ ?_ | (apply ex_flip6 <;> try dsimp only) | (apply ex_flip5 <;> try dsimp only) | (apply ex_flip4 <;> try dsimp only) | (apply ex_flip3 <;> try dsimp only) | (apply ex_flip2 <;> try dsimp only) | apply ex_flip | (refine Prod.forall.2 ?_; intro _; try dsimp only) | (intro _; try dsimp only))
  all_goals try (have e := mg_set3 (show mgI _ _ by assumption) (show (mkGs _ _ ++ _)[Int.toNat _]? = some _ by assumption) (show (List.set _ _ _)[_]? = some _ by assumption); subst e)
  all_goals first
    | rfl
    | exact ⟨h1, by omega, by omega⟩
    | (simp [totG, mkGs]; done)
    | exact (show mgI _ _ by assumption).2.1
    | exact mg_tot (by assumption) (by assumption)
    | exact (mg_end (by assumption) (by assumption)).1
    | exact (mg_end (by assumption) (by assumption)).2
    | exact mg_set2' (by assumption) (by assumption) rfl
    | (have hi := (show mgI _ _ by assumption); have hl := @mgI_len x.2 _ x.1 hi; exact ⟨h1, by have := hi.2.1; omega, by have := hi.2.2; omega⟩)
    | (have hi := (show mgI _ _ by assumption); have hl := @mgI_len x.2 _ x.1 hi; have hg := mgI_g hi (show (mkGs _ _ ++ _)[Int.toNat _]? = some _ by assumption); (try dsimp only); omega)
    | (have hi := (show mgI _ _ by assumption); have hl := @mgI_len x.2 _ x.1 hi; have ht := mgI_tot hi; have := hi.2.1; have := hi.2.2; have hg := mgI_g hi (show (mkGs _ _ ++ _)[Int.toNat _]? = some _ by assumption); (try rw [List.length_set]); (try simp only [i64max]); omega)
    | (have hi := (show mgI _ _ by assumption); have hl := @mgI_len x.2 _ x.1 hi; have := hi.2.1; have := hi.2.2; have := h1.1; (try rw [List.length_set]); (try simp only [i64max]); omega)
    | skip)

def hgI (k : Int) (l : List Gr) (i : Int) : Prop := (mkB l ∧ l = mkGs k l) ∧ 0 ≤ i ∧ i ≤ l.length
theorem hgI_at {k i : Int} {l : List Gr} {g : Gr} (h : hgI k l i) (hg : l[i.toNat]? = some g) : g = mkG (k + totG (l.take i.toNat)) g := by
  have h1 : (mkGs k l)[i.toNat]? = some g := by rw [← h.1.2]; exact hg
  have h2 := mkGs_at (k := k) hg
  rw [h1] at h2; exact Option.some.inj h2
theorem hgI_1 {k i : Int} {l : List Gr} {g : Gr} (h : hgI k l i) (hg : l[i.toNat]? = some g) : g.notes = mkI (k + totG (l.take i.toNat)) g.notes.length ∧ g.member = k + totG (l.take i.toNat) + g.notes.length := by
  have h2 := hgI_at h hg
  have h3 := congrArg Gr.notes h2; have h4 := congrArg Gr.member h2
  exact ⟨h3, h4⟩
theorem hgI_tot {k i : Int} {l : List Gr} {g : Gr} (h : hgI k l i) (hg : l[i.toNat]? = some g) : k + totG (l.take i.toNat) + g.notes.length + 1 = k + totG (l.take (i + 1).toNat) := by
  rw [toNat1 h.2.1, takeE hg, totG_snoc]; omega
theorem hgI_bd {k i : Int} {l : List Gr} (h : hgI k l i) : (0 ≤ totG (l.take i.toNat) ∧ totG (l.take i.toNat) ≤ 200) ∧ l.length ≤ 12 := ⟨mkB_tot h.1.1, h.1.1.1⟩
theorem hgI_nt {k i : Int} {l : List Gr} {g : Gr} (h : hgI k l i) (hg : l[i.toNat]? = some g) : g.notes.length ≤ 12 := h.1.1.2 g (memE hg)
theorem hgI_end {k i : Int} {l : List Gr} (h : hgI k l i) (hl : ¬ i < l.length) : k + totG (l.take i.toNat) = k + totG l := by
  rw [List.take_of_length_le (by have := h.2.2; omega)]
def lHdGrs (x : List Gr × Int) : LS := {
  ι := Int, inv := hgI x.2 x.1, regs := fun i => [(0, grs x.1), (1, .int .i64 (x.2 + totG (x.1.take i.toNat))), (5, .int .i64 i)], als := [], meas := fun i => x.1.length - i.toNat }
def s_heldGrs  : Sig := { X := List Gr × Int, args := fun x => [grs x.1, .int .i64 x.2], pre := fun x => (mkB x.1 ∧ x.1 = mkGs x.2 x.1) ∧ 0 ≤ x.2 ∧ x.2 ≤ 2 ^ 50, Y := Unit, post := fun x y => True, res := fun x y => .int .i64 (x.2 + totG x.1), outs := fun x y => [.top, .top], keep := false }
theorem heldGrs_vc (x : List Gr × Int) : vcFun Go.Proofs.Tryz.prog (Γof [(60, 0, s_heldInts)]) (Eof []) false (Lof ([(2,lHdGrs x)])) Go.Proofs.Tryz.f22.ntmps Go.Proofs.Tryz.f22.results.toList (Go.Proofs.Tryz.f22.body.getD .skip) s_heldGrs x = ((∀ (y : Unit), True → True ∧ True ∧ True ∧ True) ∧ (∃ (i : Int), hgI x.snd x.fst i ∧ (AV.sl false (0 : Nat) (2 : Nat) Gr (grA false) x.fst = AV.sl false (0 : Nat) (2 : Nat) Gr (grA false) x.fst ∧ x.snd = x.snd + totG (List.take (Int.toNat i) x.fst) ∧ (0 : Int) = i ∧ True) ∧ True) ∧ ∀ (i : Int), hgI x.snd x.fst i → bcase (decide (i < (↑(List.length x.fst) : Int))) (((0 : Int) ≤ i ∧ i < (↑(List.length x.fst) : Int)) ∧ ∀ (e : Gr), x.fst[Int.toNat i]? = some e → ∃ (x_1 : List Int × Int), (x_1.fst = mkI x_1.snd (List.length x_1.fst) ∧ List.length x_1.fst ≤ (1099511627776 : Nat) ∧ (0 : Int) ≤ x_1.snd ∧ x_1.snd ≤ (2 : Int) ^ (60 : Nat)) ∧ AV.sl false (0 : Nat) (1 : Nat) Int intA e.notes = AV.sl false (0 : Nat) (1 : Nat) Int intA x_1.fst ∧ x.snd + totG (List.take (Int.toNat i) x.fst) = x_1.snd ∧ ∀ (y : Unit), True → bcase (decide (x_1.snd + (↑(List.length x_1.fst) : Int) < (0 : Int))) (∃ (y : Unit), True ∧ (-1 : Int) = x.snd + totG x.fst ∧ True) (((0 : Int) ≤ i ∧ i < (↑(List.length x.fst) : Int)) ∧ ∀ (e : Gr), x.fst[Int.toNat i]? = some e → bcase (e.member != x_1.snd + (↑(List.length x_1.fst) : Int)) (∃ (y : Unit), True ∧ (-1 : Int) = x.snd + totG x.fst ∧ True) (inR IntKind.i64 (x_1.snd + (↑(List.length x_1.fst) : Int) + (1 : Int)) ∧ inR IntKind.i64 (i + (1 : Int)) ∧ ∃ (i' : Int), hgI x.snd x.fst i' ∧ List.length x.fst - Int.toNat i' < List.length x.fst - Int.toNat i ∧ (AV.sl false (0 : Nat) (2 : Nat) Gr (grA false) x.fst = AV.sl false (0 : Nat) (2 : Nat) Gr (grA false) x.fst ∧ x_1.snd + (↑(List.length x_1.fst) : Int) + (1 : Int) = x.snd + totG (List.take (Int.toNat i') x.fst) ∧ i + (1 : Int) = i' ∧ True) ∧ True))) (∃ (y : Unit), True ∧ x.snd + totG (List.take (Int.toNat i) x.fst) = x.snd + totG x.fst ∧ True)) := by kernel_rfl
theorem heldGrs_ok  : Contract G Tryz.prog 22 s_heldGrs :=
  vcFun_ok (Γ := Γof [(60, 0, s_heldInts)]) (E := Eof []) (ov := false) (L := fun x => Lof ([(2,lHdGrs x)])) Tryz.func22 rfl (by decide) (Γof_ok (l := [(60, 0, s_heldInts)]) ⟨heldInts_ok, trivial⟩) fun (x : List Gr × Int) (hx : (mkB x.1 ∧ x.1 = mkGs x.2 x.1) ∧ 0 ≤ x.2 ∧ x.2 ≤ 2 ^ 50) => (heldGrs_vc  x).mpr (by
  obtain ⟨h1, h2, h3⟩ := hx
  (repeat' first | with_reducible rfl | exact True.intro | refine inR_i64 ?_ ?_ | with_reducible refine And.intro ?_ ?_ | with_reducible refine bcase_dec (fun _ => ?_) (fun _ => ?_) | with_reducible refine bcase_bne (fun _ => ?_) (fun _ => ?_) | with_reducible refine bcase_beq (fun _ => ?_) (fun _ => ?_) | with_reducible refine bcase_not (fun _ => ?_) (fun _ => ?_) | refine bcase_intro (fun _ => ?_) (fun _ => ?_) | refine sl_eq ?_ | refine ex_flip () ?_ ?_ | (apply ex_flip6 <;> try dsimp only) | (apply ex_flip5 <;> try dsimp only) | (apply ex_flip4 <;> try dsimp only) | (apply ex_flip3 <;> try dsimp only) | (apply ex_flip2 <;> try dsimp only) | apply ex_flip | (refine Prod.forall.2 ?_; intro _; try dsimp only) | (intro _; try dsimp only))
  all_goals (repeat (rename x.1[Int.toNat _]? = some _ => hq; revert hq; rename x.1[Int.toNat _]? = some _ => hr; intro hq; rw [hr] at hq; cases hq))
  all_goals first
    | rfl
    | exact ⟨h1, by omega, by omega⟩
    | (simp [totG]; done)
    | exact (show hgI _ _ _ by assumption).2.1
    | exact hgI_tot (by assumption) (by assumption)
    | exact hgI_end (by assumption) (by assumption)
    | exact (hgI_1 (by assumption) (by assumption)).1
    | (have hi := (show hgI _ _ _ by assumption); exact ⟨h1, by have := hi.2.1; omega, by have := hi.2.2; omega⟩)
    | (have hi := (show hgI _ _ _ by assumption); have hb := hgI_bd hi; have := hi.2.1; have := hi.2.2; (try simp only [i64max]); omega)
    | (have hi := (show hgI _ _ _ by assumption); have hb := hgI_bd hi; have hn := hgI_nt hi (by assumption); have hm := (hgI_1 hi (by assumption)).2; have := hi.2.1; have := hi.2.2; (try simp only [i64max]); omega)
    | skip)

theorem gText {l : List Nd} (h : ¬ szNds l 1048576 < 0) {e : Nd} (he : e ∈ l) : e.text.length ≤ 1099511627776 := by have := gB2 h he; omega
end Go.My
end
section
/- Marks of nodes. -/
set_option linter.unusedVariables false
set_option linter.unusedSimpArgs false
namespace Go.My
open Go.Eng Go.Proofs
variable {G : GInv}

/- marks of nodes: what they are does not matter -/
def digs : Nat → Nat → List UInt8
  | 0, _ => []
  | n + 1, k => if k = 0 then [] else digs n (k / 10) ++ [UInt8.ofNat (48 + k % 10)]
def mText (k : Int) : List UInt8 := if k ≤ 0 then [109, 48] else 109 :: digs 64 k.toNat
theorem digs_len : ∀ {n k : Nat}, (digs n k).length ≤ n
  | 0, k => Nat.le_refl _
  | n + 1, k => by
    unfold digs; split
    · simp
    · have := @digs_len n (k / 10); simp; omega
theorem digs_eq : ∀ {n m k : Nat}, k < 10 ^ n → k < 10 ^ m → digs n k = digs m k
  | 0, 0, k, _, _ => rfl
  | 0, m + 1, k, h, _ => by
    have : k = 0 := by simp at h; exact h
    subst this; simp [digs]
  | n + 1, 0, k, _, h => by
    have : k = 0 := by simp at h; exact h
    subst this; simp [digs]
  | n + 1, m + 1, k, h1, h2 => by
    simp only [digs]
    split
    · rfl
    · rw [digs_eq (n := n) (m := m) (by rw [Nat.pow_succ] at h1; omega) (by rw [Nat.pow_succ] at h2; omega)]
def mdI (k0 k : Int) (out : List UInt8) : Prop := (0 ≤ k ∧ k ≤ k0 ∧ k0 ≤ 2 ^ 60) ∧ digs 64 k.toNat ++ out = digs 64 k0.toNat
theorem mdI_init {k : Int} (h : ¬ k ≤ 0) (h2 : k ≤ 2 ^ 60) : mdI k k [] := ⟨by omega, by simp⟩
theorem mdI_next {k0 k : Int} {out : List UInt8} {c : UInt8} (h : mdI k0 k out) (hk : k > 0) (hc : 48 + k.tmod 10 = (c.toNat : Int)) : mdI k0 (k.tdiv 10) ([c] ++ out) := by
  obtain ⟨h1, h2⟩ := h
  have e1 : k.tdiv 10 = k / 10 := Int.tdiv_eq_ediv_of_nonneg (by omega)
  have e2 : k.tmod 10 = k % 10 := Int.tmod_eq_emod_of_nonneg (by omega)
  rw [e1]; rw [e2] at hc
  refine ⟨by omega, ?_⟩
  rw [← h2]
  have e3 : (k / 10).toNat = k.toNat / 10 := by omega
  have e4 : c = UInt8.ofNat (48 + k.toNat % 10) := by
    apply UInt8.toNat_inj.1
    have : (48 + k.toNat % 10) % 256 = 48 + k.toNat % 10 := by omega
    simp; omega
  have e5 : digs 64 k.toNat = digs 63 (k.toNat / 10) ++ [UInt8.ofNat (48 + k.toNat % 10)] := by
    rw [digs, if_neg (by omega)]
  rw [e3, e5, e4, digs_eq (n := 64) (m := 63) (by omega) (by omega)]; simp
theorem mdI_done {k0 k : Int} {out : List UInt8} (h : mdI k0 k out) (hk : ¬ k > 0) : out = digs 64 k0.toNat := by
  obtain ⟨h1, h2⟩ := h
  obtain rfl : k = 0 := by omega
  rw [← h2]; simp [digs]
theorem mdI_len {k0 k : Int} {out : List UInt8} (h : mdI k0 k out) : out.length ≤ 64 := by
  have := congrArg List.length h.2
  have h2 := @digs_len 64 k0.toNat
  simp at this; omega
theorem mdI_0 {k0 k : Int} {out : List UInt8} (h : mdI k0 k out) (hk : k > 0) : 0 ≤ k.tmod 10 ∧ k.tmod 10 < 10 ∧ 0 ≤ k.tdiv 10 ∧ k.tdiv 10 < k ∧ k ≤ 2 ^ 60 := by
  have e1 : k.tdiv 10 = k / 10 := Int.tdiv_eq_ediv_of_nonneg (by omega)
  have e2 : k.tmod 10 = k % 10 := Int.tmod_eq_emod_of_nonneg (by omega)
  have := h.1
  rw [e1, e2]; omega
theorem inR_u8 {n : Int} (h1 : 0 ≤ n) (h2 : n ≤ 255) : inR .u8 n := by
  unfold inR; simp [IntKind.min, IntKind.max, IntKind.bits, IntKind.signed]; omega
theorem u8_of {n : Int} (h0 : 0 ≤ n) (h1 : n < 256) : ∃ c : UInt8, n = (c.toNat : Int) := ⟨UInt8.ofNat n.toNat, by
  have : n.toNat % 256 = n.toNat := by omega
  simp; omega⟩
theorem ex_u8 {n : Int} {q : UInt8 → Prop} (h0 : 0 ≤ n) (h1 : n < 256) (h : ∀ c : UInt8, n = (c.toNat : Int) → q c) : ∃ c : UInt8, n = (c.toNat : Int) ∧ q c := by
  obtain ⟨c, hc⟩ := u8_of h0 h1
  exact ⟨c, hc, h c hc⟩
def s_markText  : Sig := { X := Int, args := fun x => [.int .i64 x], pre := fun x => x ≤ 2 ^ 60, Y := Unit, post := fun x y => True, res := fun x y => .str (mText x), outs := fun x y => [.top], keep := false }
theorem markText_vc (x : Int) : vcFun Go.Proofs.Tryz.prog (Γof []) (Eof [(135, ⟨UInt8,bytA⟩)]) false (Lof ([(4,{ ι := Int × List UInt8, inv := fun i => mdI x i.1 i.2, regs := fun i => [(0, .int .i64 i.1), (3, .str i.2)], als := [], meas := fun i => i.1.toNat })])) Go.Proofs.Tryz.f59.ntmps Go.Proofs.Tryz.f59.results.toList (Go.Proofs.Tryz.f59.body.getD .skip) s_markText x = ((∀ (y : Unit), True → True ∧ True ∧ True) ∧ bcase (decide (x ≤ (0 : Int))) (∃ (y : Unit), True ∧ #[(109 : UInt8), (48 : UInt8)].toList = mText x ∧ True) ((∃ (i : Int × List UInt8), mdI x i.fst i.snd ∧ (x = i.fst ∧ #[].toList = i.snd ∧ True) ∧ True) ∧ ∀ (i : Int × List UInt8), mdI x i.fst i.snd → bcase (decide (i.fst > (0 : Int))) ((10 : Int) ≠ (0 : Int) ∧ inR IntKind.i64 ((48 : Int) + Int.tmod i.fst (10 : Int)) ∧ inR IntKind.u8 ((48 : Int) + Int.tmod i.fst (10 : Int)) ∧ ∃ (x_1 : UInt8), (48 : Int) + Int.tmod i.fst (10 : Int) = (↑(UInt8.toNat x_1) : Int) ∧ ∃ (l : List UInt8), AV.sl false (0 : Nat) (1 : Nat) UInt8 bytA [x_1] = AV.sl false (0 : Nat) (1 : Nat) UInt8 bytA l ∧ (↑(List.length l + List.length i.snd) : Int) ≤ IntKind.max IntKind.i64 ∧ (10 : Int) ≠ (0 : Int) ∧ inR IntKind.i64 (Int.tdiv i.fst (10 : Int)) ∧ ∃ (i' : Int × List UInt8), mdI x i'.fst i'.snd ∧ Int.toNat i'.fst < Int.toNat i.fst ∧ (Int.tdiv i.fst (10 : Int) = i'.fst ∧ l ++ i.snd = i'.snd ∧ True) ∧ True) ((↑((1 : Nat) + List.length i.snd) : Int) ≤ IntKind.max IntKind.i64 ∧ ∃ (y : Unit), True ∧ #[(109 : UInt8)].toList ++ i.snd = mText x ∧ True))) := by kernel_rfl
theorem markText_ok  : Contract G Tryz.prog 59 s_markText :=
  vcFun_ok (Γ := Γof []) (E := Eof [(135, ⟨UInt8,bytA⟩)]) (ov := false) (L := fun x => Lof ([(4,{ ι := Int × List UInt8, inv := fun i => mdI x i.1 i.2, regs := fun i => [(0, .int .i64 i.1), (3, .str i.2)], als := [], meas := fun i => i.1.toNat })])) Tryz.func59 rfl (by decide) (Γof_ok (l := []) trivial) fun (x : Int) (hx : x ≤ 2 ^ 60) => (markText_vc  x).mpr (by
  have hx : x ≤ 2 ^ 60 := hx
  (repeat' first | refine ex_u8 ?_ ?_ ?_ | with_reducible rfl | exact True.intro | refine inR_i64 ?_ ?_ | with_reducible refine And.intro ?_ ?_ | with_reducible refine bcase_dec (fun _ => ?_) (fun _ => ?_) | with_reducible refine bcase_bne (fun _ => ?_) (fun _ => ?_) | with_reducible refine bcase_beq (fun _ => ?_) (fun _ => ?_) | with_reducible refine bcase_not (fun _ => ?_) (fun _ => ?_) | refine bcase_intro (fun _ => ?_) (fun _ => ?_) | refine sl_eq ?_ | refine ex_flip () ?_ ?_ | (apply ex_flip6 <;> try dsimp only) | (apply ex_flip5 <;> try dsimp only) | (apply ex_flip4 <;> try dsimp only) | (apply ex_flip3 <;> try dsimp only) | (apply ex_flip2 <;> try dsimp only) | apply ex_flip | (refine Prod.forall.2 ?_; intro _; try dsimp only) | (intro _; try dsimp only))
  all_goals first
    | rfl
    | (simp [mText, *]; done)
    | exact mdI_init (by assumption) hx
    | exact mdI_next (by assumption) (by assumption) (by assumption)
    | (rw [mdI_done (by assumption) (by assumption), mText, if_neg (by assumption)]; rfl)
    | (have h0 := mdI_0 (by assumption) (by assumption); exact inR_u8 (by omega) (by omega))
    | (have h0 := mdI_0 (by assumption) (by assumption); have h1 := mdI_len (by assumption); (try simp only [i64max, List.length_cons, List.length_nil]); omega)
    | (have h1 := mdI_len (by assumption); (try simp only [i64max, List.length_cons, List.length_nil]); omega)
    | skip
  have hd := mdI_done (show mdI _ _ _ by assumption) (by assumption)
  rw [hd, mText, if_neg (by assumption)]
  rfl)

section
variable {α : Type}
def gTot (sz : α → Nat) : List α → Int
  | [] => 0
  | g :: l => sz g + gTot sz l
def gMk (mk : Int → α → α) (sz : α → Nat) (k : Int) : List α → List α
  | [] => []
  | g :: l => mk k g :: gMk mk sz (k + sz g) l
variable {mk : Int → α → α} {sz : α → Nat}
theorem gTot_snoc : ∀ {l : List α} {g : α}, gTot sz (l ++ [g]) = gTot sz l + sz g
  | [], g => by simp [gTot]
  | x :: l, g => by simp only [List.cons_append, gTot]; rw [gTot_snoc]; omega
theorem gMk_snoc : ∀ {l : List α} {g : α} {k : Int}, gMk mk sz k (l ++ [g]) = gMk mk sz k l ++ [mk (k + gTot sz l) g]
  | [], g, k => by simp [gMk, gTot]
  | x :: l, g, k => by
    simp only [List.cons_append, gMk, gTot]; rw [gMk_snoc]
    rw [show k + (sz x : Int) + gTot sz l = k + (sz x + gTot sz l) by omega]
theorem gMk_len : ∀ {l : List α} {k : Int}, (gMk mk sz k l).length = l.length
  | [], k => rfl
  | x :: l, k => by simp [gMk, gMk_len]
theorem gMk_at : ∀ {l : List α} {k : Int} {i : Nat} {g : α}, l[i]? = some g → (gMk mk sz k l)[i]? = some (mk (k + gTot sz (l.take i)) g)
  | [], k, i, g, h => by simp at h
  | x :: l, k, 0, g, h => by simp at h; subst h; simp [gMk, gTot]
  | x :: l, k, i + 1, g, h => by
    simp only [gMk, List.getElem?_cons_succ, List.take_succ_cons, gTot] at h ⊢
    rw [gMk_at h]; congr 2; omega
theorem gTot_bd : ∀ {l : List α} {n : Nat}, (∀ g ∈ l, sz g ≤ n) → 0 ≤ gTot sz l ∧ gTot sz l ≤ l.length * n
  | [], n, h => by simp [gTot]
  | x :: l, n, h => by
    have h1 := h x (by simp)
    have h2 := gTot_bd (l := l) (n := n) fun g hg => h g (by simp [hg])
    rw [gTot, List.length_cons]
    have e : ((l.length + 1 : Nat) : Int) * (n : Int) = l.length * n + n := by rw [Int.natCast_add, Int.add_mul]; simp
    rw [e]; omega
theorem gMk_set {l : List α} {k : Int} {i : Nat} {g : α} (h : l[i]? = some g) : (gMk mk sz k (l.take i) ++ l.drop i).set i (mk (k + gTot sz (l.take i)) g) = gMk mk sz k (l.take (i + 1)) ++ l.drop (i + 1) := by
  have hi := (getE h).1
  have e : (gMk mk sz k (l.take i)).length = i := by rw [gMk_len, List.length_take]; omega
  rw [List.set_append_right _ _ (by rw [e]; exact Nat.le_refl i), e, Nat.sub_self, dropE h, List.set_cons_zero, takeE h, gMk_snoc]
  simp
theorem gset {L : List α} {i : Nat} {a b : α} (hb : (L.set i a)[i]? = some b) : a = b := by
  rw [List.getElem?_set] at hb
  split at hb
  · split at hb
    · exact Option.some.inj hb
    · cases hb
  · rename_i h; exact (h rfl).elim
/- the state while marks are written -/
def gSt (mk : Int → α → α) (sz : α → Nat) (k : Int) (l : List α) (i : Int) : List α := gMk mk sz k (l.take i.toNat) ++ l.drop i.toNat
def qgB (sz : α → Nat) (l : List α) : Prop := l.length ≤ 1048576 ∧ ∀ g ∈ l, sz g ≤ 1048600
def qgI (sz : α → Nat) (l : List α) (i : Int) : Prop := qgB sz l ∧ 0 ≤ i ∧ i ≤ l.length
theorem gSt_len {k i : Int} {l : List α} (h : qgI sz l i) : (gSt mk sz k l i).length = l.length := by
  have := h.2
  rw [gSt, List.length_append, gMk_len, List.length_take, List.length_drop]; omega
theorem gSt_at {k i : Int} {l : List α} {g : α} (h : qgI sz l i) (hg : (gSt mk sz k l i)[i.toNat]? = some g) : l[i.toNat]? = some g := by
  have hlt := (getE hg).1
  rw [gSt_len h] at hlt
  have hl : (gMk mk sz k (l.take i.toNat)).length = i.toNat := by rw [gMk_len, List.length_take]; omega
  rw [gSt, List.getElem?_append_right (by omega), hl, Nat.sub_self] at hg
  simpa using hg
theorem qgI_tot {i : Int} {l : List α} (h : qgI sz l i) : 0 ≤ gTot sz (l.take i.toNat) ∧ gTot sz (l.take i.toNat) ≤ 2000000000000 := by
  have h1 := @gTot_bd _ sz (l.take i.toNat) 1048600 fun g hg => h.1.2 g (List.mem_of_mem_take hg)
  have h2 : (l.take i.toNat).length ≤ 1048576 := by rw [List.length_take]; have := h.1.1; omega
  omega
theorem gSt_end {k i : Int} {l : List α} (h : qgI sz l i) (hl : ¬ i < ((gSt mk sz k l i).length : Int)) : gSt mk sz k l i = gMk mk sz k l ∧ k + gTot sz (l.take i.toNat) = k + gTot sz l := by
  rw [gSt_len h] at hl
  rw [gSt, List.take_of_length_le (by omega), List.drop_eq_nil_of_le (by omega)]; simp
theorem gSt_0 {k : Int} {l : List α} : l = gSt mk sz k l 0 := by simp [gSt, gMk]
theorem gSt_step {k i : Int} {l : List α} {g b : α} (h : qgI sz l i) (hg : (gSt mk sz k l i)[i.toNat]? = some g) (hb : b = mk (k + gTot sz (l.take i.toNat)) g) : (gSt mk sz k l i).set i.toNat b = gSt mk sz k l (i + 1) := by
  rw [hb, gSt, gMk_set (gSt_at h hg), gSt, toNat1 h.2.1]
theorem gTot_step {k i : Int} {l : List α} {g : α} (h : qgI sz l i) (hg : (gSt mk sz k l i)[i.toNat]? = some g) : k + gTot sz (l.take (i + 1).toNat) = k + gTot sz (l.take i.toNat) + sz g := by
  rw [toNat1 h.2.1, takeE (gSt_at h hg), gTot_snoc]; omega
theorem qgI_sz {k i : Int} {l : List α} {g : α} (h : qgI sz l i) (hg : (gSt mk sz k l i)[i.toNat]? = some g) : sz g ≤ 1048600 := h.1.2 g (memE (gSt_at h hg))
theorem qgI_next {k i : Int} {l : List α} {g : α} (h : qgI sz l i) (hg : (gSt mk sz k l i)[i.toNat]? = some g) : qgI sz l (i + 1) := by
  have := (getE (gSt_at h hg)).1
  exact ⟨h.1, by have := h.2.1; omega, by have := h.2.1; omega⟩
/- held -/
def qhI (mk : Int → α → α) (sz : α → Nat) (k : Int) (l : List α) (i : Int) : Prop := l = gMk mk sz k l ∧ qgI sz l i
theorem qhI_at {k i : Int} {l : List α} {g : α} (h : qhI mk sz k l i) (hg : l[i.toNat]? = some g) : g = mk (k + gTot sz (l.take i.toNat)) g := by
  have h1 : (gMk mk sz k l)[i.toNat]? = some g := by rw [← h.1]; exact hg
  have h2 := gMk_at (mk := mk) (sz := sz) (k := k) hg
  rw [h1] at h2; exact Option.some.inj h2
theorem qhI_step {k i : Int} {l : List α} {g : α} (h : qhI mk sz k l i) (hg : l[i.toNat]? = some g) : k + gTot sz (l.take (i + 1).toNat) = k + gTot sz (l.take i.toNat) + sz g := by
  rw [toNat1 h.2.2.1, takeE hg, gTot_snoc]; omega
theorem qhI_next {k i : Int} {l : List α} {g : α} (h : qhI mk sz k l i) (hg : l[i.toNat]? = some g) : qhI mk sz k l (i + 1) := by
  have := (getE hg).1
  exact ⟨h.1, h.2.1, by have := h.2.2.1; omega, by have := h.2.2.1; omega⟩
theorem qhI_sz {k i : Int} {l : List α} {g : α} (h : qhI mk sz k l i) (hg : l[i.toNat]? = some g) : sz g ≤ 1048600 := h.2.1.2 g (memE hg)
theorem qhI_end {k i : Int} {l : List α} (h : qhI mk sz k l i) (hl : ¬ i < (l.length : Int)) : k + gTot sz (l.take i.toNat) = k + gTot sz l := by
  rw [List.take_of_length_le (by have := h.2.2.2; omega)]
theorem gMk_idem (hs : ∀ k g, sz (mk k g) = sz g) (hm : ∀ k g, mk k (mk k g) = mk k g) : ∀ {l : List α} {k : Int}, gMk mk sz k (gMk mk sz k l) = gMk mk sz k l ∧ gTot sz (gMk mk sz k l) = gTot sz l
  | [], k => ⟨rfl, rfl⟩
  | g :: l, k => by
    simp only [gMk, gTot, hs, hm]
    have := @gMk_idem hs hm l (k + sz g)
    rw [this.1, this.2]; exact ⟨rfl, rfl⟩
theorem gMk_mem (hs : ∀ k g, sz (mk k g) = sz g) : ∀ {l : List α} {k : Int} {n : Nat}, (∀ g ∈ l, sz g ≤ n) → ∀ g ∈ gMk mk sz k l, sz g ≤ n
  | [], k, n, h, g, hg => by cases hg
  | x :: l, k, n, h, g, hg => by
    rcases List.mem_cons.1 hg with e | e
    · rw [e, hs]; exact h x (by simp)
    · exact gMk_mem hs (fun y hy => h y (by simp [hy])) g e
theorem gB_mk (hs : ∀ k g, sz (mk k g) = sz g) {l : List α} {k : Int} (h : qgB sz l) : qgB sz (gMk mk sz k l) := ⟨by rw [gMk_len]; exact h.1, gMk_mem hs h.2⟩
end
def mkN (k : Int) (x : Nd) : Nd := ⟨k, mText (k + 1), mkI (k + 1 + 1) x.kids.length, (k + 1 + 1 + x.kids.length).tmod 3 == 0⟩
def szN (x : Nd) : Nat := x.kids.length + 3
theorem szN_mk (k : Int) (x : Nd) : szN (mkN k x) = szN x := by simp [szN, mkN, mkI_len]
theorem mkN_mk (k : Int) (x : Nd) : mkN k (mkN k x) = mkN k x := by simp [mkN, mkI_len]
def lMkNs (x : List Nd × Int) : LS := {
  ι := Int, inv := qgI szN x.1, regs := fun i => [(0, onds (gSt mkN szN x.2 x.1 i)), (1, .int .i64 (x.2 + gTot szN (x.1.take i.toNat))), (5, .int .i64 i)], als := [], meas := fun i => x.1.length - i.toNat }
def s_markNds  : Sig := { X := List Nd × Int, args := fun x => [onds x.1, .int .i64 x.2], pre := fun x => qgB szN x.1 ∧ 0 ≤ x.2 ∧ x.2 ≤ 2 ^ 50, Y := Unit, post := fun x y => True, res := fun x y => .int .i64 (x.2 + gTot szN x.1), outs := fun x y => [onds (gMk mkN szN x.2 x.1), .top], keep := false, fixed := [0] }
theorem markNds_vc (x : List Nd × Int) : vcFun Go.Proofs.Tryz.prog (Γof [(39, 0, s_markInts), (59, 0, s_markText)]) (Eof []) false (Lof ([(2,lMkNs x)])) Go.Proofs.Tryz.f16.ntmps Go.Proofs.Tryz.f16.results.toList (Go.Proofs.Tryz.f16.body.getD .skip) s_markNds x = ((∀ (y : Unit), True → True ∧ (∀ (x : Nd), True ∧ True ∧ (∀ (x : Int), True ∧ True) ∧ True ∧ True) ∧ True ∧ True) ∧ (∃ (i : Int), qgI szN x.fst i ∧ (AV.sl true (0 : Nat) (4 : Nat) Nd (ndA true) x.fst = AV.sl true (0 : Nat) (4 : Nat) Nd (ndA true) (gSt mkN szN x.snd x.fst i) ∧ x.snd = x.snd + gTot szN (List.take (Int.toNat i) x.fst) ∧ (0 : Int) = i ∧ True) ∧ True) ∧ ∀ (i : Int), qgI szN x.fst i → bcase (decide (i < (↑(List.length (gSt mkN szN x.snd x.fst i)) : Int))) (((0 : Int) ≤ i ∧ i < (↑(List.length (gSt mkN szN x.snd x.fst i)) : Int)) ∧ Int.toNat i < List.length (gSt mkN szN x.snd x.fst i) ∧ ∀ (x_1 : Nd), (gSt mkN szN x.snd x.fst i)[Int.toNat i]? = some x_1 → ∃ (x' : Nd), ((@List.nil AV) = [] ∧ [AV.str x'.text, AV.sl true (0 : Nat) (1 : Nat) Int intA x'.kids, AV.bool x'.blank] = [AV.str x_1.text, AV.sl true (0 : Nat) (1 : Nat) Int intA x_1.kids, AV.bool x_1.blank]) ∧ x.snd + gTot szN (List.take (Int.toNat i) x.fst) = x'.kind ∧ inR IntKind.i64 (x.snd + gTot szN (List.take (Int.toNat i) x.fst) + (1 : Int)) ∧ ∃ (x_2 : Int), x_2 ≤ (2 : Int) ^ (60 : Nat) ∧ x.snd + gTot szN (List.take (Int.toNat i) x.fst) + (1 : Int) = x_2 ∧ ∀ (y : Unit), True → ((0 : Int) ≤ i ∧ i < (↑(List.length (List.set (gSt mkN szN x.snd x.fst i) (Int.toNat i) x')) : Int)) ∧ Int.toNat i < List.length (List.set (gSt mkN szN x.snd x.fst i) (Int.toNat i) x') ∧ ∀ (x_3 : Nd), (List.set (gSt mkN szN x.snd x.fst i) (Int.toNat i) x')[Int.toNat i]? = some x_3 → ∃ (x'_1 : Nd), ([AV.int IntKind.i64 x'_1.kind] = [AV.int IntKind.i64 x_3.kind] ∧ [AV.sl true (0 : Nat) (1 : Nat) Int intA x'_1.kids, AV.bool x'_1.blank] = [AV.sl true (0 : Nat) (1 : Nat) Int intA x_3.kids, AV.bool x_3.blank]) ∧ mText x_2 = x'_1.text ∧ inR IntKind.i64 (x.snd + gTot szN (List.take (Int.toNat i) x.fst) + (1 : Int) + (1 : Int)) ∧ ((0 : Int) ≤ i ∧ i < (↑(List.length (List.set (List.set (gSt mkN szN x.snd x.fst i) (Int.toNat i) x') (Int.toNat i) x'_1)) : Int)) ∧ Int.toNat i < List.length (List.set (List.set (gSt mkN szN x.snd x.fst i) (Int.toNat i) x') (Int.toNat i) x'_1) ∧ ∀ (z : Nd), (List.set (List.set (gSt mkN szN x.snd x.fst i) (Int.toNat i) x') (Int.toNat i) x'_1)[Int.toNat i]? = some z → ∃ (x_4 : List Int × Int), (List.length x_4.fst ≤ (1099511627776 : Nat) ∧ (0 : Int) ≤ x_4.snd ∧ x_4.snd ≤ (2 : Int) ^ (60 : Nat)) ∧ AV.sl true (0 : Nat) (1 : Nat) Int intA z.kids = AV.sl true (0 : Nat) (1 : Nat) Int intA x_4.fst ∧ x.snd + gTot szN (List.take (Int.toNat i) x.fst) + (1 : Int) + (1 : Int) = x_4.snd ∧ ∀ (y : Unit), True → ∃ (z' : Nd), [AV.int IntKind.i64 z'.kind, AV.str z'.text, AV.sl true (0 : Nat) (1 : Nat) Int intA z'.kids, AV.bool z'.blank] = [AV.int IntKind.i64 z.kind, AV.str z.text, AV.sl true (0 : Nat) (1 : Nat) Int intA (mkI x_4.snd (List.length x_4.fst)), AV.bool z.blank] ∧ (3 : Int) ≠ (0 : Int) ∧ ((0 : Int) ≤ i ∧ i < (↑(List.length (List.set (List.set (List.set (gSt mkN szN x.snd x.fst i) (Int.toNat i) x') (Int.toNat i) x'_1) (Int.toNat i) z')) : Int)) ∧ Int.toNat i < List.length (List.set (List.set (List.set (gSt mkN szN x.snd x.fst i) (Int.toNat i) x') (Int.toNat i) x'_1) (Int.toNat i) z') ∧ ∀ (x_5 : Nd), (List.set (List.set (List.set (gSt mkN szN x.snd x.fst i) (Int.toNat i) x') (Int.toNat i) x'_1) (Int.toNat i) z')[Int.toNat i]? = some x_5 → ∃ (x'_2 : Nd), ([AV.int IntKind.i64 x'_2.kind, AV.str x'_2.text, AV.sl true (0 : Nat) (1 : Nat) Int intA x'_2.kids] = [AV.int IntKind.i64 x_5.kind, AV.str x_5.text, AV.sl true (0 : Nat) (1 : Nat) Int intA x_5.kids] ∧ (@List.nil AV) = []) ∧ (Int.tmod (x_4.snd + (↑(List.length x_4.fst) : Int)) (3 : Int) == (0 : Int)) = x'_2.blank ∧ inR IntKind.i64 (x_4.snd + (↑(List.length x_4.fst) : Int) + (1 : Int)) ∧ inR IntKind.i64 (i + (1 : Int)) ∧ ∃ (i' : Int), qgI szN x.fst i' ∧ List.length x.fst - Int.toNat i' < List.length x.fst - Int.toNat i ∧ (AV.sl true (0 : Nat) (4 : Nat) Nd (ndA true) (List.set (List.set (List.set (List.set (gSt mkN szN x.snd x.fst i) (Int.toNat i) x') (Int.toNat i) x'_1) (Int.toNat i) z') (Int.toNat i) x'_2) = AV.sl true (0 : Nat) (4 : Nat) Nd (ndA true) (gSt mkN szN x.snd x.fst i') ∧ x_4.snd + (↑(List.length x_4.fst) : Int) + (1 : Int) = x.snd + gTot szN (List.take (Int.toNat i') x.fst) ∧ i + (1 : Int) = i' ∧ True) ∧ True) (∃ (y : Unit), True ∧ x.snd + gTot szN (List.take (Int.toNat i) x.fst) = x.snd + gTot szN x.fst ∧ AV.sl true (0 : Nat) (4 : Nat) Nd (ndA true) (gSt mkN szN x.snd x.fst i) = AV.sl true (0 : Nat) (4 : Nat) Nd (ndA true) (gMk mkN szN x.snd x.fst) ∧ True)) := by kernel_rfl
theorem markNds_ok  : Contract G Tryz.prog 16 s_markNds :=
  vcFun_ok (Γ := Γof [(39, 0, s_markInts), (59, 0, s_markText)]) (E := Eof []) (ov := false) (L := fun x => Lof ([(2,lMkNs x)])) Tryz.func16 rfl (by decide) (Γof_ok (l := [(39, 0, s_markInts), (59, 0, s_markText)]) ⟨markInts_ok, markText_ok, trivial⟩) fun (x : List Nd × Int) (hx : qgB szN x.1 ∧ 0 ≤ x.2 ∧ x.2 ≤ 2 ^ 50) => (markNds_vc  x).mpr (by
  obtain ⟨h1, h2, h3⟩ := hx
  (repeat' first | refine ex_nd _ _ (mkI _ _) _ rfl ?_ | refine ex_nd2 _ (mText _) _ _ ⟨rfl, ?_⟩ ⟨rfl, rfl⟩ | refine ex_nd2 _ _ _ _ ⟨rfl, ?_⟩ ⟨rfl, rfl⟩ | with_reducible rfl | exact True.intro | refine inR_i64 ?_ ?_ | with_reducible refine And.intro ?_ ?_ | with_reducible refine bcase_dec (fun _ => ?_) (fun _ => ?_) | with_reducible refine bcase_bne (fun _ => ?_) (fun _ => ?_) | with_reducible refine bcase_beq (fun _ => ?_) (fun _ => ?_) | with_reducible refine bcase_not (fun _ => ?_) (fun _ => ?_) | refine bcase_intro (fun _ => ?_) (fun _ => ?_) | refine sl_eq ?_ | refine ex_flip () ?_ ?_ | (apply ex_flip6 <;> try dsimp only) | (apply ex_flip5 <;> try dsimp only) | (apply ex_flip4 <;> try dsimp only) | (apply ex_flip3 <;> try dsimp only) | (apply ex_flip2 <;> try dsimp only) | apply ex_flip | (refine Prod.forall.2 ?_; intro _; try dsimp only) | (intro _; try dsimp only))
  all_goals (repeat (rename (List.set _ _ _)[_]? = some _ => hq; have e := gset hq; clear hq; subst e))
  all_goals (try (rename Nd => zz; obtain ⟨_, _, _, _⟩ := zz; dsimp only at *))
  all_goals (try simp only [List.length_set, List.set_set])
  all_goals first
    | rfl
    | exact gSt_0
    | exact ⟨h1, by omega, by omega⟩
    | (simp [gTot]; done)
    | exact (show qgI _ _ _ by assumption).2.1
    | assumption
    | exact (gSt_end (by assumption) (by assumption)).1
    | exact (gSt_end (by assumption) (by assumption)).2
    | exact gSt_step (by assumption) (by assumption) rfl
    | exact qgI_next (by assumption) (by assumption)
    | (have ht := gTot_step (k := x.2) (show qgI _ _ _ by assumption) (by assumption); rw [ht]; simp [szN]; omega)
    | (have hi := (show qgI _ _ _ by assumption); have hl := @gSt_len _ mkN szN x.2 _ _ hi; have ht := qgI_tot hi; have := hi.2.1; have := hi.2.2; have := h1.1; (try simp only [i64max]); omega)
    | (have hi := (show qgI _ _ _ by assumption); have hl := @gSt_len _ mkN szN x.2 _ _ hi; have ht := qgI_tot hi; have := hi.2.1; have := hi.2.2; have hg := qgI_sz hi (by assumption); simp only [szN] at hg; have := h1.1; (try simp only [i64max]); omega)
    | skip)

end Go.My
end
section
/- Signs: the laws' helpers, and the teller's small steps. -/
set_option linter.unusedVariables false
set_option linter.unusedSimpArgs false
namespace Go.My
open Go.Eng Go.Proofs
variable {G : GInv}

theorem ex_sgp {a : Int} {b : List UInt8} {c : Int} {d : Bool} {q : Sg → Prop} (h : q ⟨a, b, c, d⟩) : ∃ x : Sg, a = x.kind ∧ b = x.text ∧ c = x.pos ∧ d = x.blank ∧ q x := ⟨⟨a, b, c, d⟩, rfl, rfl, rfl, rfl, h⟩
theorem ex_sg2 {p q : Sg → Prop} (a : Int) (b : List UInt8) (c : Int) (d : Bool) (h2 : q ⟨a, b, c, d⟩) (h1 : p ⟨a, b, c, d⟩) : ∃ x, p x ∧ q x := ⟨_, h1, h2⟩
def beqSg (a b : Sg) : Bool := a.kind == b.kind && (a.text == b.text && (a.pos == b.pos && a.blank == b.blank))
theorem beqSg_eq {a b : Sg} : beqSg a b = true ↔ a = b := by
  cases a; cases b; simp [beqSg]
theorem beqSg_self (a : Sg) : beqSg a a = true := beqSg_eq.2 rfl
def beqSgs : List Sg → List Sg → Bool
  | [], [] => true
  | a :: l, b :: m => beqSg a b && beqSgs l m
  | _, _ => false
theorem beqSgs_eq : ∀ {a b : List Sg}, beqSgs a b = true ↔ a = b
  | [], [] => by simp [beqSgs]
  | [], _ :: _ => by simp [beqSgs]
  | _ :: _, [] => by simp [beqSgs]
  | a :: l, b :: m => by simp [beqSgs, beqSg_eq, beqSgs_eq (a := l) (b := m)]
theorem beqSgs_false {a b : List Sg} (h : a ≠ b) : false = beqSgs a b := by
  cases hb : beqSgs a b
  · rfl
  · exact (h (beqSgs_eq.1 hb)).elim
theorem beqSgs_true {a b : List Sg} (h : a = b) : true = beqSgs a b := (beqSgs_eq.2 h).symm
theorem beqSgs_self (a : List Sg) : beqSgs a a = true := beqSgs_eq.2 rfl
theorem fz_sgs {l : List Sg} : AV.sl false 0 4 Sg (fun x => fzL (sgA x)) l = AV.sl false 0 4 Sg sgA l := rfl
def s_eqSg  : Sig := { X := Sg × Sg, args := fun x => [.agg (sgA x.1), .agg (sgA x.2)], pre := fun x => True, Y := Unit, post := fun x y => True, res := fun x y => .bool (beqSg x.1 x.2), outs := fun x y => [.top, .top], keep := false }
theorem eqSg_vc (x : Sg × Sg) : vcFun Go.Proofs.Tryz.prog (Γof []) (Eof []) false (Lof ([])) Go.Proofs.Tryz.f71.ntmps Go.Proofs.Tryz.f71.results.toList (Go.Proofs.Tryz.f71.body.getD .skip) s_eqSg x = ((∀ (y : Unit), True → True ∧ True ∧ True ∧ True) ∧ bcase (x.fst.kind != x.snd.kind) (∃ (y : Unit), True ∧ false = beqSg x.fst x.snd ∧ True) (bcase (!x.fst.text == x.snd.text) (∃ (y : Unit), True ∧ false = beqSg x.fst x.snd ∧ True) (bcase (x.fst.pos != x.snd.pos) (∃ (y : Unit), True ∧ false = beqSg x.fst x.snd ∧ True) (bcase (!x.fst.blank == x.snd.blank) (∃ (y : Unit), True ∧ false = beqSg x.fst x.snd ∧ True) (∃ (y : Unit), True ∧ true = beqSg x.fst x.snd ∧ True))))) := by kernel_rfl
theorem eqSg_ok  : Contract G Tryz.prog 71 s_eqSg :=
  vcFun_ok (Γ := Γof []) (E := Eof []) (ov := false) (L := fun x => Lof ([])) Tryz.func71 rfl (by decide) (Γof_ok (l := []) trivial) fun (x : Sg × Sg) (hx : True) => (eqSg_vc  x).mpr (by
  (repeat' first | with_reducible rfl | exact True.intro | refine inR_i64 ?_ ?_ | with_reducible refine And.intro ?_ ?_ | with_reducible refine bcase_dec (fun _ => ?_) (fun _ => ?_) | with_reducible refine bcase_bne (fun _ => ?_) (fun _ => ?_) | with_reducible refine bcase_beq (fun _ => ?_) (fun _ => ?_) | with_reducible refine bcase_not (fun _ => ?_) (fun _ => ?_) | refine bcase_intro (fun _ => ?_) (fun _ => ?_) | refine sl_eq ?_ | refine ex_flip () ?_ ?_ | (apply ex_flip6 <;> try dsimp only) | (apply ex_flip5 <;> try dsimp only) | (apply ex_flip4 <;> try dsimp only) | (apply ex_flip3 <;> try dsimp only) | (apply ex_flip2 <;> try dsimp only) | apply ex_flip | (refine Prod.forall.2 ?_; intro _; try dsimp only) | (intro _; try dsimp only)) <;> (try dsimp only at *) <;> (try simp only [i64max, List.length_cons, List.length_nil]) <;> (try omega)
  all_goals simp [beqSg, *])

def s_eqSgs  : Sig := { X := List Sg × List Sg, args := fun x => [sgs x.1, sgs x.2], pre := fun x => x.1.length < 2 ^ 62 ∧ x.2.length < 2 ^ 62, Y := Unit, post := fun x y => True, res := fun x y => .bool (beqSgs x.1 x.2), outs := fun x y => [.top, .top], keep := false }
theorem eqSgs_vc (x : List Sg × List Sg) : vcFun Go.Proofs.Tryz.prog (Γof [(71, 0, s_eqSg)]) (Eof []) false (Lof ([(4,{ ι := Int, inv := fun i => 0 ≤ i ∧ i ≤ x.1.length ∧ x.1.take i.toNat = x.2.take i.toNat, regs := fun i => [(0, sgs x.1), (1, sgs x.2), (5, .int .i64 i)], als := [], meas := fun i => x.1.length - i.toNat })])) Go.Proofs.Tryz.f25.ntmps Go.Proofs.Tryz.f25.results.toList (Go.Proofs.Tryz.f25.body.getD .skip) s_eqSgs x = ((∀ (y : Unit), True → True ∧ True ∧ True ∧ True) ∧ bcase ((↑(List.length x.fst) : Int) != (↑(List.length x.snd) : Int)) (∃ (y : Unit), True ∧ false = beqSgs x.fst x.snd ∧ True) ((∃ (i : Int), ((0 : Int) ≤ i ∧ i ≤ (↑(List.length x.fst) : Int) ∧ List.take (Int.toNat i) x.fst = List.take (Int.toNat i) x.snd) ∧ (AV.sl false (0 : Nat) (4 : Nat) Sg sgA x.fst = AV.sl false (0 : Nat) (4 : Nat) Sg sgA x.fst ∧ AV.sl false (0 : Nat) (4 : Nat) Sg sgA x.snd = AV.sl false (0 : Nat) (4 : Nat) Sg sgA x.snd ∧ (0 : Int) = i ∧ True) ∧ True) ∧ ∀ (i : Int), (0 : Int) ≤ i ∧ i ≤ (↑(List.length x.fst) : Int) ∧ List.take (Int.toNat i) x.fst = List.take (Int.toNat i) x.snd → bcase (decide (i < (↑(List.length x.fst) : Int))) (true = true ∧ true = true ∧ ((0 : Int) ≤ i ∧ i < (↑(List.length x.fst) : Int)) ∧ ∀ (e : Sg), x.fst[Int.toNat i]? = some e → ((0 : Int) ≤ i ∧ i < (↑(List.length x.snd) : Int)) ∧ ∀ (e_1 : Sg), x.snd[Int.toNat i]? = some e_1 → ∃ (x_1 : Sg × Sg), True ∧ e.kind = x_1.fst.kind ∧ e.text = x_1.fst.text ∧ e.pos = x_1.fst.pos ∧ e.blank = x_1.fst.blank ∧ e_1.kind = x_1.snd.kind ∧ e_1.text = x_1.snd.text ∧ e_1.pos = x_1.snd.pos ∧ e_1.blank = x_1.snd.blank ∧ ∃ (y0 : Unit), (∀ (y : Unit), True → AV.bool (beqSg x_1.fst x_1.snd) = AV.bool (beqSg x_1.fst x_1.snd)) ∧ true = true ∧ bcase (!beqSg x_1.fst x_1.snd) (∃ (y : Unit), True ∧ false = beqSgs x.fst x.snd ∧ True) (inR IntKind.i64 (i + (1 : Int)) ∧ ∃ (i' : Int), ((0 : Int) ≤ i' ∧ i' ≤ (↑(List.length x.fst) : Int) ∧ List.take (Int.toNat i') x.fst = List.take (Int.toNat i') x.snd) ∧ List.length x.fst - Int.toNat i' < List.length x.fst - Int.toNat i ∧ (AV.sl false (0 : Nat) (4 : Nat) Sg sgA x.fst = AV.sl false (0 : Nat) (4 : Nat) Sg sgA x.fst ∧ AV.sl false (0 : Nat) (4 : Nat) Sg sgA x.snd = AV.sl false (0 : Nat) (4 : Nat) Sg sgA x.snd ∧ i + (1 : Int) = i' ∧ True) ∧ True)) (∃ (y : Unit), True ∧ true = beqSgs x.fst x.snd ∧ True))) := by kernel_rfl
theorem eqSgs_ok  : Contract G Tryz.prog 25 s_eqSgs :=
  vcFun_ok (Γ := Γof [(71, 0, s_eqSg)]) (E := Eof []) (ov := false) (L := fun x => Lof ([(4,{ ι := Int, inv := fun i => 0 ≤ i ∧ i ≤ x.1.length ∧ x.1.take i.toNat = x.2.take i.toNat, regs := fun i => [(0, sgs x.1), (1, sgs x.2), (5, .int .i64 i)], als := [], meas := fun i => x.1.length - i.toNat })])) Tryz.func25 rfl (by decide) (Γof_ok (l := [(71, 0, s_eqSg)]) ⟨eqSg_ok, trivial⟩) fun (x : List Sg × List Sg) (hx : x.1.length < 2 ^ 62 ∧ x.2.length < 2 ^ 62) => (eqSgs_vc  x).mpr (by
  obtain ⟨h1, h2⟩ := hx
  (repeat' first | with_reducible rfl | exact True.intro | refine inR_i64 ?_ ?_ | with_reducible refine And.intro ?_ ?_ | with_reducible refine bcase_dec (fun _ => ?_) (fun _ => ?_) | with_reducible refine bcase_bne (fun _ => ?_) (fun _ => ?_) | with_reducible refine bcase_beq (fun _ => ?_) (fun _ => ?_) | with_reducible refine bcase_not (fun _ => ?_) (fun _ => ?_) | refine bcase_intro (fun _ => ?_) (fun _ => ?_) | refine sl_eq ?_ | refine ex_flip () ?_ ?_ | (apply ex_flip6 <;> try dsimp only) | (apply ex_flip5 <;> try dsimp only) | (apply ex_flip4 <;> try dsimp only) | (apply ex_flip3 <;> try dsimp only) | (apply ex_flip2 <;> try dsimp only) | apply ex_flip | (refine Prod.forall.2 ?_; intro _; try dsimp only) | (intro _; try dsimp only)) <;> (try dsimp only at *) <;> (try simp only [i64max, List.length_cons, List.length_nil]) <;> (try omega)
  · rename_i h; exact beqSgs_false (fun e => h (by rw [e]))
  · rfl
  · rename_i h i hi hl e he f hf hn
    exact beqSgs_false (fun e => by rw [e, hf] at he; rw [Option.some.inj he, beqSg_self] at hn; cases hn)
  · rename_i h i hi hl e he f hf hn
    exact takeEq hi.1 hi.2.2 he hf (beqSg_eq.1 hn)
  · rename_i h i hi hl
    exact beqSgs_true (takeAll (by omega) hi.2.2 (by omega)))

def mkSg (k : Int) (x : Sg) : Sg := ⟨k, mText (k + 1), k + 1 + 1, (k + 1 + 1 + 1).tmod 3 == 0⟩
def szSg (x : Sg) : Nat := 4
theorem szSg_mk (k : Int) (x : Sg) : szSg (mkSg k x) = szSg x := rfl
theorem mkSg_mk (k : Int) (x : Sg) : mkSg k (mkSg k x) = mkSg k x := rfl
def s_markSgs  : Sig := { X := List Sg × Int, args := fun x => [osgs x.1, .int .i64 x.2], pre := fun x => qgB szSg x.1 ∧ 0 ≤ x.2 ∧ x.2 ≤ 2 ^ 50, Y := Unit, post := fun x y => True, res := fun x y => .int .i64 (x.2 + gTot szSg x.1), outs := fun x y => [osgs (gMk mkSg szSg x.2 x.1), .top], keep := false, fixed := [0] }
theorem markSgs_vc (x : List Sg × Int) : vcFun Go.Proofs.Tryz.prog (Γof [(59, 0, s_markText)]) (Eof []) false (Lof ([(2,{ ι := Int, inv := qgI szSg x.1, regs := fun i => [(0, osgs (gSt mkSg szSg x.2 x.1 i)), (1, .int .i64 (x.2 + gTot szSg (x.1.take i.toNat))), (5, .int .i64 i)], als := [], meas := fun i => x.1.length - i.toNat })])) Go.Proofs.Tryz.f26.ntmps Go.Proofs.Tryz.f26.results.toList (Go.Proofs.Tryz.f26.body.getD .skip) s_markSgs x = ((∀ (y : Unit), True → True ∧ (∀ (x : Sg), True ∧ True ∧ True ∧ True ∧ True) ∧ True ∧ True) ∧ (∃ (i : Int), qgI szSg x.fst i ∧ (AV.sl true (0 : Nat) (4 : Nat) Sg sgA x.fst = AV.sl true (0 : Nat) (4 : Nat) Sg sgA (gSt mkSg szSg x.snd x.fst i) ∧ x.snd = x.snd + gTot szSg (List.take (Int.toNat i) x.fst) ∧ (0 : Int) = i ∧ True) ∧ True) ∧ ∀ (i : Int), qgI szSg x.fst i → bcase (decide (i < (↑(List.length (gSt mkSg szSg x.snd x.fst i)) : Int))) (((0 : Int) ≤ i ∧ i < (↑(List.length (gSt mkSg szSg x.snd x.fst i)) : Int)) ∧ Int.toNat i < List.length (gSt mkSg szSg x.snd x.fst i) ∧ ∀ (x_1 : Sg), (gSt mkSg szSg x.snd x.fst i)[Int.toNat i]? = some x_1 → ∃ (x' : Sg), ((@List.nil AV) = [] ∧ [AV.str x'.text, AV.int IntKind.i64 x'.pos, AV.bool x'.blank] = [AV.str x_1.text, AV.int IntKind.i64 x_1.pos, AV.bool x_1.blank]) ∧ x.snd + gTot szSg (List.take (Int.toNat i) x.fst) = x'.kind ∧ inR IntKind.i64 (x.snd + gTot szSg (List.take (Int.toNat i) x.fst) + (1 : Int)) ∧ ∃ (x_2 : Int), x_2 ≤ (2 : Int) ^ (60 : Nat) ∧ x.snd + gTot szSg (List.take (Int.toNat i) x.fst) + (1 : Int) = x_2 ∧ ∀ (y : Unit), True → ((0 : Int) ≤ i ∧ i < (↑(List.length (List.set (gSt mkSg szSg x.snd x.fst i) (Int.toNat i) x')) : Int)) ∧ Int.toNat i < List.length (List.set (gSt mkSg szSg x.snd x.fst i) (Int.toNat i) x') ∧ ∀ (x_3 : Sg), (List.set (gSt mkSg szSg x.snd x.fst i) (Int.toNat i) x')[Int.toNat i]? = some x_3 → ∃ (x'_1 : Sg), ([AV.int IntKind.i64 x'_1.kind] = [AV.int IntKind.i64 x_3.kind] ∧ [AV.int IntKind.i64 x'_1.pos, AV.bool x'_1.blank] = [AV.int IntKind.i64 x_3.pos, AV.bool x_3.blank]) ∧ mText x_2 = x'_1.text ∧ inR IntKind.i64 (x.snd + gTot szSg (List.take (Int.toNat i) x.fst) + (1 : Int) + (1 : Int)) ∧ ((0 : Int) ≤ i ∧ i < (↑(List.length (List.set (List.set (gSt mkSg szSg x.snd x.fst i) (Int.toNat i) x') (Int.toNat i) x'_1)) : Int)) ∧ Int.toNat i < List.length (List.set (List.set (gSt mkSg szSg x.snd x.fst i) (Int.toNat i) x') (Int.toNat i) x'_1) ∧ ∀ (x_4 : Sg), (List.set (List.set (gSt mkSg szSg x.snd x.fst i) (Int.toNat i) x') (Int.toNat i) x'_1)[Int.toNat i]? = some x_4 → ∃ (x'_2 : Sg), ([AV.int IntKind.i64 x'_2.kind, AV.str x'_2.text] = [AV.int IntKind.i64 x_4.kind, AV.str x_4.text] ∧ [AV.bool x'_2.blank] = [AV.bool x_4.blank]) ∧ x.snd + gTot szSg (List.take (Int.toNat i) x.fst) + (1 : Int) + (1 : Int) = x'_2.pos ∧ inR IntKind.i64 (x.snd + gTot szSg (List.take (Int.toNat i) x.fst) + (1 : Int) + (1 : Int) + (1 : Int)) ∧ (3 : Int) ≠ (0 : Int) ∧ ((0 : Int) ≤ i ∧ i < (↑(List.length (List.set (List.set (List.set (gSt mkSg szSg x.snd x.fst i) (Int.toNat i) x') (Int.toNat i) x'_1) (Int.toNat i) x'_2)) : Int)) ∧ Int.toNat i < List.length (List.set (List.set (List.set (gSt mkSg szSg x.snd x.fst i) (Int.toNat i) x') (Int.toNat i) x'_1) (Int.toNat i) x'_2) ∧ ∀ (x_5 : Sg), (List.set (List.set (List.set (gSt mkSg szSg x.snd x.fst i) (Int.toNat i) x') (Int.toNat i) x'_1) (Int.toNat i) x'_2)[Int.toNat i]? = some x_5 → ∃ (x'_3 : Sg), ([AV.int IntKind.i64 x'_3.kind, AV.str x'_3.text, AV.int IntKind.i64 x'_3.pos] = [AV.int IntKind.i64 x_5.kind, AV.str x_5.text, AV.int IntKind.i64 x_5.pos] ∧ (@List.nil AV) = []) ∧ (Int.tmod (x.snd + gTot szSg (List.take (Int.toNat i) x.fst) + (1 : Int) + (1 : Int) + (1 : Int)) (3 : Int) == (0 : Int)) = x'_3.blank ∧ inR IntKind.i64 (x.snd + gTot szSg (List.take (Int.toNat i) x.fst) + (1 : Int) + (1 : Int) + (1 : Int) + (1 : Int)) ∧ inR IntKind.i64 (i + (1 : Int)) ∧ ∃ (i' : Int), qgI szSg x.fst i' ∧ List.length x.fst - Int.toNat i' < List.length x.fst - Int.toNat i ∧ (AV.sl true (0 : Nat) (4 : Nat) Sg sgA (List.set (List.set (List.set (List.set (gSt mkSg szSg x.snd x.fst i) (Int.toNat i) x') (Int.toNat i) x'_1) (Int.toNat i) x'_2) (Int.toNat i) x'_3) = AV.sl true (0 : Nat) (4 : Nat) Sg sgA (gSt mkSg szSg x.snd x.fst i') ∧ x.snd + gTot szSg (List.take (Int.toNat i) x.fst) + (1 : Int) + (1 : Int) + (1 : Int) + (1 : Int) = x.snd + gTot szSg (List.take (Int.toNat i') x.fst) ∧ i + (1 : Int) = i' ∧ True) ∧ True) (∃ (y : Unit), True ∧ x.snd + gTot szSg (List.take (Int.toNat i) x.fst) = x.snd + gTot szSg x.fst ∧ AV.sl true (0 : Nat) (4 : Nat) Sg sgA (gSt mkSg szSg x.snd x.fst i) = AV.sl true (0 : Nat) (4 : Nat) Sg sgA (gMk mkSg szSg x.snd x.fst) ∧ True)) := by kernel_rfl
theorem markSgs_ok  : Contract G Tryz.prog 26 s_markSgs :=
  vcFun_ok (Γ := Γof [(59, 0, s_markText)]) (E := Eof []) (ov := false) (L := fun x => Lof ([(2,{ ι := Int, inv := qgI szSg x.1, regs := fun i => [(0, osgs (gSt mkSg szSg x.2 x.1 i)), (1, .int .i64 (x.2 + gTot szSg (x.1.take i.toNat))), (5, .int .i64 i)], als := [], meas := fun i => x.1.length - i.toNat })])) Tryz.func26 rfl (by decide) (Γof_ok (l := [(59, 0, s_markText)]) ⟨markText_ok, trivial⟩) fun (x : List Sg × Int) (hx : qgB szSg x.1 ∧ 0 ≤ x.2 ∧ x.2 ≤ 2 ^ 50) => (markSgs_vc  x).mpr (by
  obtain ⟨h1, h2, h3⟩ := hx
  (repeat' first | refine ex_sg2 _ (mText _) _ _ ⟨rfl, ?_⟩ ⟨rfl, rfl⟩ | refine ex_sg2 _ _ _ _ ⟨rfl, ?_⟩ ⟨rfl, rfl⟩ | with_reducible rfl | exact True.intro | refine inR_i64 ?_ ?_ | with_reducible refine And.intro ?_ ?_ | with_reducible refine bcase_dec (fun _ => ?_) (fun _ => ?_) | with_reducible refine bcase_bne (fun _ => ?_) (fun _ => ?_) | with_reducible refine bcase_beq (fun _ => ?_) (fun _ => ?_) | with_reducible refine bcase_not (fun _ => ?_) (fun _ => ?_) | refine bcase_intro (fun _ => ?_) (fun _ => ?_) | refine sl_eq ?_ | refine ex_flip () ?_ ?_ | (apply ex_flip6 <;> try dsimp only) | (apply ex_flip5 <;> try dsimp only) | (apply ex_flip4 <;> try dsimp only) | (apply ex_flip3 <;> try dsimp only) | (apply ex_flip2 <;> try dsimp only) | apply ex_flip | (refine Prod.forall.2 ?_; intro _; try dsimp only) | (intro _; try dsimp only))
  all_goals (repeat (rename (List.set _ _ _)[_]? = some _ => hq; have e := gset hq; clear hq; subst e))
  all_goals (try (rename Sg => zz; obtain ⟨_, _, _, _⟩ := zz; dsimp only at *))
  all_goals (try simp only [List.length_set, List.set_set])
  all_goals first
    | rfl
    | exact gSt_0
    | exact ⟨h1, by omega, by omega⟩
    | (simp [gTot]; done)
    | exact (show qgI _ _ _ by assumption).2.1
    | assumption
    | exact (gSt_end (by assumption) (by assumption)).1
    | exact (gSt_end (by assumption) (by assumption)).2
    | exact gSt_step (by assumption) (by assumption) rfl
    | exact qgI_next (by assumption) (by assumption)
    | (have ht := gTot_step (k := x.2) (show qgI _ _ _ by assumption) (by assumption); rw [ht]; simp [szSg]; omega)
    | (have hi := (show qgI _ _ _ by assumption); have hl := @gSt_len _ mkSg szSg x.2 _ _ hi; have ht := qgI_tot hi; have := hi.2.1; have := hi.2.2; have := h1.1; (try simp only [i64max]); omega)
    | skip)

def lHdSg (x : List Sg × Int) : LS := {
  ι := Int, inv := qhI mkSg szSg x.2 x.1, regs := fun i => [(0, sgs x.1), (1, .int .i64 (x.2 + gTot szSg (x.1.take i.toNat))), (5, .int .i64 i)], als := [], meas := fun i => x.1.length - i.toNat }
theorem hSg_at {k i : Int} {l : List Sg} {g : Sg} (h : qhI mkSg szSg k l i) (hg : l[i.toNat]? = some g) : g.kind = k + gTot szSg (l.take i.toNat) ∧ g.text = mText (k + gTot szSg (l.take i.toNat) + 1) ∧
    g.pos = k + gTot szSg (l.take i.toNat) + 1 + 1 ∧ g.blank = ((k + gTot szSg (l.take i.toNat) + 1 + 1 + 1).tmod 3 == 0) := by
  have h2 := qhI_at h hg
  exact ⟨congrArg Sg.kind h2, congrArg Sg.text h2, congrArg Sg.pos h2, congrArg Sg.blank h2⟩
def s_heldSgs  : Sig := { X := List Sg × Int, args := fun x => [sgs x.1, .int .i64 x.2], pre := fun x => (qgB szSg x.1 ∧ x.1 = gMk mkSg szSg x.2 x.1) ∧ 0 ≤ x.2 ∧ x.2 ≤ 2 ^ 50, Y := Unit, post := fun x y => True, res := fun x y => .int .i64 (x.2 + gTot szSg x.1), outs := fun x y => [.top, .top], keep := false }
theorem heldSgs_vc (x : List Sg × Int) : vcFun Go.Proofs.Tryz.prog (Γof [(59, 0, s_markText)]) (Eof []) false (Lof ([(2,lHdSg x)])) Go.Proofs.Tryz.f27.ntmps Go.Proofs.Tryz.f27.results.toList (Go.Proofs.Tryz.f27.body.getD .skip) s_heldSgs x = ((∀ (y : Unit), True → True ∧ True ∧ True ∧ True) ∧ (∃ (i : Int), qhI mkSg szSg x.snd x.fst i ∧ (AV.sl false (0 : Nat) (4 : Nat) Sg sgA x.fst = AV.sl false (0 : Nat) (4 : Nat) Sg sgA x.fst ∧ x.snd = x.snd + gTot szSg (List.take (Int.toNat i) x.fst) ∧ (0 : Int) = i ∧ True) ∧ True) ∧ ∀ (i : Int), qhI mkSg szSg x.snd x.fst i → bcase (decide (i < (↑(List.length x.fst) : Int))) (((0 : Int) ≤ i ∧ i < (↑(List.length x.fst) : Int)) ∧ ∀ (e : Sg), x.fst[Int.toNat i]? = some e → bcase (e.kind != x.snd + gTot szSg (List.take (Int.toNat i) x.fst)) (∃ (y : Unit), True ∧ (-1 : Int) = x.snd + gTot szSg x.fst ∧ True) (inR IntKind.i64 (x.snd + gTot szSg (List.take (Int.toNat i) x.fst) + (1 : Int)) ∧ true = true ∧ true = true ∧ ((0 : Int) ≤ i ∧ i < (↑(List.length x.fst) : Int)) ∧ ∀ (e : Sg), x.fst[Int.toNat i]? = some e → ∃ (x_1 : Int), x_1 ≤ (2 : Int) ^ (60 : Nat) ∧ x.snd + gTot szSg (List.take (Int.toNat i) x.fst) + (1 : Int) = x_1 ∧ ∃ (y0 : Unit), (∀ (y : Unit), True → AV.str (mText x_1) = AV.str (mText x_1)) ∧ true = true ∧ bcase (!e.text == mText x_1) (∃ (y : Unit), True ∧ (-1 : Int) = x.snd + gTot szSg x.fst ∧ True) (inR IntKind.i64 (x.snd + gTot szSg (List.take (Int.toNat i) x.fst) + (1 : Int) + (1 : Int)) ∧ ((0 : Int) ≤ i ∧ i < (↑(List.length x.fst) : Int)) ∧ ∀ (e : Sg), x.fst[Int.toNat i]? = some e → bcase (e.pos != x.snd + gTot szSg (List.take (Int.toNat i) x.fst) + (1 : Int) + (1 : Int)) (∃ (y : Unit), True ∧ (-1 : Int) = x.snd + gTot szSg x.fst ∧ True) (inR IntKind.i64 (x.snd + gTot szSg (List.take (Int.toNat i) x.fst) + (1 : Int) + (1 : Int) + (1 : Int)) ∧ ((0 : Int) ≤ i ∧ i < (↑(List.length x.fst) : Int)) ∧ ∀ (e : Sg), x.fst[Int.toNat i]? = some e → (3 : Int) ≠ (0 : Int) ∧ bcase (!e.blank == (Int.tmod (x.snd + gTot szSg (List.take (Int.toNat i) x.fst) + (1 : Int) + (1 : Int) + (1 : Int)) (3 : Int) == (0 : Int))) (∃ (y : Unit), True ∧ (-1 : Int) = x.snd + gTot szSg x.fst ∧ True) (inR IntKind.i64 (x.snd + gTot szSg (List.take (Int.toNat i) x.fst) + (1 : Int) + (1 : Int) + (1 : Int) + (1 : Int)) ∧ inR IntKind.i64 (i + (1 : Int)) ∧ ∃ (i' : Int), qhI mkSg szSg x.snd x.fst i' ∧ List.length x.fst - Int.toNat i' < List.length x.fst - Int.toNat i ∧ (AV.sl false (0 : Nat) (4 : Nat) Sg sgA x.fst = AV.sl false (0 : Nat) (4 : Nat) Sg sgA x.fst ∧ x.snd + gTot szSg (List.take (Int.toNat i) x.fst) + (1 : Int) + (1 : Int) + (1 : Int) + (1 : Int) = x.snd + gTot szSg (List.take (Int.toNat i') x.fst) ∧ i + (1 : Int) = i' ∧ True) ∧ True))))) (∃ (y : Unit), True ∧ x.snd + gTot szSg (List.take (Int.toNat i) x.fst) = x.snd + gTot szSg x.fst ∧ True)) := by kernel_rfl
theorem heldSgs_ok  : Contract G Tryz.prog 27 s_heldSgs :=
  vcFun_ok (Γ := Γof [(59, 0, s_markText)]) (E := Eof []) (ov := false) (L := fun x => Lof ([(2,lHdSg x)])) Tryz.func27 rfl (by decide) (Γof_ok (l := [(59, 0, s_markText)]) ⟨markText_ok, trivial⟩) fun (x : List Sg × Int) (hx : (qgB szSg x.1 ∧ x.1 = gMk mkSg szSg x.2 x.1) ∧ 0 ≤ x.2 ∧ x.2 ≤ 2 ^ 50) => (heldSgs_vc  x).mpr (by
  obtain ⟨⟨h1, h0⟩, h2, h3⟩ := hx
  (repeat' first | with_reducible rfl | exact True.intro | refine inR_i64 ?_ ?_ | with_reducible refine And.intro ?_ ?_ | with_reducible refine bcase_dec (fun _ => ?_) (fun _ => ?_) | with_reducible refine bcase_bne (fun _ => ?_) (fun _ => ?_) | with_reducible refine bcase_beq (fun _ => ?_) (fun _ => ?_) | with_reducible refine bcase_not (fun _ => ?_) (fun _ => ?_) | refine bcase_intro (fun _ => ?_) (fun _ => ?_) | refine sl_eq ?_ | refine ex_flip () ?_ ?_ | (apply ex_flip6 <;> try dsimp only) | (apply ex_flip5 <;> try dsimp only) | (apply ex_flip4 <;> try dsimp only) | (apply ex_flip3 <;> try dsimp only) | (apply ex_flip2 <;> try dsimp only) | apply ex_flip | (refine Prod.forall.2 ?_; intro _; try dsimp only) | (intro _; try dsimp only))
  all_goals (repeat (rename x.1[Int.toNat _]? = some _ => hq; revert hq; rename x.1[Int.toNat _]? = some _ => hr; intro hq; rw [hr] at hq; cases hq))
  all_goals try (have hq1 := hSg_at (show qhI _ _ _ _ _ by assumption) (by assumption))
  all_goals first
    | rfl
    | exact ⟨h0, h1, by omega, by omega⟩
    | (simp [gTot]; done)
    | exact (show qhI _ _ _ _ _ by assumption).2.2.1
    | assumption
    | exact qhI_end (by assumption) (by assumption)
    | exact qhI_next (by assumption) (by assumption)
    | (exfalso; exact (show _ ≠ _ by assumption) hq1.1)
    | (exfalso; exact (show _ ≠ _ by assumption) hq1.2.1)
    | (exfalso; exact (show _ ≠ _ by assumption) hq1.2.2.1)
    | (exfalso; simp [hq1.2.1, hq1.2.2.1, hq1.2.2.2] at *; done)
    | (rw [qhI_step (by assumption) (by assumption)]; simp [szSg]; omega)
    | (have hi := (show qhI _ _ _ _ _ by assumption); have ht := qgI_tot hi.2; have := hi.2.2.1; have := hi.2.2.2; have := h1.1; (try simp only [i64max]); omega)
    | skip)

/- the teller -/
def strs (l : List (List UInt8)) : AV := .sl false 0 1 (List UInt8) strA l
def tlr (ns : List Nd) (s : List Sg) (st : List Int) : AV := .box 0 [nds ns, osgs s, oints st]
def s_tMark  : Sig := { X := List Nd × List Sg × List Int × List (List UInt8), args := fun x => [tlr x.1 x.2.1 x.2.2.1, strs x.2.2.2], pre := fun x => x.2.1.length ≤ 2 ^ 26 ∧ x.2.2.2.length ≤ 2 ^ 10, Y := Unit, post := fun x y => True, res := fun x y => .tup [], outs := fun x y => [tlr x.1 (x.2.1 ++ x.2.2.2.map mkS) x.2.2.1, .top], keep := true }
theorem tMark_vc (x : List Nd × List Sg × List Int × List (List UInt8)) : vcFun Go.Proofs.Tryz.prog (Γof []) (Eof [(34, ⟨Sg,sgA⟩)]) false (Lof ([(1,{ ι := Int, inv := fun i => 0 ≤ i ∧ i ≤ x.2.2.2.length, regs := fun i => [(0, tlr x.1 (x.2.1 ++ (x.2.2.2.take i.toNat).map mkS) x.2.2.1), (6, strs x.2.2.2), (7, .int .i64 x.2.2.2.length), (8, .int .i64 i)], als := [], meas := fun i => x.2.2.2.length - i.toNat })])) Go.Proofs.Tryz.f189.ntmps Go.Proofs.Tryz.f189.results.toList (Go.Proofs.Tryz.f189.body.getD .skip) s_tMark x = (True ∧ (∃ (i : Int), ((0 : Int) ≤ i ∧ i ≤ (↑(List.length x.snd.snd.snd) : Int)) ∧ (AV.sl false (0 : Nat) (4 : Nat) Nd (ndA false) x.fst = AV.sl false (0 : Nat) (4 : Nat) Nd (ndA false) x.fst ∧ AV.sl true (0 : Nat) (4 : Nat) Sg sgA x.snd.fst = AV.sl true (0 : Nat) (4 : Nat) Sg sgA (x.snd.fst ++ List.map mkS (List.take (Int.toNat i) x.snd.snd.snd)) ∧ AV.sl true (0 : Nat) (1 : Nat) Int intA x.snd.snd.fst = AV.sl true (0 : Nat) (1 : Nat) Int intA x.snd.snd.fst ∧ AV.sl false (0 : Nat) (1 : Nat) (List UInt8) strA x.snd.snd.snd = AV.sl false (0 : Nat) (1 : Nat) (List UInt8) strA x.snd.snd.snd ∧ (↑(List.length x.snd.snd.snd) : Int) = (↑(List.length x.snd.snd.snd) : Int) ∧ (0 : Int) = i ∧ True) ∧ True) ∧ ∀ (i : Int), (0 : Int) ≤ i ∧ i ≤ (↑(List.length x.snd.snd.snd) : Int) → bcase (decide (i < (↑(List.length x.snd.snd.snd) : Int))) (((0 : Int) ≤ i ∧ i < (↑(List.length x.snd.snd.snd) : Int)) ∧ ∀ (e : List UInt8), x.snd.snd.snd[Int.toNat i]? = some e → ∃ (x_1 : Sg), (4 : Int) = x_1.kind ∧ e = x_1.text ∧ (0 : Int) = x_1.pos ∧ false = x_1.blank ∧ ∃ (zs : List Sg), AV.sl true (0 : Nat) (4 : Nat) Sg sgA [x_1] = AV.sl true (0 : Nat) (4 : Nat) Sg sgA zs ∧ leafy sgA ∧ room (List.length (x.snd.fst ++ List.map mkS (List.take (Int.toNat i) x.snd.snd.snd)) + List.length zs) (40 : Nat) ∧ inR IntKind.i64 (i + (1 : Int)) ∧ ∃ (i' : Int), ((0 : Int) ≤ i' ∧ i' ≤ (↑(List.length x.snd.snd.snd) : Int)) ∧ List.length x.snd.snd.snd - Int.toNat i' < List.length x.snd.snd.snd - Int.toNat i ∧ (AV.sl false (0 : Nat) (4 : Nat) Nd (ndA false) x.fst = AV.sl false (0 : Nat) (4 : Nat) Nd (ndA false) x.fst ∧ AV.sl true (0 : Nat) (4 : Nat) Sg sgA (x.snd.fst ++ List.map mkS (List.take (Int.toNat i) x.snd.snd.snd) ++ zs) = AV.sl true (0 : Nat) (4 : Nat) Sg sgA (x.snd.fst ++ List.map mkS (List.take (Int.toNat i') x.snd.snd.snd)) ∧ AV.sl true (0 : Nat) (1 : Nat) Int intA x.snd.snd.fst = AV.sl true (0 : Nat) (1 : Nat) Int intA x.snd.snd.fst ∧ AV.sl false (0 : Nat) (1 : Nat) (List UInt8) strA x.snd.snd.snd = AV.sl false (0 : Nat) (1 : Nat) (List UInt8) strA x.snd.snd.snd ∧ (↑(List.length x.snd.snd.snd) : Int) = (↑(List.length x.snd.snd.snd) : Int) ∧ i + (1 : Int) = i' ∧ True) ∧ True) (∃ (y : Unit), True ∧ AV.sl false (0 : Nat) (4 : Nat) Nd (ndA false) x.fst = AV.sl false (0 : Nat) (4 : Nat) Nd (ndA false) x.fst ∧ AV.sl true (0 : Nat) (4 : Nat) Sg sgA (x.snd.fst ++ List.map mkS (List.take (Int.toNat i) x.snd.snd.snd)) = AV.sl true (0 : Nat) (4 : Nat) Sg sgA (x.snd.fst ++ List.map mkS x.snd.snd.snd) ∧ AV.sl true (0 : Nat) (1 : Nat) Int intA x.snd.snd.fst = AV.sl true (0 : Nat) (1 : Nat) Int intA x.snd.snd.fst ∧ True)) := by kernel_rfl
theorem tMark_ok  : Contract G Tryz.prog 189 s_tMark :=
  vcFun_ok (Γ := Γof []) (E := Eof [(34, ⟨Sg,sgA⟩)]) (ov := false) (L := fun x => Lof ([(1,{ ι := Int, inv := fun i => 0 ≤ i ∧ i ≤ x.2.2.2.length, regs := fun i => [(0, tlr x.1 (x.2.1 ++ (x.2.2.2.take i.toNat).map mkS) x.2.2.1), (6, strs x.2.2.2), (7, .int .i64 x.2.2.2.length), (8, .int .i64 i)], als := [], meas := fun i => x.2.2.2.length - i.toNat })])) Tryz.func189 rfl (by decide) (Γof_ok (l := []) trivial) fun (x : List Nd × List Sg × List Int × List (List UInt8)) (hx : x.2.1.length ≤ 2 ^ 26 ∧ x.2.2.2.length ≤ 2 ^ 10) => (tMark_vc  x).mpr (by
  obtain ⟨h1, h2⟩ := hx
  (repeat' first | refine ex_sgp ?_ | with_reducible rfl | exact True.intro | refine inR_i64 ?_ ?_ | with_reducible refine And.intro ?_ ?_ | with_reducible refine bcase_dec (fun _ => ?_) (fun _ => ?_) | with_reducible refine bcase_bne (fun _ => ?_) (fun _ => ?_) | with_reducible refine bcase_beq (fun _ => ?_) (fun _ => ?_) | with_reducible refine bcase_not (fun _ => ?_) (fun _ => ?_) | refine bcase_intro (fun _ => ?_) (fun _ => ?_) | refine sl_eq ?_ | refine ex_flip () ?_ ?_ | (apply ex_flip6 <;> try dsimp only) | (apply ex_flip5 <;> try dsimp only) | (apply ex_flip4 <;> try dsimp only) | (apply ex_flip3 <;> try dsimp only) | (apply ex_flip2 <;> try dsimp only) | apply ex_flip | (refine Prod.forall.2 ?_; intro _; try dsimp only) | (intro _; try dsimp only))
  all_goals first
    | rfl
    | (simp; done)
    | (rw [toNat1 (And.left (by assumption)), takeE (by assumption)]; simp [mkS, sg0]; done)
    | (rw [List.take_of_length_le (by omega)]; done)
    | ((try simp only [i64max, room, List.length_append, List.length_map, List.length_take, List.length_cons, List.length_nil]); omega)
    | skip)

def s_tWord  : Sig := { X := List Nd × List Sg × List Int × List UInt8, args := fun x => [tlr x.1 x.2.1 x.2.2.1, .str x.2.2.2], pre := fun x => x.2.1.length ≤ 2 ^ 26, Y := Unit, post := fun x y => True, res := fun x y => .tup [], outs := fun x y => [tlr x.1 (x.2.1 ++ [wdS x.2.2.2]) x.2.2.1, .top], keep := true }
theorem tWord_vc (x : List Nd × List Sg × List Int × List UInt8) : vcFun Go.Proofs.Tryz.prog (Γof []) (Eof [(34, ⟨Sg,sgA⟩)]) false (Lof ([])) Go.Proofs.Tryz.f188.ntmps Go.Proofs.Tryz.f188.results.toList (Go.Proofs.Tryz.f188.body.getD .skip) s_tWord x = (True ∧ ∃ (x_1 : Sg), (1 : Int) = x_1.kind ∧ x.snd.snd.snd = x_1.text ∧ (0 : Int) = x_1.pos ∧ false = x_1.blank ∧ ∃ (zs : List Sg), AV.sl true (0 : Nat) (4 : Nat) Sg sgA [x_1] = AV.sl true (0 : Nat) (4 : Nat) Sg sgA zs ∧ leafy sgA ∧ room (List.length x.snd.fst + List.length zs) (40 : Nat) ∧ ∃ (y : Unit), True ∧ AV.sl false (0 : Nat) (4 : Nat) Nd (ndA false) x.fst = AV.sl false (0 : Nat) (4 : Nat) Nd (ndA false) x.fst ∧ AV.sl true (0 : Nat) (4 : Nat) Sg sgA (x.snd.fst ++ zs) = AV.sl true (0 : Nat) (4 : Nat) Sg sgA (x.snd.fst ++ [wdS x.snd.snd.snd]) ∧ AV.sl true (0 : Nat) (1 : Nat) Int intA x.snd.snd.fst = AV.sl true (0 : Nat) (1 : Nat) Int intA x.snd.snd.fst ∧ True) := by kernel_rfl
theorem tWord_ok  : Contract G Tryz.prog 188 s_tWord :=
  vcFun_ok (Γ := Γof []) (E := Eof [(34, ⟨Sg,sgA⟩)]) (ov := false) (L := fun x => Lof ([])) Tryz.func188 rfl (by decide) (Γof_ok (l := []) trivial) fun (x : List Nd × List Sg × List Int × List UInt8) (hx : x.2.1.length ≤ 2 ^ 26) => (tWord_vc  x).mpr (by
  have hx : x.2.1.length ≤ 2 ^ 26 := hx
  (repeat' first | refine ex_sgp ?_ | with_reducible rfl | exact True.intro | refine inR_i64 ?_ ?_ | with_reducible refine And.intro ?_ ?_ | with_reducible refine bcase_dec (fun _ => ?_) (fun _ => ?_) | with_reducible refine bcase_bne (fun _ => ?_) (fun _ => ?_) | with_reducible refine bcase_beq (fun _ => ?_) (fun _ => ?_) | with_reducible refine bcase_not (fun _ => ?_) (fun _ => ?_) | refine bcase_intro (fun _ => ?_) (fun _ => ?_) | refine sl_eq ?_ | refine ex_flip () ?_ ?_ | (apply ex_flip6 <;> try dsimp only) | (apply ex_flip5 <;> try dsimp only) | (apply ex_flip4 <;> try dsimp only) | (apply ex_flip3 <;> try dsimp only) | (apply ex_flip2 <;> try dsimp only) | apply ex_flip | (refine Prod.forall.2 ?_; intro _; try dsimp only) | (intro _; try dsimp only))
  all_goals first
    | rfl
    | ((try simp only [i64max, room, List.length_append, List.length_cons, List.length_nil]); omega)
    | skip)

end Go.My
end
section
/- A tree put anew behind other nodes, plainly: what the rewriting functions make. -/
set_option linter.unusedVariables false
set_option linter.unusedSimpArgs false
namespace Go.My
open Go.Eng

structure Rw where
  stop : Int → Option Nd
  tgt : Int → Int → Int → Int
  par : Int → Int → Int → Bool
def parNd (o : List Nd) : Nd := ⟨11, [], [(o.length : Int) - 1], false⟩
def put1 (R : Rw) (f : Int → List Nd → List Nd) (k i c : Int) (out : List Nd) : List Nd :=
  if R.par k i c then f (R.tgt k i c) out ++ [parNd (f (R.tgt k i c) out)] else f (R.tgt k i c) out
def putK (R : Rw) (f : Int → List Nd → List Nd) (k : Int) : List Int → Int → List Nd → List Int → List Nd × List Int
  | [], _, out, ks => (out, ks)
  | c :: l, i, out, ks => putK R f k l (i + 1) (put1 R f k i c out) (ks ++ [((put1 R f k i c out).length : Int) - 1])
def putN (ns : List Nd) (R : Rw) : Nat → Int → List Nd → List Nd
  | 0, _, out => out
  | n + 1, k, out => match R.stop k with
    | some x => out ++ [x]
    | none => (putK R (putN ns R n) k (ndAt ns k).kids 0 out []).1 ++ [⟨(ndAt ns k).kind, (ndAt ns k).text, (putK R (putN ns R n) k (ndAt ns k).kids 0 out []).2, (ndAt ns k).blank⟩]
def RwOk (ns : List Nd) (R : Rw) : Prop := ∀ (n : Nat) (k : Int) (i : Nat) (c : Int), okUp ns k → (ndAt ns k).kids[i]? = some c → c < n →
  okUp ns (R.tgt k i c) ∧ R.tgt k i c ≤ c ∧ (vis ns n (R.tgt k i c)).length + (if R.par k i c then 1 else 0) ≤ (vis ns n c).length
theorem putN_bd {ns : List Nd} {R : Rw} (hR : RwOk ns R) : ∀ {n : Nat} {k : Int} {out : List Nd}, okUp ns k → k < n → out.length < (putN ns R n k out).length ∧ (putN ns R n k out).length ≤ out.length + 2 * (vis ns n k).length
  | 0, k, out, h, hk => by have := isNd_iff.1 h.1; omega
  | n + 1, k, out, h, hk => by
    rw [vis_succ, putN]
    cases hs : R.stop k with
    | some x => simp only [List.length_append, List.length_cons, List.length_nil]; omega
    | none =>
      simp only [List.length_append, List.length_cons, List.length_nil]
      have key : ∀ (l : List Int) (i : Nat) (o : List Nd) (ks : List Int), (ndAt ns k).kids.drop i = l → o.length ≤ (putK R (putN ns R n) k l i o ks).1.length ∧ (putK R (putN ns R n) k l i o ks).1.length ≤ o.length + 2 * visK ns n l := by
        intro l
        induction l with
        | nil => intro i o ks _; simp [putK, visK]
        | cons c l ih =>
          intro i o ks hd
          have hc : (ndAt ns k).kids[i]? = some c := by
            have := congrArg (fun l : List Int => l[0]?) hd
            simpa using this
          have hm := okUp_kid h (memE hc)
          obtain ⟨g1, g2, g3⟩ := hR n k i c h hc (by omega)
          obtain ⟨p1, p2⟩ := putN_bd hR (n := n) (k := R.tgt k i c) (out := o) g1 (by omega)
          have hd2 : (ndAt ns k).kids.drop (i + 1) = l := by
            rw [← List.drop_drop, hd]; rfl
          obtain ⟨q1, q2⟩ := ih (i + 1) (put1 R (putN ns R n) k i c o) (ks ++ [((put1 R (putN ns R n) k i c o).length : Int) - 1]) hd2
          have hb : o.length ≤ (put1 R (putN ns R n) k i c o).length ∧ (put1 R (putN ns R n) k i c o).length ≤ o.length + 2 * (vis ns n c).length := by
            unfold put1
            split
            · rename_i hp; rw [if_pos hp] at g3; simp; omega
            · rename_i hp; rw [if_neg hp] at g3; omega
          rw [putK, visK_cons]
          have e : ((i : Int) + 1) = ((i + 1 : Nat) : Int) := by omega
          rw [e]
          omega
      have := key (ndAt ns k).kids 0 out [] (by simp)
      simp only [kidsOf] at this ⊢
      have e : ((0 : Nat) : Int) = 0 := rfl
      rw [e] at this
      omega
/- within a node: after some kids -/
def pk (ns : List Nd) (R : Rw) (n : Nat) (k : Int) (out0 : List Nd) (i : Int) (out : List Nd) (ks : List Int) : Prop :=
  (0 ≤ i ∧ i ≤ (ndAt ns k).kids.length) ∧ putK R (putN ns R n) k ((ndAt ns k).kids.drop i.toNat) i out ks = putK R (putN ns R n) k (ndAt ns k).kids 0 out0 [] ∧
    out.length + 2 * visK ns n ((ndAt ns k).kids.drop i.toNat) ≤ out0.length + 2 * visK ns n (ndAt ns k).kids ∧ out0.length ≤ out.length ∧ ks.length = i
theorem pk_init {ns : List Nd} {R : Rw} {n : Nat} {k : Int} {out0 : List Nd} : pk ns R n k out0 0 out0 [] := ⟨⟨by omega, by omega⟩, by simp, by simp, Nat.le_refl _, rfl⟩
theorem pk_next {ns : List Nd} {R : Rw} (hR : RwOk ns R) {n : Nat} {k : Int} {out0 : List Nd} {i c : Int} {out : List Nd} {ks : List Int} (h : pk ns R n k out0 i out ks) (hu : okUp ns k) (hk : k < n + 1)
    (hc : (ndAt ns k).kids[i.toNat]? = some c) : pk ns R n k out0 (i + 1) (put1 R (putN ns R n) k i c out) (ks ++ [((put1 R (putN ns R n) k i c out).length : Int) - 1]) := by
  obtain ⟨⟨h0, h1⟩, h2, h3, h4, h5⟩ := h
  have hlt := (getE hc).1
  have hm := okUp_kid hu (memE hc)
  obtain ⟨g1, g2, g3⟩ := hR n k i.toNat c hu hc (by omega)
  have e : ((i.toNat : Nat) : Int) = i := by omega
  rw [e] at g1 g2 g3
  obtain ⟨p1, p2⟩ := putN_bd hR (n := n) (k := R.tgt k i c) (out := out) g1 (by omega)
  have hb : out.length ≤ (put1 R (putN ns R n) k i c out).length ∧ (put1 R (putN ns R n) k i c out).length ≤ out.length + 2 * (vis ns n c).length := by
    unfold put1
    split
    · rename_i hp; rw [if_pos hp] at g3; simp; omega
    · rename_i hp; rw [if_neg hp] at g3; omega
  refine ⟨⟨by omega, by omega⟩, ?_, ?_, by omega, by simp; omega⟩
  · rw [← h2, dropE hc, toNat1 h0]; rfl
  · rw [dropE hc, visK_cons] at h3
    rw [toNat1 h0]; omega
theorem pk_done {ns : List Nd} {R : Rw} {n : Nat} {k : Int} {out0 : List Nd} {i : Int} {out : List Nd} {ks : List Int} (h : pk ns R n k out0 i out ks) (hl : ¬ i < (ndAt ns k).kids.length) (hs : R.stop k = none) :
    out ++ [⟨(ndAt ns k).kind, (ndAt ns k).text, ks, (ndAt ns k).blank⟩] = putN ns R (n + 1) k out0 := by
  obtain ⟨⟨h0, h1⟩, h2, _⟩ := h
  rw [List.drop_eq_nil_of_le (by omega), putK] at h2
  rw [putN, hs]
  simp only
  rw [← h2]
/- the place for what is asked of a kid -/
theorem pk_pre {ns : List Nd} {R : Rw} (hR : RwOk ns R) {n : Nat} {k : Int} {out0 : List Nd} {i c : Int} {out : List Nd} {ks : List Int} (h : pk ns R n k out0 i out ks) (hu : okUp ns k) (hk : k < n + 1)
    (hc : (ndAt ns k).kids[i.toNat]? = some c) {B : Nat} (hB : out0.length + 2 * (vis ns (n + 1) k).length ≤ B) :
    okUp ns (R.tgt k i c) ∧ R.tgt k i c < n ∧ out.length + 2 * (vis ns n (R.tgt k i c)).length ≤ B := by
  obtain ⟨⟨h0, h1⟩, h2, h3, h4, h5⟩ := h
  have hlt := (getE hc).1
  have hm := okUp_kid hu (memE hc)
  obtain ⟨g1, g2, g3⟩ := hR n k i.toNat c hu hc (by omega)
  have e : ((i.toNat : Nat) : Int) = i := by omega
  rw [e] at g1 g2 g3
  refine ⟨g1, by omega, ?_⟩
  rw [dropE hc, visK_cons] at h3
  rw [vis_succ] at hB
  simp only [kidsOf] at hB
  omega
theorem pk_bd {ns : List Nd} {R : Rw} {n : Nat} {k : Int} {out0 : List Nd} {i : Int} {out : List Nd} {ks : List Int} (h : pk ns R n k out0 i out ks) {B : Nat} (hB : out0.length + 2 * (vis ns (n + 1) k).length ≤ B) :
    (0 ≤ i ∧ i ≤ (ndAt ns k).kids.length) ∧ out.length + 2 ≤ B ∧ ks.length = i := by
  obtain ⟨h0, h2, h3, h4, h5⟩ := h
  rw [vis_succ] at hB
  simp only [kidsOf] at hB
  exact ⟨h0, by omega, h5⟩
end Go.My
end
section
/- What is put anew is no greater than what was. -/
set_option linter.unusedVariables false
set_option linter.unusedSimpArgs false
namespace Go.My
open Go.Eng

theorem putN_all {ns : List Nd} {R : Rw} (hR : RwOk ns R) {p : Nd → Prop} (hpar : ∀ o, p (parNd o)) (hst : ∀ k x, R.stop k = some x → p x)
    (hnd : ∀ k ks, okUp ns k → ks.length = (ndAt ns k).kids.length → p ⟨(ndAt ns k).kind, (ndAt ns k).text, ks, (ndAt ns k).blank⟩) :
    ∀ {n : Nat} {k : Int} {out : List Nd}, okUp ns k → k < n → (∀ e ∈ out, p e) → ∀ e ∈ putN ns R n k out, p e
  | 0, k, out, h, hk, ho => by have := isNd_iff.1 h.1; omega
  | n + 1, k, out, h, hk, ho => by
    rw [putN]
    cases hs : R.stop k with
    | some x =>
      intro e he
      rcases List.mem_append.1 he with he | he
      · exact ho e he
      · simp at he; subst he; exact hst k _ hs
    | none =>
      simp only
      have key : ∀ (l : List Int) (i : Nat) (o : List Nd) (ks : List Int), (ndAt ns k).kids.drop i = l → (∀ e ∈ o, p e) → (∀ e ∈ (putK R (putN ns R n) k l i o ks).1, p e) ∧ (putK R (putN ns R n) k l i o ks).2.length = ks.length + l.length := by
        intro l
        induction l with
        | nil => intro i o ks _ ho; exact ⟨ho, by simp [putK]⟩
        | cons c l ih =>
          intro i o ks hd ho
          have hc : (ndAt ns k).kids[i]? = some c := by
            have := congrArg (fun l : List Int => l[0]?) hd
            simpa using this
          have hm := okUp_kid h (memE hc)
          obtain ⟨g1, g2, g3⟩ := hR n k i c h hc (by omega)
          have hp := putN_all hR hpar hst hnd (n := n) (k := R.tgt k i c) (out := o) g1 (by omega) ho
          have hd2 : (ndAt ns k).kids.drop (i + 1) = l := by
            rw [← List.drop_drop, hd]; rfl
          have hq : ∀ e ∈ put1 R (putN ns R n) k i c o, p e := by
            unfold put1
            split
            · intro e he
              rcases List.mem_append.1 he with he | he
              · exact hp e he
              · simp at he; subst he; exact hpar _
            · exact hp
          have := ih (i + 1) _ (ks ++ [((put1 R (putN ns R n) k i c o).length : Int) - 1]) hd2 hq
          rw [putK]
          have e : ((i : Int) + 1) = ((i + 1 : Nat) : Int) := by omega
          rw [e]
          refine ⟨this.1, ?_⟩
          rw [this.2]; simp; omega
      have := key (ndAt ns k).kids 0 out [] (by simp) ho
      intro e he
      rcases List.mem_append.1 he with he | he
      · exact this.1 e he
      · simp only [List.mem_singleton] at he
        rw [he]
        exact hnd k _ h (by have := this.2; simpa using this)
theorem gTot_nn {α : Type} (sz : α → Nat) : ∀ l : List α, 0 ≤ gTot sz l
  | [] => Int.le_refl 0
  | x :: l => by have := gTot_nn sz l; simp only [gTot]; omega
theorem mk_tot (l : List Nd) (k : Int) : gTot szN (gMk mkN szN k l) = gTot szN l := (gMk_idem szN_mk mkN_mk).2
theorem mk_idem (l : List Nd) (k : Int) : gMk mkN szN k l = gMk mkN szN k (gMk mkN szN k l) := (gMk_idem szN_mk mkN_mk).1.symm
def resB (l : List Nd) : Prop := l.length ≤ 1048576 ∧ ∀ e ∈ l, e.text.length ≤ 1048576 ∧ e.kids.length ≤ 1048576
theorem resB_of {l : List Nd} (h : ¬ szNds l 1048576 < 0) : resB l := by
  have := szNds_bd (l := l) (n := 1048576) (by omega) h
  exact ⟨by have := this.1; omega, fun e he => by have := this.2 e he; omega⟩
theorem resB_small {l : List Nd} (h : resB l) : smallNds l := ⟨by have := h.1; omega, fun e he => by have := h.2 e he; exact ⟨by omega, by omega⟩⟩
theorem resB_g {l : List Nd} (h : resB l) : qgB szN l := ⟨h.1, fun e he => by have := h.2 e he; simp [szN]; omega⟩
def kidsB' (l : List Nd) : Prop := l.length ≤ 2 ^ 30 ∧ ∀ e ∈ l, e.kids.length ≤ 2 ^ 30
theorem resB_kids {l : List Nd} (h : resB l) : kidsB' l := ⟨by have := h.1; omega, fun e he => by have := h.2 e he; omega⟩
theorem resB_ok {l : List Nd} (h : resB l) : okNds l := ⟨by have := h.1; omega, fun e he => by have := h.2 e he; exact ⟨by omega, by omega⟩⟩
theorem putN_resB {ns : List Nd} {R : Rw} (hR : RwOk ns R) (hst : ∀ k x, R.stop k = some x → x.text.length ≤ 1048576 ∧ x.kids.length ≤ 1048576) (ht : treeOk ns = true) (hb : resB ns) {n : Nat} (hn : 301 ≤ n) : resB (putN ns R n ((ns.length : Int) - 1) []) := by
  obtain ⟨h1, h2, h3, h4⟩ := tree1_of ht
  have hlen := putN_bd hR (n := n) (out := []) h4 (by omega)
  have hv := @vis_len ns n ht
  refine ⟨by simp at hlen; omega, ?_⟩
  refine putN_all hR (fun o => by simp [parNd]) hst (fun k ks hu hk => ?_) h4 (by omega) (fun e he => by cases he)
  have hr := isNd_iff.1 hu.1
  have e : ns[k.toNat]? = some ns[k.toNat] := by simp
  have hm := hb.2 _ (memE e)
  rw [ndAt_of e] at hk ⊢
  exact ⟨hm.1, by rw [hk]; exact hm.2⟩
end Go.My
end
section
/- Signs: the program's teller. -/
set_option linter.unusedVariables false
set_option linter.unusedSimpArgs false
namespace Go.My
open Go.Eng Go.Proofs
variable {G : GInv}

def fB (n : Nat) (s : List Sg) : Prop := s.length + 80000 * n ≤ 24080000
def kidP (ns : List Nd) (n : Nat) (c : Int) : Prop := okUp ns c ∧ c < n ∧ (vis ns n c).length ≤ 300
structure TX where
  ns : List Nd
  s : List Sg
  st : List Int
theorem kid_len {ns : List Nd} {n : Nat} {c : Int} (h : kidP ns n c) : (flatN ns n c).length ≤ 5400 := by
  have := flatN_len h.1 h.2.1
  have := h.2.2
  omega
theorem sep_snoc0 {f : Int → List Sg} {m : List UInt8} {l : List Int} {i : Int} {c : Int} (h0 : i = 0) (hc : l[i.toNat]? = some c) : sepL f m (l.take i.toNat) ++ f c = sepL f m (l.take (i + 1).toNat) := by
  subst h0
  rw [toNat1 (by omega), takeE hc]; simp [sepL]
theorem sep_snoc {f : Int → List Sg} {m : List UInt8} {l : List Int} {i : Int} {c : Int} (h0 : 0 < i) (hc : l[i.toNat]? = some c) : sepL f m (l.take i.toNat) ++ [mkS m] ++ f c = sepL f m (l.take (i + 1).toNat) := by
  rw [toNat1 (by omega), takeE hc]
  have hlt := (getE hc).1
  match hl : l.take i.toNat with
  | [] => rw [List.take_eq_nil_iff] at hl; rcases hl with hl | hl
          · omega
          · subst hl; simp at hc
  | d :: t => simp [sepL]
def listP (ns : List Nd) (n : Nat) (l : List Int) (s : List Sg) : Prop := ns.length < 2 ^ 62 ∧ l.length ≤ 12 ∧ (∀ c ∈ l, kidP ns n c) ∧ fB n s ∧ s.length + 80000 * n + 66000 ≤ 24080000
theorem list_len {ns : List Nd} {n : Nat} {l : List Int} {s : List Sg} {m : List UInt8} {j : Nat} (h : listP ns n l s) : (sepL (flatN ns n) m (l.take j)).length ≤ 64812 ∧ (((l.take j).flatMap (flatN ns n)).length ≤ 64800) := by
  have h1 : ∀ c ∈ l.take j, (flatN ns n c).length ≤ 5400 := fun c hc => kid_len (h.2.2.1 c (List.mem_of_mem_take hc))
  have h2 := fl_le h1
  have h3 : (l.take j).length ≤ 12 := by rw [List.length_take]; have := h.2.1; omega
  have h4 := @sepL_len (flatN ns n) m (l.take j)
  have h5 : (l.take j).length * 5400 ≤ 12 * 5400 := Nat.mul_le_mul_right _ h3
  have h6 : ((l.take j).flatMap (flatN ns n)).length = fl (flatN ns n) (l.take j) := rfl
  omega
theorem tl_len {ns : List Nd} {n : Nat} {l : List Int} {s : List Sg} {m : List UInt8} {j : Nat} (h : listP ns n l s) : (s ++ sepL (flatN ns n) m (l.take j)).length + 80000 * n + 1000 ≤ 24080000 := by
  have h1 := (@list_len ns n l s m j h).1
  have h2 := h.2.2.2.2
  rw [List.length_append]; omega
theorem tl_fB0 {ns : List Nd} {n : Nat} {l : List Int} {s : List Sg} {m : List UInt8} {j : Nat} (h : listP ns n l s) : fB n (s ++ sepL (flatN ns n) m (l.take j)) := by
  have := @tl_len ns n l s m j h; unfold fB; omega
theorem tl_fB1 {ns : List Nd} {n : Nat} {l : List Int} {s : List Sg} {m t : List UInt8} {j : Nat} (h : listP ns n l s) : fB n (s ++ sepL (flatN ns n) m (l.take j) ++ List.map mkS [t]) := by
  have := @tl_len ns n l s m j h; unfold fB; rw [List.length_append]; simp only [List.map_cons, List.map_nil, List.length_cons, List.length_nil]; omega
theorem tl_26 {ns : List Nd} {n : Nat} {l : List Int} {s : List Sg} {m : List UInt8} {j : Nat} (h : listP ns n l s) : (s ++ sepL (flatN ns n) m (l.take j)).length ≤ 67108864 := by
  have := @tl_len ns n l s m j h; omega
theorem tl_eq1 {f : Int → List Sg} {m : List UInt8} {l : List Int} {i : Int} {c : Int} {s : List Sg} (h0 : i > 0) (hc : l[i.toNat]? = some c) : s ++ sepL f m (l.take i.toNat) ++ List.map mkS [m] ++ f c = s ++ sepL f m (l.take (i + 1).toNat) := by
  rw [← sep_snoc h0 hc]; simp
theorem tl_eq0 {f : Int → List Sg} {m : List UInt8} {l : List Int} {i : Int} {c : Int} {s : List Sg} (h0 : ¬ i > 0) (hi : 0 ≤ i) (hc : l[i.toNat]? = some c) : s ++ sepL f m (l.take i.toNat) ++ f c = s ++ sepL f m (l.take (i + 1).toNat) := by
  rw [← sep_snoc0 (by omega) hc]; simp
def s_tNode (n : Nat) : Sig := { X := List Nd × List Sg × List Int × Int, args := fun x => [tlr x.1 x.2.1 x.2.2.1, .int .i64 x.2.2.2], pre := fun x => (okNds x.1 ∧ x.2.2.1.length = x.1.length) ∧ kidP x.1 n x.2.2.2 ∧ fB n x.2.1, Y := List Int, post := fun x y => y.length = x.2.2.1.length, res := fun x y => .tup [], outs := fun x y => [tlr x.1 (x.2.1 ++ flatN x.1 n x.2.2.2) y, .top], keep := true }
def s_tList (n : Nat) : Sig := { X := List Nd × List Sg × List Int × List Int × List UInt8, args := fun x => [tlr x.1 x.2.1 x.2.2.1, ints x.2.2.2.1, .str x.2.2.2.2], pre := fun x => (okNds x.1 ∧ x.2.2.1.length = x.1.length) ∧ listP x.1 n x.2.2.2.1 x.2.1, Y := List Int, post := fun x y => y.length = x.2.2.1.length, res := fun x y => .tup [], outs := fun x y => [tlr x.1 (x.2.1 ++ sepL (flatN x.1 n) x.2.2.2.2 x.2.2.2.1) y, .top, .top], keep := true }
theorem tList_vc (n : Nat) (x : List Nd × List Sg × List Int × List Int × List UInt8) : vcFun Go.Proofs.Tryz.prog (Γof [(126, 0, (s_tNode n)), (189, 0, s_tMark)]) (Eof [(176, ⟨List UInt8,strA⟩)]) false (Lof ([(1,{ ι := Int × List Int, inv := fun i => (0 ≤ i.1 ∧ i.1 ≤ x.2.2.2.1.length) ∧ i.2.length = x.2.2.1.length, regs := fun i => [(0, tlr x.1 (x.2.1 ++ sepL (flatN x.1 n) x.2.2.2.2 (x.2.2.2.1.take i.1.toNat)) i.2), (2, .str x.2.2.2.2), (8, ints x.2.2.2.1), (9, .int .i64 x.2.2.2.1.length), (10, .int .i64 i.1)], als := [], meas := fun i => x.2.2.2.1.length - i.1.toNat })])) Go.Proofs.Tryz.f190.ntmps Go.Proofs.Tryz.f190.results.toList (Go.Proofs.Tryz.f190.body.getD .skip) (s_tList n) x = (True ∧ (∃ (i : Int × List Int), (((0 : Int) ≤ i.fst ∧ i.fst ≤ (↑(List.length x.snd.snd.snd.fst) : Int)) ∧ List.length i.snd = List.length x.snd.snd.fst) ∧ (AV.sl false (0 : Nat) (4 : Nat) Nd (ndA false) x.fst = AV.sl false (0 : Nat) (4 : Nat) Nd (ndA false) x.fst ∧ AV.sl true (0 : Nat) (4 : Nat) Sg sgA x.snd.fst = AV.sl true (0 : Nat) (4 : Nat) Sg sgA (x.snd.fst ++ sepL (flatN x.fst n) x.snd.snd.snd.snd (List.take (Int.toNat i.fst) x.snd.snd.snd.fst)) ∧ AV.sl true (0 : Nat) (1 : Nat) Int intA x.snd.snd.fst = AV.sl true (0 : Nat) (1 : Nat) Int intA i.snd ∧ x.snd.snd.snd.snd = x.snd.snd.snd.snd ∧ AV.sl false (0 : Nat) (1 : Nat) Int intA x.snd.snd.snd.fst = AV.sl false (0 : Nat) (1 : Nat) Int intA x.snd.snd.snd.fst ∧ (↑(List.length x.snd.snd.snd.fst) : Int) = (↑(List.length x.snd.snd.snd.fst) : Int) ∧ (0 : Int) = i.fst ∧ True) ∧ True) ∧ ∀ (i : Int × List Int), ((0 : Int) ≤ i.fst ∧ i.fst ≤ (↑(List.length x.snd.snd.snd.fst) : Int)) ∧ List.length i.snd = List.length x.snd.snd.fst → bcase (decide (i.fst < (↑(List.length x.snd.snd.snd.fst) : Int))) (((0 : Int) ≤ i.fst ∧ i.fst < (↑(List.length x.snd.snd.snd.fst) : Int)) ∧ ∀ (e : Int), x.snd.snd.snd.fst[Int.toNat i.fst]? = some e → bcase (decide (i.fst > (0 : Int))) (∃ (x_1 : List UInt8), x.snd.snd.snd.snd = x_1 ∧ ∃ (x_2 : List Nd × List Sg × List Int × List (List UInt8)), (List.length x_2.snd.fst ≤ (67108864 : Nat) ∧ List.length x_2.snd.snd.snd ≤ (1024 : Nat)) ∧ AV.sl false (0 : Nat) (4 : Nat) Nd (ndA false) x.fst = AV.sl false (0 : Nat) (4 : Nat) Nd (ndA false) x_2.fst ∧ AV.sl true (0 : Nat) (4 : Nat) Sg sgA (x.snd.fst ++ sepL (flatN x.fst n) x.snd.snd.snd.snd (List.take (Int.toNat i.fst) x.snd.snd.snd.fst)) = AV.sl true (0 : Nat) (4 : Nat) Sg sgA x_2.snd.fst ∧ AV.sl true (0 : Nat) (1 : Nat) Int intA i.snd = AV.sl true (0 : Nat) (1 : Nat) Int intA x_2.snd.snd.fst ∧ AV.sl false (0 : Nat) (1 : Nat) (List UInt8) (fun (x : List UInt8) => fzL (strA x)) [x_1] = AV.sl false (0 : Nat) (1 : Nat) (List UInt8) strA x_2.snd.snd.snd ∧ ∀ (y : Unit), True → ∃ (x_3 : List Nd × List Sg × List Int × Int), ((okNds x_3.fst ∧ List.length x_3.snd.snd.fst = List.length x_3.fst) ∧ kidP x_3.fst n x_3.snd.snd.snd ∧ fB n x_3.snd.fst) ∧ AV.sl false (0 : Nat) (4 : Nat) Nd (ndA false) x_2.fst = AV.sl false (0 : Nat) (4 : Nat) Nd (ndA false) x_3.fst ∧ AV.sl true (0 : Nat) (4 : Nat) Sg sgA (x_2.snd.fst ++ List.map mkS x_2.snd.snd.snd) = AV.sl true (0 : Nat) (4 : Nat) Sg sgA x_3.snd.fst ∧ AV.sl true (0 : Nat) (1 : Nat) Int intA x_2.snd.snd.fst = AV.sl true (0 : Nat) (1 : Nat) Int intA x_3.snd.snd.fst ∧ e = x_3.snd.snd.snd ∧ ∀ (y : List Int), List.length y = List.length x_3.snd.snd.fst → inR IntKind.i64 (i.fst + (1 : Int)) ∧ ∃ (i' : Int × List Int), (((0 : Int) ≤ i'.fst ∧ i'.fst ≤ (↑(List.length x.snd.snd.snd.fst) : Int)) ∧ List.length i'.snd = List.length x.snd.snd.fst) ∧ List.length x.snd.snd.snd.fst - Int.toNat i'.fst < List.length x.snd.snd.snd.fst - Int.toNat i.fst ∧ (AV.sl false (0 : Nat) (4 : Nat) Nd (ndA false) x_3.fst = AV.sl false (0 : Nat) (4 : Nat) Nd (ndA false) x.fst ∧ AV.sl true (0 : Nat) (4 : Nat) Sg sgA (x_3.snd.fst ++ flatN x_3.fst n x_3.snd.snd.snd) = AV.sl true (0 : Nat) (4 : Nat) Sg sgA (x.snd.fst ++ sepL (flatN x.fst n) x.snd.snd.snd.snd (List.take (Int.toNat i'.fst) x.snd.snd.snd.fst)) ∧ AV.sl true (0 : Nat) (1 : Nat) Int intA y = AV.sl true (0 : Nat) (1 : Nat) Int intA i'.snd ∧ x.snd.snd.snd.snd = x.snd.snd.snd.snd ∧ AV.sl false (0 : Nat) (1 : Nat) Int intA x.snd.snd.snd.fst = AV.sl false (0 : Nat) (1 : Nat) Int intA x.snd.snd.snd.fst ∧ (↑(List.length x.snd.snd.snd.fst) : Int) = (↑(List.length x.snd.snd.snd.fst) : Int) ∧ i.fst + (1 : Int) = i'.fst ∧ True) ∧ True) (∃ (x_1 : List Nd × List Sg × List Int × Int), ((okNds x_1.fst ∧ List.length x_1.snd.snd.fst = List.length x_1.fst) ∧ kidP x_1.fst n x_1.snd.snd.snd ∧ fB n x_1.snd.fst) ∧ AV.sl false (0 : Nat) (4 : Nat) Nd (ndA false) x.fst = AV.sl false (0 : Nat) (4 : Nat) Nd (ndA false) x_1.fst ∧ AV.sl true (0 : Nat) (4 : Nat) Sg sgA (x.snd.fst ++ sepL (flatN x.fst n) x.snd.snd.snd.snd (List.take (Int.toNat i.fst) x.snd.snd.snd.fst)) = AV.sl true (0 : Nat) (4 : Nat) Sg sgA x_1.snd.fst ∧ AV.sl true (0 : Nat) (1 : Nat) Int intA i.snd = AV.sl true (0 : Nat) (1 : Nat) Int intA x_1.snd.snd.fst ∧ e = x_1.snd.snd.snd ∧ ∀ (y : List Int), List.length y = List.length x_1.snd.snd.fst → inR IntKind.i64 (i.fst + (1 : Int)) ∧ ∃ (i' : Int × List Int), (((0 : Int) ≤ i'.fst ∧ i'.fst ≤ (↑(List.length x.snd.snd.snd.fst) : Int)) ∧ List.length i'.snd = List.length x.snd.snd.fst) ∧ List.length x.snd.snd.snd.fst - Int.toNat i'.fst < List.length x.snd.snd.snd.fst - Int.toNat i.fst ∧ (AV.sl false (0 : Nat) (4 : Nat) Nd (ndA false) x_1.fst = AV.sl false (0 : Nat) (4 : Nat) Nd (ndA false) x.fst ∧ AV.sl true (0 : Nat) (4 : Nat) Sg sgA (x_1.snd.fst ++ flatN x_1.fst n x_1.snd.snd.snd) = AV.sl true (0 : Nat) (4 : Nat) Sg sgA (x.snd.fst ++ sepL (flatN x.fst n) x.snd.snd.snd.snd (List.take (Int.toNat i'.fst) x.snd.snd.snd.fst)) ∧ AV.sl true (0 : Nat) (1 : Nat) Int intA y = AV.sl true (0 : Nat) (1 : Nat) Int intA i'.snd ∧ x.snd.snd.snd.snd = x.snd.snd.snd.snd ∧ AV.sl false (0 : Nat) (1 : Nat) Int intA x.snd.snd.snd.fst = AV.sl false (0 : Nat) (1 : Nat) Int intA x.snd.snd.snd.fst ∧ (↑(List.length x.snd.snd.snd.fst) : Int) = (↑(List.length x.snd.snd.snd.fst) : Int) ∧ i.fst + (1 : Int) = i'.fst ∧ True) ∧ True)) (∃ (y : List Int), List.length y = List.length x.snd.snd.fst ∧ AV.sl false (0 : Nat) (4 : Nat) Nd (ndA false) x.fst = AV.sl false (0 : Nat) (4 : Nat) Nd (ndA false) x.fst ∧ AV.sl true (0 : Nat) (4 : Nat) Sg sgA (x.snd.fst ++ sepL (flatN x.fst n) x.snd.snd.snd.snd (List.take (Int.toNat i.fst) x.snd.snd.snd.fst)) = AV.sl true (0 : Nat) (4 : Nat) Sg sgA (x.snd.fst ++ sepL (flatN x.fst n) x.snd.snd.snd.snd x.snd.snd.snd.fst) ∧ AV.sl true (0 : Nat) (1 : Nat) Int intA i.snd = AV.sl true (0 : Nat) (1 : Nat) Int intA y ∧ True)) := by kernel_rfl
theorem tList_ok (n : Nat) (hc : Contract G Go.Proofs.Tryz.prog 126 (s_tNode n)) : Contract G Tryz.prog 190 (s_tList n) :=
  vcFun_ok (Γ := Γof [(126, 0, (s_tNode n)), (189, 0, s_tMark)]) (E := Eof [(176, ⟨List UInt8,strA⟩)]) (ov := false) (L := fun x => Lof ([(1,{ ι := Int × List Int, inv := fun i => (0 ≤ i.1 ∧ i.1 ≤ x.2.2.2.1.length) ∧ i.2.length = x.2.2.1.length, regs := fun i => [(0, tlr x.1 (x.2.1 ++ sepL (flatN x.1 n) x.2.2.2.2 (x.2.2.2.1.take i.1.toNat)) i.2), (2, .str x.2.2.2.2), (8, ints x.2.2.2.1), (9, .int .i64 x.2.2.2.1.length), (10, .int .i64 i.1)], als := [], meas := fun i => x.2.2.2.1.length - i.1.toNat })])) Tryz.func190 rfl (by decide) (Γof_ok (l := [(126, 0, (s_tNode n)), (189, 0, s_tMark)]) ⟨hc, tMark_ok, trivial⟩) fun (x : List Nd × List Sg × List Int × List Int × List UInt8) (hx : (okNds x.1 ∧ x.2.2.1.length = x.1.length) ∧ listP x.1 n x.2.2.2.1 x.2.1) => (tList_vc n x).mpr (by
  obtain ⟨⟨h1, h2⟩, h3⟩ := hx
  have hll := h3.2.1
  (repeat' first | with_reducible rfl | exact True.intro | refine inR_i64 ?_ ?_ | with_reducible refine And.intro ?_ ?_ | with_reducible refine bcase_dec (fun _ => ?_) (fun _ => ?_) | with_reducible refine bcase_bne (fun _ => ?_) (fun _ => ?_) | with_reducible refine bcase_beq (fun _ => ?_) (fun _ => ?_) | with_reducible refine bcase_not (fun _ => ?_) (fun _ => ?_) | refine bcase_intro (fun _ => ?_) (fun _ => ?_) | refine sl_eq ?_ | refine ex_flip () ?_ ?_ | (apply ex_flip6 <;> try dsimp only) | (apply ex_flip5 <;> try dsimp only) | (apply ex_flip4 <;> try dsimp only) | (apply ex_flip3 <;> try dsimp only) | (apply ex_flip2 <;> try dsimp only) | apply ex_flip | (refine Prod.forall.2 ?_; intro _; try dsimp only) | (intro _; try dsimp only))
  all_goals first
    | rfl
    | omega
    | exact h1
    | (simp [sepL]; done)
    | exact h3.2.2.1 _ (memE (by assumption))
    | (rw [List.take_of_length_le (by omega)]; done)
    | exact tl_fB0 h3
    | exact tl_fB1 h3
    | exact tl_26 h3
    | exact tl_eq1 (by assumption) (by assumption)
    | exact tl_eq0 (by assumption) (by omega) (by assumption)
    | skip)

def eachP (ns : List Nd) (n : Nat) (l : List Int) (s : List Sg) : Prop := listP ns n l s
theorem te_len {ns : List Nd} {n : Nat} {l : List Int} {s : List Sg} {j : Nat} (h : listP ns n l s) : fB n (s ++ (l.take j).flatMap (flatN ns n)) := by
  have h1 := (@list_len ns n l s [] j h).2
  have h2 := h.2.2.2.2
  unfold fB; rw [List.length_append]; omega
theorem te_eq {f : Int → List Sg} {l : List Int} {i : Int} {c : Int} {s : List Sg} (h0 : 0 ≤ i) (hc : l[i.toNat]? = some c) : s ++ (l.take i.toNat).flatMap f ++ f c = s ++ (l.take (i + 1).toNat).flatMap f := by
  rw [toNat1 h0, takeE hc]; simp
def s_tEach (n : Nat) : Sig := { X := List Nd × List Sg × List Int × List Int, args := fun x => [tlr x.1 x.2.1 x.2.2.1, ints x.2.2.2], pre := fun x => (okNds x.1 ∧ x.2.2.1.length = x.1.length) ∧ listP x.1 n x.2.2.2 x.2.1, Y := List Int, post := fun x y => y.length = x.2.2.1.length, res := fun x y => .tup [], outs := fun x y => [tlr x.1 (x.2.1 ++ x.2.2.2.flatMap (flatN x.1 n)) y, .top], keep := true }
theorem tEach_vc (n : Nat) (x : List Nd × List Sg × List Int × List Int) : vcFun Go.Proofs.Tryz.prog (Γof [(126, 0, (s_tNode n))]) (Eof []) false (Lof ([(1,{ ι := Int × List Int, inv := fun i => (0 ≤ i.1 ∧ i.1 ≤ x.2.2.2.length) ∧ i.2.length = x.2.2.1.length, regs := fun i => [(0, tlr x.1 (x.2.1 ++ (x.2.2.2.take i.1.toNat).flatMap (flatN x.1 n)) i.2), (6, ints x.2.2.2), (7, .int .i64 x.2.2.2.length), (8, .int .i64 i.1)], als := [], meas := fun i => x.2.2.2.length - i.1.toNat })])) Go.Proofs.Tryz.f191.ntmps Go.Proofs.Tryz.f191.results.toList (Go.Proofs.Tryz.f191.body.getD .skip) (s_tEach n) x = (True ∧ (∃ (i : Int × List Int), (((0 : Int) ≤ i.fst ∧ i.fst ≤ (↑(List.length x.snd.snd.snd) : Int)) ∧ List.length i.snd = List.length x.snd.snd.fst) ∧ (AV.sl false (0 : Nat) (4 : Nat) Nd (ndA false) x.fst = AV.sl false (0 : Nat) (4 : Nat) Nd (ndA false) x.fst ∧ AV.sl true (0 : Nat) (4 : Nat) Sg sgA x.snd.fst = AV.sl true (0 : Nat) (4 : Nat) Sg sgA (x.snd.fst ++ List.flatMap (flatN x.fst n) (List.take (Int.toNat i.fst) x.snd.snd.snd)) ∧ AV.sl true (0 : Nat) (1 : Nat) Int intA x.snd.snd.fst = AV.sl true (0 : Nat) (1 : Nat) Int intA i.snd ∧ AV.sl false (0 : Nat) (1 : Nat) Int intA x.snd.snd.snd = AV.sl false (0 : Nat) (1 : Nat) Int intA x.snd.snd.snd ∧ (↑(List.length x.snd.snd.snd) : Int) = (↑(List.length x.snd.snd.snd) : Int) ∧ (0 : Int) = i.fst ∧ True) ∧ True) ∧ ∀ (i : Int × List Int), ((0 : Int) ≤ i.fst ∧ i.fst ≤ (↑(List.length x.snd.snd.snd) : Int)) ∧ List.length i.snd = List.length x.snd.snd.fst → bcase (decide (i.fst < (↑(List.length x.snd.snd.snd) : Int))) (((0 : Int) ≤ i.fst ∧ i.fst < (↑(List.length x.snd.snd.snd) : Int)) ∧ ∀ (e : Int), x.snd.snd.snd[Int.toNat i.fst]? = some e → ∃ (x_1 : List Nd × List Sg × List Int × Int), ((okNds x_1.fst ∧ List.length x_1.snd.snd.fst = List.length x_1.fst) ∧ kidP x_1.fst n x_1.snd.snd.snd ∧ fB n x_1.snd.fst) ∧ AV.sl false (0 : Nat) (4 : Nat) Nd (ndA false) x.fst = AV.sl false (0 : Nat) (4 : Nat) Nd (ndA false) x_1.fst ∧ AV.sl true (0 : Nat) (4 : Nat) Sg sgA (x.snd.fst ++ List.flatMap (flatN x.fst n) (List.take (Int.toNat i.fst) x.snd.snd.snd)) = AV.sl true (0 : Nat) (4 : Nat) Sg sgA x_1.snd.fst ∧ AV.sl true (0 : Nat) (1 : Nat) Int intA i.snd = AV.sl true (0 : Nat) (1 : Nat) Int intA x_1.snd.snd.fst ∧ e = x_1.snd.snd.snd ∧ ∀ (y : List Int), List.length y = List.length x_1.snd.snd.fst → inR IntKind.i64 (i.fst + (1 : Int)) ∧ ∃ (i' : Int × List Int), (((0 : Int) ≤ i'.fst ∧ i'.fst ≤ (↑(List.length x.snd.snd.snd) : Int)) ∧ List.length i'.snd = List.length x.snd.snd.fst) ∧ List.length x.snd.snd.snd - Int.toNat i'.fst < List.length x.snd.snd.snd - Int.toNat i.fst ∧ (AV.sl false (0 : Nat) (4 : Nat) Nd (ndA false) x_1.fst = AV.sl false (0 : Nat) (4 : Nat) Nd (ndA false) x.fst ∧ AV.sl true (0 : Nat) (4 : Nat) Sg sgA (x_1.snd.fst ++ flatN x_1.fst n x_1.snd.snd.snd) = AV.sl true (0 : Nat) (4 : Nat) Sg sgA (x.snd.fst ++ List.flatMap (flatN x.fst n) (List.take (Int.toNat i'.fst) x.snd.snd.snd)) ∧ AV.sl true (0 : Nat) (1 : Nat) Int intA y = AV.sl true (0 : Nat) (1 : Nat) Int intA i'.snd ∧ AV.sl false (0 : Nat) (1 : Nat) Int intA x.snd.snd.snd = AV.sl false (0 : Nat) (1 : Nat) Int intA x.snd.snd.snd ∧ (↑(List.length x.snd.snd.snd) : Int) = (↑(List.length x.snd.snd.snd) : Int) ∧ i.fst + (1 : Int) = i'.fst ∧ True) ∧ True) (∃ (y : List Int), List.length y = List.length x.snd.snd.fst ∧ AV.sl false (0 : Nat) (4 : Nat) Nd (ndA false) x.fst = AV.sl false (0 : Nat) (4 : Nat) Nd (ndA false) x.fst ∧ AV.sl true (0 : Nat) (4 : Nat) Sg sgA (x.snd.fst ++ List.flatMap (flatN x.fst n) (List.take (Int.toNat i.fst) x.snd.snd.snd)) = AV.sl true (0 : Nat) (4 : Nat) Sg sgA (x.snd.fst ++ List.flatMap (flatN x.fst n) x.snd.snd.snd) ∧ AV.sl true (0 : Nat) (1 : Nat) Int intA i.snd = AV.sl true (0 : Nat) (1 : Nat) Int intA y ∧ True)) := by kernel_rfl
theorem tEach_ok (n : Nat) (hc : Contract G Go.Proofs.Tryz.prog 126 (s_tNode n)) : Contract G Tryz.prog 191 (s_tEach n) :=
  vcFun_ok (Γ := Γof [(126, 0, (s_tNode n))]) (E := Eof []) (ov := false) (L := fun x => Lof ([(1,{ ι := Int × List Int, inv := fun i => (0 ≤ i.1 ∧ i.1 ≤ x.2.2.2.length) ∧ i.2.length = x.2.2.1.length, regs := fun i => [(0, tlr x.1 (x.2.1 ++ (x.2.2.2.take i.1.toNat).flatMap (flatN x.1 n)) i.2), (6, ints x.2.2.2), (7, .int .i64 x.2.2.2.length), (8, .int .i64 i.1)], als := [], meas := fun i => x.2.2.2.length - i.1.toNat })])) Tryz.func191 rfl (by decide) (Γof_ok (l := [(126, 0, (s_tNode n))]) ⟨hc, trivial⟩) fun (x : List Nd × List Sg × List Int × List Int) (hx : (okNds x.1 ∧ x.2.2.1.length = x.1.length) ∧ listP x.1 n x.2.2.2 x.2.1) => (tEach_vc n x).mpr (by
  obtain ⟨⟨h1, h2⟩, h3⟩ := hx
  have hll := h3.2.1
  (repeat' first | with_reducible rfl | exact True.intro | refine inR_i64 ?_ ?_ | with_reducible refine And.intro ?_ ?_ | with_reducible refine bcase_dec (fun _ => ?_) (fun _ => ?_) | with_reducible refine bcase_bne (fun _ => ?_) (fun _ => ?_) | with_reducible refine bcase_beq (fun _ => ?_) (fun _ => ?_) | with_reducible refine bcase_not (fun _ => ?_) (fun _ => ?_) | refine bcase_intro (fun _ => ?_) (fun _ => ?_) | refine sl_eq ?_ | refine ex_flip () ?_ ?_ | (apply ex_flip6 <;> try dsimp only) | (apply ex_flip5 <;> try dsimp only) | (apply ex_flip4 <;> try dsimp only) | (apply ex_flip3 <;> try dsimp only) | (apply ex_flip2 <;> try dsimp only) | apply ex_flip | (refine Prod.forall.2 ?_; intro _; try dsimp only) | (intro _; try dsimp only))
  all_goals first
    | rfl
    | omega
    | exact h1
    | (simp; done)
    | exact h3.2.2.1 _ (memE (by assumption))
    | exact te_len h3
    | exact te_eq (by omega) (by assumption)
    | (rw [List.take_of_length_le (by omega)]; done)
    | ((try simp only [i64max]); omega)
    | skip)

end Go.My
end
