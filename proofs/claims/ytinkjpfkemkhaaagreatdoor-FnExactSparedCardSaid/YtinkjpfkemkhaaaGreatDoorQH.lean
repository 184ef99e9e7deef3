/- A part of the proof: the engine and the contracts, joined. -/
import Derived.Test.YtinkjpfkemkhaaaGreatDoorQG
section
/- The laws' helpers over groups, and marks: what is written into what came back, and looked at again. -/
set_option linter.unusedVariables false
set_option linter.unusedSimpArgs false
namespace Go.My
open Go.Eng Go.Proofs
variable {G : GInv}

/- equality of groups -/
def beqGr (a b : Gr) : Bool := a.notes == b.notes && a.member == b.member
theorem beqGr_eq {a b : Gr} : beqGr a b = true ↔ a = b := by
  cases a; cases b; simp [beqGr]
theorem beqGr_self (a : Gr) : beqGr a a = true := beqGr_eq.2 rfl
def beqGrs : List Gr → List Gr → Bool
  | [], [] => true
  | a :: l, b :: m => beqGr a b && beqGrs l m
  | _, _ => false
theorem beqGrs_eq : ∀ {a b : List Gr}, beqGrs a b = true ↔ a = b
  | [], [] => by simp [beqGrs]
  | [], _ :: _ => by simp [beqGrs]
  | _ :: _, [] => by simp [beqGrs]
  | a :: l, b :: m => by simp [beqGrs, beqGr_eq, beqGrs_eq (a := l) (b := m)]
theorem beqGrs_false {a b : List Gr} (h : a ≠ b) : false = beqGrs a b := by
  cases hb : beqGrs a b
  · rfl
  · exact (h (beqGrs_eq.1 hb)).elim
theorem beqGrs_true {a b : List Gr} (h : a = b) : true = beqGrs a b := (beqGrs_eq.2 h).symm
theorem beqGrs_self (a : List Gr) : beqGrs a a = true := beqGrs_eq.2 rfl
def smallGrs (l : List Gr) : Prop := l.length < 2 ^ 40 ∧ ∀ g ∈ l, g.notes.length < 2 ^ 40
theorem fz_grs {l : List Gr} : AV.sl false 0 2 Gr (fun x => fzL (grA true x)) l = AV.sl false 0 2 Gr (grA false) l := rfl

/- marks -/
def mkI (k : Int) (n : Nat) : List Int := (List.range n).map fun j : Nat => k + (j : Int)
theorem mkI_len {k : Int} {n : Nat} : (mkI k n).length = n := by simp [mkI]
theorem mkI_at {k : Int} {n i : Nat} (h : i < n) : (mkI k n)[i]? = some (k + i) := by simp [mkI, h]
theorem mkI_set {k : Int} {l : List Int} {i : Nat} (h : i < l.length) : (mkI k i ++ l.drop i).set i (k + i) = mkI k (i + 1) ++ l.drop (i + 1) := by
  rw [List.set_append_right _ _ (by rw [mkI_len]; exact Nat.le_refl i), mkI_len, Nat.sub_self, List.drop_eq_getElem_cons h, List.set_cons_zero]
  simp [mkI, List.range_succ]
theorem mkI_full {k : Int} {l : List Int} {i : Nat} (h : l.length ≤ i) (h2 : i ≤ l.length) : mkI k i ++ l.drop i = mkI k l.length := by
  obtain rfl : i = l.length := by omega
  simp
def mkG (k : Int) (g : Gr) : Gr := ⟨mkI k g.notes.length, k + g.notes.length⟩
def totG : List Gr → Int
  | [] => 0
  | g :: l => g.notes.length + 1 + totG l
def mkGs (k : Int) : List Gr → List Gr
  | [] => []
  | g :: l => mkG k g :: mkGs (k + g.notes.length + 1) l
theorem totG_snoc : ∀ {l : List Gr} {g : Gr}, totG (l ++ [g]) = totG l + g.notes.length + 1
  | [], g => by simp [totG]
  | x :: l, g => by simp only [List.cons_append, totG]; rw [totG_snoc]; omega
theorem totG_cons {l : List Gr} {g : Gr} : totG (g :: l) = g.notes.length + 1 + totG l := rfl
theorem mkGs_snoc : ∀ {l : List Gr} {g : Gr} {k : Int}, mkGs k (l ++ [g]) = mkGs k l ++ [mkG (k + totG l) g]
  | [], g, k => by simp [mkGs, totG]
  | x :: l, g, k => by
    simp only [List.cons_append, mkGs]; rw [mkGs_snoc, totG_cons]
    rw [show k + (x.notes.length : Int) + 1 + totG l = k + (x.notes.length + 1 + totG l) by omega]
theorem mkGs_len : ∀ {l : List Gr} {k : Int}, (mkGs k l).length = l.length
  | [], k => rfl
  | x :: l, k => by simp [mkGs, mkGs_len]
theorem mkGs_at : ∀ {l : List Gr} {k : Int} {i : Nat} {g : Gr}, l[i]? = some g → (mkGs k l)[i]? = some (mkG (k + totG (l.take i)) g)
  | [], k, i, g, h => by simp at h
  | x :: l, k, 0, g, h => by simp at h; subst h; simp [mkGs, totG]
  | x :: l, k, i + 1, g, h => by
    simp only [mkGs, List.getElem?_cons_succ, List.take_succ_cons] at h ⊢
    rw [mkGs_at h, totG_cons]; congr 2; omega
theorem totG_bd : ∀ {l : List Gr} {n : Nat}, (∀ g ∈ l, g.notes.length ≤ n) → 0 ≤ totG l ∧ totG l ≤ l.length * (n + 1)
  | [], n, h => by simp [totG]
  | x :: l, n, h => by
    have h1 := h x (by simp)
    have h2 := totG_bd (l := l) (n := n) fun g hg => h g (by simp [hg])
    rw [totG_cons, List.length_cons]
    have e : ((l.length + 1 : Nat) : Int) * ((n : Int) + 1) = l.length * (n + 1) + (n + 1) := by rw [Int.natCast_add, Int.add_mul]; simp
    rw [e]; omega
theorem mkGs_set {l : List Gr} {k : Int} {i : Nat} {g : Gr} (h : l[i]? = some g) : (mkGs k (l.take i) ++ l.drop i).set i (mkG (k + totG (l.take i)) g) = mkGs k (l.take (i + 1)) ++ l.drop (i + 1) := by
  have hi := (getE h).1
  have e : (mkGs k (l.take i)).length = i := by rw [mkGs_len, List.length_take]; omega
  rw [List.set_append_right _ _ (by rw [e]; exact Nat.le_refl i), e, Nat.sub_self, dropE h, List.set_cons_zero, takeE h, mkGs_snoc]
  simp

/- order -/
theorem asc_iff {α : Type} {lt : α → α → Bool} {l : List α} : asc lt l = true ↔ ∀ (j : Nat) (a b : α), l[j + 1]? = some b → l[j]? = some a → lt b a = false := by
  unfold asc
  rw [List.all_eq_true]
  constructor
  · intro h j a b hb ha
    have := h j (List.mem_range.2 (by have := (getE hb).1; omega))
    rw [hb, ha] at this
    simpa using this
  · intro h j hj
    have hj := List.mem_range.1 hj
    have e1 : l[j + 1]? = some l[j + 1] := by simp
    have e2 : l[j]? = some l[j] := by simp
    rw [e1, e2]
    simp [h j _ _ e1 e2]
theorem asc_not {α : Type} {lt : α → α → Bool} {l : List α} {j : Nat} {a b : α} (hb : l[j + 1]? = some b) (ha : l[j]? = some a) (h : lt b a = true) : asc lt l = false := by
  rw [Bool.eq_false_iff]; intro hh
  rw [asc_iff.1 hh j a b hb ha] at h; cases h
def ltG (ns : List Nd) (a b : Gr) : Bool := bLt (gkey ns a.member) (gkey ns b.member)
def cmpV (a b : List UInt8) : Int := if bLt a b then -1 else if !(bLt a b || a == b) then 1 else 0
theorem cmpV_neg {a b : List UInt8} : cmpV a b < 0 ↔ bLt a b = true := by
  unfold cmpV
  by_cases h : bLt a b = true
  · simp [h]
  · rw [if_neg h]; split <;> simp [h]
def s_isNaN  : Sig := { X := List UInt8, args := fun x => [.str x], pre := fun x => True, Y := Unit, post := fun x y => True, res := fun x y => .bool false, outs := fun x y => [.top], keep := false }
theorem isNaN_vc (x : List UInt8) : vcFun Go.Proofs.Tryz.prog (Γof []) (Eof []) false (Lof ([])) Go.Proofs.Tryz.f117.ntmps Go.Proofs.Tryz.f117.results.toList (Go.Proofs.Tryz.f117.body.getD .skip) s_isNaN x = ((∀ (y : Unit), True → True ∧ True ∧ True) ∧ ∃ (y : Unit), True ∧ (!x == x) = false ∧ True) := by kernel_rfl
theorem isNaN_ok  : Contract G Tryz.prog 117 s_isNaN :=
  vcFun_ok (Γ := Γof []) (E := Eof []) (ov := false) (L := fun x => Lof ([])) Tryz.func117 rfl (by decide) (Γof_ok (l := []) trivial) fun (x : List UInt8) (hx : True) => (isNaN_vc  x).mpr (by
  (repeat' first | with_reducible rfl | exact True.intro | refine inR_i64 ?_ ?_ | with_reducible refine And.intro ?_ ?_ | with_reducible refine bcase_dec (fun _ => ?_) (fun _ => ?_) | with_reducible refine bcase_bne (fun _ => ?_) (fun _ => ?_) | with_reducible refine bcase_beq (fun _ => ?_) (fun _ => ?_) | with_reducible refine bcase_not (fun _ => ?_) (fun _ => ?_) | refine bcase_intro (fun _ => ?_) (fun _ => ?_) | refine sl_eq ?_ | refine ex_flip () ?_ ?_ | (apply ex_flip6 <;> try dsimp only) | (apply ex_flip5 <;> try dsimp only) | (apply ex_flip4 <;> try dsimp only) | (apply ex_flip3 <;> try dsimp only) | (apply ex_flip2 <;> try dsimp only) | apply ex_flip | (refine Prod.forall.2 ?_; intro _; try dsimp only) | (intro _; try dsimp only)) <;> (try dsimp only at *) <;> (try simp only [i64max, List.length_cons, List.length_nil]) <;> (try omega)
  all_goals simp)

def s_cmpStr  : Sig := { X := List UInt8 × List UInt8, args := fun x => [.str x.1, .str x.2], pre := fun x => True, Y := Unit, post := fun x y => True, res := fun x y => .int .i64 (cmpV x.1 x.2), outs := fun x y => [.top, .top], keep := false }
theorem cmpStr_vc (x : List UInt8 × List UInt8) : vcFun Go.Proofs.Tryz.prog (Γof [(117, 0, s_isNaN)]) (Eof []) false (Lof ([])) Go.Proofs.Tryz.f66.ntmps Go.Proofs.Tryz.f66.results.toList (Go.Proofs.Tryz.f66.body.getD .skip) s_cmpStr x = ((∀ (y : Unit), True → True ∧ True ∧ True ∧ True) ∧ ∃ (x_1 : List UInt8), True ∧ x.fst = x_1 ∧ ∀ (y : Unit), True → ∃ (x_2 : List UInt8), True ∧ x.snd = x_2 ∧ ∀ (y : Unit), True → bcase (Op.bytesLess x.fst x.snd) (∃ (y : Unit), True ∧ (-1 : Int) = cmpV x.fst x.snd ∧ True) (bcase (!(Op.bytesLess x.fst x.snd || x.fst == x.snd)) (∃ (y : Unit), True ∧ (1 : Int) = cmpV x.fst x.snd ∧ True) (∃ (y : Unit), True ∧ (0 : Int) = cmpV x.fst x.snd ∧ True))) := by kernel_rfl
theorem cmpStr_ok  : Contract G Tryz.prog 66 s_cmpStr :=
  vcFun_ok (Γ := Γof [(117, 0, s_isNaN)]) (E := Eof []) (ov := false) (L := fun x => Lof ([])) Tryz.func66 rfl (by decide) (Γof_ok (l := [(117, 0, s_isNaN)]) ⟨isNaN_ok, trivial⟩) fun (x : List UInt8 × List UInt8) (hx : True) => (cmpStr_vc  x).mpr (by
  (repeat' first | with_reducible rfl | exact True.intro | refine inR_i64 ?_ ?_ | with_reducible refine And.intro ?_ ?_ | with_reducible refine bcase_dec (fun _ => ?_) (fun _ => ?_) | with_reducible refine bcase_bne (fun _ => ?_) (fun _ => ?_) | with_reducible refine bcase_beq (fun _ => ?_) (fun _ => ?_) | with_reducible refine bcase_not (fun _ => ?_) (fun _ => ?_) | refine bcase_intro (fun _ => ?_) (fun _ => ?_) | refine sl_eq ?_ | refine ex_flip () ?_ ?_ | (apply ex_flip6 <;> try dsimp only) | (apply ex_flip5 <;> try dsimp only) | (apply ex_flip4 <;> try dsimp only) | (apply ex_flip3 <;> try dsimp only) | (apply ex_flip2 <;> try dsimp only) | apply ex_flip | (refine Prod.forall.2 ?_; intro _; try dsimp only) | (intro _; try dsimp only)) <;> (try dsimp only at *) <;> (try simp only [i64max, List.length_cons, List.length_nil]) <;> (try omega)
  all_goals simp_all [cmpV])

end Go.My
end
section
/- The laws' helpers over groups and marks; the laws of order and of groups. -/
set_option linter.unusedVariables false
set_option linter.unusedSimpArgs false
namespace Go.My
open Go.Eng Go.Proofs
variable {G : GInv}

theorem ex_gr {p q : Gr → Prop} (a : List Int) (b : Int) (h1 : p ⟨a, b⟩) (h2 : q ⟨a, b⟩) : ∃ x, p x ∧ q x := ⟨_, h1, h2⟩
theorem ex_nd {p q : Nd → Prop} (a : Int) (b : List UInt8) (c : List Int) (d : Bool) (h1 : p ⟨a, b, c, d⟩) (h2 : q ⟨a, b, c, d⟩) : ∃ x, p x ∧ q x := ⟨_, h1, h2⟩
theorem ex_gr2 {p q : Gr → Prop} (a : List Int) (b : Int) (h2 : q ⟨a, b⟩) (h1 : p ⟨a, b⟩) : ∃ x, p x ∧ q x := ⟨_, h1, h2⟩
theorem ex_nd2 {p q : Nd → Prop} (a : Int) (b : List UInt8) (c : List Int) (d : Bool) (h2 : q ⟨a, b, c, d⟩) (h1 : p ⟨a, b, c, d⟩) : ∃ x, p x ∧ q x := ⟨_, h1, h2⟩
def s_eqGr  : Sig := { X := Gr × Gr, args := fun x => [.agg (grA false x.1), .agg (grA false x.2)], pre := fun x => x.1.notes.length < 2 ^ 62 ∧ x.2.notes.length < 2 ^ 62, Y := Unit, post := fun x y => True, res := fun x y => .bool (beqGr x.1 x.2), outs := fun x y => [.top, .top], keep := false }
theorem eqGr_vc (x : Gr × Gr) : vcFun Go.Proofs.Tryz.prog (Γof [(38, 0, s_eqInts)]) (Eof []) false (Lof ([])) Go.Proofs.Tryz.f68.ntmps Go.Proofs.Tryz.f68.results.toList (Go.Proofs.Tryz.f68.body.getD .skip) s_eqGr x = ((∀ (y : Unit), True → True ∧ True ∧ True ∧ True) ∧ ∃ (x_1 : List Int × List Int), (List.length x_1.fst < (9223372036854775808 : Nat) ∧ List.length x_1.snd < (9223372036854775808 : Nat)) ∧ AV.sl false (0 : Nat) (1 : Nat) Int intA x.fst.notes = AV.sl false (0 : Nat) (1 : Nat) Int intA x_1.fst ∧ AV.sl false (0 : Nat) (1 : Nat) Int intA x.snd.notes = AV.sl false (0 : Nat) (1 : Nat) Int intA x_1.snd ∧ ∀ (y : Unit), True → bcase (!x_1.fst == x_1.snd) (∃ (y : Unit), True ∧ false = beqGr x.fst x.snd ∧ True) (bcase (x.fst.member != x.snd.member) (∃ (y : Unit), True ∧ false = beqGr x.fst x.snd ∧ True) (∃ (y : Unit), True ∧ true = beqGr x.fst x.snd ∧ True))) := by kernel_rfl
theorem eqGr_ok  : Contract G Tryz.prog 68 s_eqGr :=
  vcFun_ok (Γ := Γof [(38, 0, s_eqInts)]) (E := Eof []) (ov := false) (L := fun x => Lof ([])) Tryz.func68 rfl (by decide) (Γof_ok (l := [(38, 0, s_eqInts)]) ⟨eqInts_ok, trivial⟩) fun (x : Gr × Gr) (hx : x.1.notes.length < 2 ^ 62 ∧ x.2.notes.length < 2 ^ 62) => (eqGr_vc  x).mpr (by
  obtain ⟨h1, h2⟩ := hx
  (repeat' first | with_reducible rfl | exact True.intro | refine inR_i64 ?_ ?_ | with_reducible refine And.intro ?_ ?_ | with_reducible refine bcase_dec (fun _ => ?_) (fun _ => ?_) | with_reducible refine bcase_bne (fun _ => ?_) (fun _ => ?_) | with_reducible refine bcase_beq (fun _ => ?_) (fun _ => ?_) | with_reducible refine bcase_not (fun _ => ?_) (fun _ => ?_) | refine bcase_intro (fun _ => ?_) (fun _ => ?_) | refine sl_eq ?_ | refine ex_flip () ?_ ?_ | (apply ex_flip6 <;> try dsimp only) | (apply ex_flip5 <;> try dsimp only) | (apply ex_flip4 <;> try dsimp only) | (apply ex_flip3 <;> try dsimp only) | (apply ex_flip2 <;> try dsimp only) | apply ex_flip | (refine Prod.forall.2 ?_; intro _; try dsimp only) | (intro _; try dsimp only)) <;> (try dsimp only at *) <;> (try simp only [i64max, List.length_cons, List.length_nil]) <;> (try omega)
  all_goals simp_all [beqGr]
  all_goals omega)

def lEqGrs (x : List Gr × List Gr) : LS := {
  ι := Int, inv := fun i => 0 ≤ i ∧ i ≤ x.1.length ∧ x.1.take i.toNat = x.2.take i.toNat, regs := fun i => [(0, grs x.1), (1, grs x.2), (5, .int .i64 i)], als := [], meas := fun i => x.1.length - i.toNat }
def s_eqGrs  : Sig := { X := List Gr × List Gr, args := fun x => [grs x.1, grs x.2], pre := fun x => smallGrs x.1 ∧ smallGrs x.2, Y := Unit, post := fun x y => True, res := fun x y => .bool (beqGrs x.1 x.2), outs := fun x y => [.top, .top], keep := false }
theorem eqGrs_vc (x : List Gr × List Gr) : vcFun Go.Proofs.Tryz.prog (Γof [(68, 0, s_eqGr)]) (Eof []) false (Lof ([(4,lEqGrs x)])) Go.Proofs.Tryz.f20.ntmps Go.Proofs.Tryz.f20.results.toList (Go.Proofs.Tryz.f20.body.getD .skip) s_eqGrs x = ((∀ (y : Unit), True → True ∧ True ∧ True ∧ True) ∧ bcase ((↑(List.length x.fst) : Int) != (↑(List.length x.snd) : Int)) (∃ (y : Unit), True ∧ false = beqGrs x.fst x.snd ∧ True) ((∃ (i : Int), ((0 : Int) ≤ i ∧ i ≤ (↑(List.length x.fst) : Int) ∧ List.take (Int.toNat i) x.fst = List.take (Int.toNat i) x.snd) ∧ (AV.sl false (0 : Nat) (2 : Nat) Gr (grA false) x.fst = AV.sl false (0 : Nat) (2 : Nat) Gr (grA false) x.fst ∧ AV.sl false (0 : Nat) (2 : Nat) Gr (grA false) x.snd = AV.sl false (0 : Nat) (2 : Nat) Gr (grA false) x.snd ∧ (0 : Int) = i ∧ True) ∧ True) ∧ ∀ (i : Int), (0 : Int) ≤ i ∧ i ≤ (↑(List.length x.fst) : Int) ∧ List.take (Int.toNat i) x.fst = List.take (Int.toNat i) x.snd → bcase (decide (i < (↑(List.length x.fst) : Int))) (true = true ∧ true = true ∧ ((0 : Int) ≤ i ∧ i < (↑(List.length x.fst) : Int)) ∧ ∀ (e : Gr), x.fst[Int.toNat i]? = some e → ((0 : Int) ≤ i ∧ i < (↑(List.length x.snd) : Int)) ∧ ∀ (e_1 : Gr), x.snd[Int.toNat i]? = some e_1 → ∃ (x_1 : Gr × Gr), (List.length x_1.fst.notes < (4611686018427387904 : Nat) ∧ List.length x_1.snd.notes < (4611686018427387904 : Nat)) ∧ AV.sl false (0 : Nat) (1 : Nat) Int intA e.notes = AV.sl false (0 : Nat) (1 : Nat) Int intA x_1.fst.notes ∧ e.member = x_1.fst.member ∧ AV.sl false (0 : Nat) (1 : Nat) Int intA e_1.notes = AV.sl false (0 : Nat) (1 : Nat) Int intA x_1.snd.notes ∧ e_1.member = x_1.snd.member ∧ ∃ (y0 : Unit), (∀ (y : Unit), True → AV.bool (beqGr x_1.fst x_1.snd) = AV.bool (beqGr x_1.fst x_1.snd)) ∧ true = true ∧ bcase (!beqGr x_1.fst x_1.snd) (∃ (y : Unit), True ∧ false = beqGrs x.fst x.snd ∧ True) (inR IntKind.i64 (i + (1 : Int)) ∧ ∃ (i' : Int), ((0 : Int) ≤ i' ∧ i' ≤ (↑(List.length x.fst) : Int) ∧ List.take (Int.toNat i') x.fst = List.take (Int.toNat i') x.snd) ∧ List.length x.fst - Int.toNat i' < List.length x.fst - Int.toNat i ∧ (AV.sl false (0 : Nat) (2 : Nat) Gr (grA false) x.fst = AV.sl false (0 : Nat) (2 : Nat) Gr (grA false) x.fst ∧ AV.sl false (0 : Nat) (2 : Nat) Gr (grA false) x.snd = AV.sl false (0 : Nat) (2 : Nat) Gr (grA false) x.snd ∧ i + (1 : Int) = i' ∧ True) ∧ True)) (∃ (y : Unit), True ∧ true = beqGrs x.fst x.snd ∧ True))) := by kernel_rfl
theorem eqGrs_ok  : Contract G Tryz.prog 20 s_eqGrs :=
  vcFun_ok (Γ := Γof [(68, 0, s_eqGr)]) (E := Eof []) (ov := false) (L := fun x => Lof ([(4,lEqGrs x)])) Tryz.func20 rfl (by decide) (Γof_ok (l := [(68, 0, s_eqGr)]) ⟨eqGr_ok, trivial⟩) fun (x : List Gr × List Gr) (hx : smallGrs x.1 ∧ smallGrs x.2) => (eqGrs_vc  x).mpr (by
  obtain ⟨h1, h2⟩ := hx; have hl1 := h1.1; have hl2 := h2.1
  (repeat' first | with_reducible rfl | exact True.intro | refine inR_i64 ?_ ?_ | with_reducible refine And.intro ?_ ?_ | with_reducible refine bcase_dec (fun _ => ?_) (fun _ => ?_) | with_reducible refine bcase_bne (fun _ => ?_) (fun _ => ?_) | with_reducible refine bcase_beq (fun _ => ?_) (fun _ => ?_) | with_reducible refine bcase_not (fun _ => ?_) (fun _ => ?_) | refine bcase_intro (fun _ => ?_) (fun _ => ?_) | refine sl_eq ?_ | refine ex_flip () ?_ ?_ | (apply ex_flip6 <;> try dsimp only) | (apply ex_flip5 <;> try dsimp only) | (apply ex_flip4 <;> try dsimp only) | (apply ex_flip3 <;> try dsimp only) | (apply ex_flip2 <;> try dsimp only) | apply ex_flip | (refine Prod.forall.2 ?_; intro _; try dsimp only) | (intro _; try dsimp only)) <;> (try dsimp only at *) <;> (try simp only [i64max, List.length_cons, List.length_nil]) <;> (try omega)
  · rename_i h; exact beqGrs_false (fun e => h (by rw [e]))
  · rfl
  · rename_i h i hi hl e he f hf hn
    exact beqGrs_false (fun e => by rw [e, hf] at he; rw [Option.some.inj he, beqGr_self] at hn; cases hn)
  · rename_i h i hi hl e he f hf hn
    exact takeEq hi.1 hi.2.2 he hf (beqGr_eq.1 hn)
  · rename_i h i hi hl e he f hf
    have := h1.2 _ (memE he); omega
  · rename_i h i hi hl e he f hf
    have := h2.2 _ (memE hf); omega
  · rename_i h i hi hl
    exact beqGrs_true (takeAll (by omega) hi.2.2 (by omega)))

theorem mk_len {k i : Int} {l : List Int} (h : 0 ≤ i ∧ i ≤ l.length) : (mkI k i.toNat ++ l.drop i.toNat).length = l.length := by rw [List.length_append, mkI_len, List.length_drop]; omega
theorem mk_set {k i : Int} {l : List Int} (h : 0 ≤ i ∧ i ≤ l.length) (hl : i < ((mkI k i.toNat ++ l.drop i.toNat).length : Int)) : (mkI k i.toNat ++ l.drop i.toNat).set i.toNat (k + i) = mkI k (i + 1).toNat ++ l.drop (i + 1).toNat := by
  rw [mk_len h] at hl
  have := @mkI_set k l i.toNat (by omega)
  rw [show ((i.toNat : Nat) : Int) = i by omega] at this
  rw [this, toNat1 h.1]
theorem mk_end {k i : Int} {l : List Int} (h : 0 ≤ i ∧ i ≤ l.length) (hl : ¬ i < ((mkI k i.toNat ++ l.drop i.toNat).length : Int)) : mkI k i.toNat ++ l.drop i.toNat = mkI k l.length := by
  rw [mk_len h] at hl
  exact mkI_full (by omega) (by omega)
theorem mk_end2 {k i : Int} {l : List Int} (h : 0 ≤ i ∧ i ≤ l.length) (hl : ¬ i < ((mkI k i.toNat ++ l.drop i.toNat).length : Int)) : k + i = k + l.length := by
  rw [mk_len h] at hl; omega
def s_markInts  : Sig := { X := List Int × Int, args := fun x => [oints x.1, .int .i64 x.2], pre := fun x => x.1.length ≤ 2 ^ 40 ∧ 0 ≤ x.2 ∧ x.2 ≤ 2 ^ 60, Y := Unit, post := fun x y => True, res := fun x y => .int .i64 (x.2 + x.1.length), outs := fun x y => [oints (mkI x.2 x.1.length), .top], keep := false, fixed := [0] }
theorem markInts_vc (x : List Int × Int) : vcFun Go.Proofs.Tryz.prog (Γof []) (Eof []) false (Lof ([(2,{ ι := Int, inv := fun i => 0 ≤ i ∧ i ≤ x.1.length, regs := fun i => [(0, oints (mkI x.2 i.toNat ++ x.1.drop i.toNat)), (1, .int .i64 (x.2 + i)), (5, .int .i64 i)], als := [], meas := fun i => x.1.length - i.toNat })])) Go.Proofs.Tryz.f39.ntmps Go.Proofs.Tryz.f39.results.toList (Go.Proofs.Tryz.f39.body.getD .skip) s_markInts x = ((∀ (y : Unit), True → True ∧ (∀ (x : Int), True ∧ True) ∧ True ∧ True) ∧ (∃ (i : Int), ((0 : Int) ≤ i ∧ i ≤ (↑(List.length x.fst) : Int)) ∧ (AV.sl true (0 : Nat) (1 : Nat) Int intA x.fst = AV.sl true (0 : Nat) (1 : Nat) Int intA (mkI x.snd (Int.toNat i) ++ List.drop (Int.toNat i) x.fst) ∧ x.snd = x.snd + i ∧ (0 : Int) = i ∧ True) ∧ True) ∧ ∀ (i : Int), (0 : Int) ≤ i ∧ i ≤ (↑(List.length x.fst) : Int) → bcase (decide (i < (↑(List.length (mkI x.snd (Int.toNat i) ++ List.drop (Int.toNat i) x.fst)) : Int))) (((0 : Int) ≤ i ∧ i < (↑(List.length (mkI x.snd (Int.toNat i) ++ List.drop (Int.toNat i) x.fst)) : Int)) ∧ Int.toNat i < List.length (mkI x.snd (Int.toNat i) ++ List.drop (Int.toNat i) x.fst) ∧ ∀ (x_1 : Int), (mkI x.snd (Int.toNat i) ++ List.drop (Int.toNat i) x.fst)[Int.toNat i]? = some x_1 → ∃ (x' : Int), ((@List.nil AV) = [] ∧ (@List.nil AV) = []) ∧ x.snd + i = x' ∧ inR IntKind.i64 (x.snd + i + (1 : Int)) ∧ inR IntKind.i64 (i + (1 : Int)) ∧ ∃ (i' : Int), ((0 : Int) ≤ i' ∧ i' ≤ (↑(List.length x.fst) : Int)) ∧ List.length x.fst - Int.toNat i' < List.length x.fst - Int.toNat i ∧ (AV.sl true (0 : Nat) (1 : Nat) Int intA (List.set (mkI x.snd (Int.toNat i) ++ List.drop (Int.toNat i) x.fst) (Int.toNat i) x') = AV.sl true (0 : Nat) (1 : Nat) Int intA (mkI x.snd (Int.toNat i') ++ List.drop (Int.toNat i') x.fst) ∧ x.snd + i + (1 : Int) = x.snd + i' ∧ i + (1 : Int) = i' ∧ True) ∧ True) (∃ (y : Unit), True ∧ x.snd + i = x.snd + (↑(List.length x.fst) : Int) ∧ AV.sl true (0 : Nat) (1 : Nat) Int intA (mkI x.snd (Int.toNat i) ++ List.drop (Int.toNat i) x.fst) = AV.sl true (0 : Nat) (1 : Nat) Int intA (mkI x.snd (List.length x.fst)) ∧ True)) := by kernel_rfl
theorem markInts_ok  : Contract G Tryz.prog 39 s_markInts :=
  vcFun_ok (Γ := Γof []) (E := Eof []) (ov := false) (L := fun x => Lof ([(2,{ ι := Int, inv := fun i => 0 ≤ i ∧ i ≤ x.1.length, regs := fun i => [(0, oints (mkI x.2 i.toNat ++ x.1.drop i.toNat)), (1, .int .i64 (x.2 + i)), (5, .int .i64 i)], als := [], meas := fun i => x.1.length - i.toNat })])) Tryz.func39 rfl (by decide) (Γof_ok (l := []) trivial) fun (x : List Int × Int) (hx : x.1.length ≤ 2 ^ 40 ∧ 0 ≤ x.2 ∧ x.2 ≤ 2 ^ 60) => (markInts_vc  x).mpr (by
  obtain ⟨h1, h2, h3⟩ := hx
  (repeat' first | with_reducible rfl | exact True.intro | refine inR_i64 ?_ ?_ | with_reducible refine And.intro ?_ ?_ | with_reducible refine bcase_dec (fun _ => ?_) (fun _ => ?_) | with_reducible refine bcase_bne (fun _ => ?_) (fun _ => ?_) | with_reducible refine bcase_beq (fun _ => ?_) (fun _ => ?_) | with_reducible refine bcase_not (fun _ => ?_) (fun _ => ?_) | refine bcase_intro (fun _ => ?_) (fun _ => ?_) | refine sl_eq ?_ | refine ex_flip () ?_ ?_ | (apply ex_flip6 <;> try dsimp only) | (apply ex_flip5 <;> try dsimp only) | (apply ex_flip4 <;> try dsimp only) | (apply ex_flip3 <;> try dsimp only) | (apply ex_flip2 <;> try dsimp only) | apply ex_flip | (refine Prod.forall.2 ?_; intro _; try dsimp only) | (intro _; try dsimp only))
  all_goals first
    | rfl
    | (simp [mkI]; done)
    | exact mk_set (by assumption) (by assumption)
    | exact mk_end (by assumption) (by assumption)
    | exact mk_end2 (by assumption) (by assumption)
    | ((try simp only [i64max]); omega)
    | (have hi := (show (0 : Int) ≤ _ ∧ _ ≤ (x.1.length : Int) by assumption); have hl := @mk_len x.2 _ x.1 hi; (try simp only [i64max]); omega)
    | skip)

def s_heldInts  : Sig := { X := List Int × Int, args := fun x => [ints x.1, .int .i64 x.2], pre := fun x => x.1 = mkI x.2 x.1.length ∧ x.1.length ≤ 2 ^ 40 ∧ 0 ≤ x.2 ∧ x.2 ≤ 2 ^ 60, Y := Unit, post := fun x y => True, res := fun x y => .int .i64 (x.2 + x.1.length), outs := fun x y => [.top, .top], keep := false }
theorem heldInts_vc (x : List Int × Int) : vcFun Go.Proofs.Tryz.prog (Γof []) (Eof []) false (Lof ([(2,{ ι := Int, inv := fun i => 0 ≤ i ∧ i ≤ x.1.length, regs := fun i => [(0, ints x.1), (1, .int .i64 (x.2 + i)), (5, .int .i64 i)], als := [], meas := fun i => x.1.length - i.toNat })])) Go.Proofs.Tryz.f60.ntmps Go.Proofs.Tryz.f60.results.toList (Go.Proofs.Tryz.f60.body.getD .skip) s_heldInts x = ((∀ (y : Unit), True → True ∧ True ∧ True ∧ True) ∧ (∃ (i : Int), ((0 : Int) ≤ i ∧ i ≤ (↑(List.length x.fst) : Int)) ∧ (AV.sl false (0 : Nat) (1 : Nat) Int intA x.fst = AV.sl false (0 : Nat) (1 : Nat) Int intA x.fst ∧ x.snd = x.snd + i ∧ (0 : Int) = i ∧ True) ∧ True) ∧ ∀ (i : Int), (0 : Int) ≤ i ∧ i ≤ (↑(List.length x.fst) : Int) → bcase (decide (i < (↑(List.length x.fst) : Int))) (((0 : Int) ≤ i ∧ i < (↑(List.length x.fst) : Int)) ∧ ∀ (e : Int), x.fst[Int.toNat i]? = some e → bcase (e != x.snd + i) (∃ (y : Unit), True ∧ (-1 : Int) = x.snd + (↑(List.length x.fst) : Int) ∧ True) (inR IntKind.i64 (x.snd + i + (1 : Int)) ∧ inR IntKind.i64 (i + (1 : Int)) ∧ ∃ (i' : Int), ((0 : Int) ≤ i' ∧ i' ≤ (↑(List.length x.fst) : Int)) ∧ List.length x.fst - Int.toNat i' < List.length x.fst - Int.toNat i ∧ (AV.sl false (0 : Nat) (1 : Nat) Int intA x.fst = AV.sl false (0 : Nat) (1 : Nat) Int intA x.fst ∧ x.snd + i + (1 : Int) = x.snd + i' ∧ i + (1 : Int) = i' ∧ True) ∧ True)) (∃ (y : Unit), True ∧ x.snd + i = x.snd + (↑(List.length x.fst) : Int) ∧ True)) := by kernel_rfl
theorem heldInts_ok  : Contract G Tryz.prog 60 s_heldInts :=
  vcFun_ok (Γ := Γof []) (E := Eof []) (ov := false) (L := fun x => Lof ([(2,{ ι := Int, inv := fun i => 0 ≤ i ∧ i ≤ x.1.length, regs := fun i => [(0, ints x.1), (1, .int .i64 (x.2 + i)), (5, .int .i64 i)], als := [], meas := fun i => x.1.length - i.toNat })])) Tryz.func60 rfl (by decide) (Γof_ok (l := []) trivial) fun (x : List Int × Int) (hx : x.1 = mkI x.2 x.1.length ∧ x.1.length ≤ 2 ^ 40 ∧ 0 ≤ x.2 ∧ x.2 ≤ 2 ^ 60) => (heldInts_vc  x).mpr (by
  obtain ⟨h0, h1, h2, h3⟩ := hx
  have hat : ∀ {i v : Int}, 0 ≤ i → x.1[i.toNat]? = some v → v = x.2 + i := by
    intro i v hi hv
    have hl := (getE hv).1
    rw [h0, mkI_at hl] at hv
    simp only [Option.some.injEq] at hv; omega
  (repeat' first | with_reducible rfl | exact True.intro | refine inR_i64 ?_ ?_ | with_reducible refine And.intro ?_ ?_ | with_reducible refine bcase_dec (fun _ => ?_) (fun _ => ?_) | with_reducible refine bcase_bne (fun _ => ?_) (fun _ => ?_) | with_reducible refine bcase_beq (fun _ => ?_) (fun _ => ?_) | with_reducible refine bcase_not (fun _ => ?_) (fun _ => ?_) | refine bcase_intro (fun _ => ?_) (fun _ => ?_) | refine sl_eq ?_ | refine ex_flip () ?_ ?_ | (apply ex_flip6 <;> try dsimp only) | (apply ex_flip5 <;> try dsimp only) | (apply ex_flip4 <;> try dsimp only) | (apply ex_flip3 <;> try dsimp only) | (apply ex_flip2 <;> try dsimp only) | apply ex_flip | (refine Prod.forall.2 ?_; intro _; try dsimp only) | (intro _; try dsimp only))
  all_goals try (have hv := hat (show 0 ≤ _ from And.left (by assumption)) (by assumption))
  all_goals first
    | rfl
    | ((try simp only [i64max]); omega)
    | skip)

def mkB (l : List Gr) : Prop := l.length ≤ 12 ∧ ∀ g ∈ l, g.notes.length ≤ 12
theorem mkB_tot {l : List Gr} {i : Nat} (h : mkB l) : 0 ≤ totG (l.take i) ∧ totG (l.take i) ≤ 200 := by
  have := @totG_bd (l.take i) 12 fun g hg => h.2 g (List.mem_of_mem_take hg)
  have h2 : (l.take i).length ≤ 12 := by rw [List.length_take]; have := h.1; omega
  omega
def mgI (l : List Gr) (i : Int) : Prop := mkB l ∧ 0 ≤ i ∧ i ≤ l.length
theorem mgI_len {k i : Int} {l : List Gr} (h : mgI l i) : (mkGs k (l.take i.toNat) ++ l.drop i.toNat).length = l.length := by
  obtain ⟨_, h1, h2⟩ := h
  rw [List.length_append, mkGs_len, List.length_take, List.length_drop]; omega
theorem mgI_at {k i : Int} {l : List Gr} {g : Gr} (h : mgI l i) (hg : (mkGs k (l.take i.toNat) ++ l.drop i.toNat)[i.toNat]? = some g) : l[i.toNat]? = some g := by
  have hlt := (getE hg).1
  rw [mgI_len h] at hlt
  have hl : (mkGs k (l.take i.toNat)).length = i.toNat := by rw [mkGs_len, List.length_take]; omega
  rw [List.getElem?_append_right (by omega), hl, Nat.sub_self] at hg
  simpa using hg
theorem mgI_g {k i : Int} {l : List Gr} {g : Gr} (h : mgI l i) (hg : (mkGs k (l.take i.toNat) ++ l.drop i.toNat)[i.toNat]? = some g) : g.notes.length ≤ 12 := h.1.2 g (memE (mgI_at h hg))
theorem mg_set1 {l : List Gr} {i : Nat} {a b : Gr} (h : i < l.length) : (l.set i a)[i]? = some b ↔ a = b := by
  rw [List.getElem?_set_self h]; simp
theorem mg_set2 {l : List Gr} {i : Nat} {a b : Gr} : (l.set i a).set i b = l.set i b := List.set_set ..
theorem mg_step {k i : Int} {l : List Gr} {g b : Gr} (h : mgI l i) (hg : (mkGs k (l.take i.toNat) ++ l.drop i.toNat)[i.toNat]? = some g) (hb : b = mkG (k + totG (l.take i.toNat)) g) :
    (mkGs k (l.take i.toNat) ++ l.drop i.toNat).set i.toNat b = mkGs k (l.take (i + 1).toNat) ++ l.drop (i + 1).toNat := by
  rw [hb, mkGs_set (mgI_at h hg), toNat1 h.2.1]
theorem mg_tot {k i : Int} {l : List Gr} {g : Gr} (h : mgI l i) (hg : (mkGs k (l.take i.toNat) ++ l.drop i.toNat)[i.toNat]? = some g) : k + totG (l.take i.toNat) + g.notes.length + 1 = k + totG (l.take (i + 1).toNat) := by
  rw [toNat1 h.2.1, takeE (mgI_at h hg), totG_snoc]; omega
theorem mg_end {k i : Int} {l : List Gr} (h : mgI l i) (hl : ¬ i < ((mkGs k (l.take i.toNat) ++ l.drop i.toNat).length : Int)) : mkGs k (l.take i.toNat) ++ l.drop i.toNat = mkGs k l ∧ k + totG (l.take i.toNat) = k + totG l := by
  rw [mgI_len h] at hl
  rw [List.take_of_length_le (by omega), List.drop_eq_nil_of_le (by omega)]; simp
theorem mg_set2' {k i : Int} {l : List Gr} {g b c : Gr} (h : mgI l i) (hg : (mkGs k (l.take i.toNat) ++ l.drop i.toNat)[i.toNat]? = some g) (hb : b = mkG (k + totG (l.take i.toNat)) g) :
    ((mkGs k (l.take i.toNat) ++ l.drop i.toNat).set i.toNat c).set i.toNat b = mkGs k (l.take (i + 1).toNat) ++ l.drop (i + 1).toNat := by
  rw [mg_set2]; exact mg_step h hg hb
theorem mg_set3 {k i : Int} {l : List Gr} {g c b : Gr} (h : mgI l i) (hg : (mkGs k (l.take i.toNat) ++ l.drop i.toNat)[i.toNat]? = some g) (hb : ((mkGs k (l.take i.toNat) ++ l.drop i.toNat).set i.toNat c)[i.toNat]? = some b) : c = b :=
  (mg_set1 (getE hg).1).1 hb
theorem mgI_tot {i : Int} {l : List Gr} (h : mgI l i) : 0 ≤ totG (l.take i.toNat) ∧ totG (l.take i.toNat) ≤ 200 := mkB_tot h.1
def lMkGrs (x : List Gr × Int) : LS := {
  ι := Int, inv := mgI x.1, regs := fun i => [(0, ogrs (mkGs x.2 (x.1.take i.toNat) ++ x.1.drop i.toNat)), (1, .int .i64 (x.2 + totG (x.1.take i.toNat))), (5, .int .i64 i)], als := [], meas := fun i => x.1.length - i.toNat }
def s_markGrs  : Sig := { X := List Gr × Int, args := fun x => [ogrs x.1, .int .i64 x.2], pre := fun x => mkB x.1 ∧ 0 ≤ x.2 ∧ x.2 ≤ 2 ^ 50, Y := Unit, post := fun x y => True, res := fun x y => .int .i64 (x.2 + totG x.1), outs := fun x y => [ogrs (mkGs x.2 x.1), .top], keep := false, fixed := [0] }
theorem markGrs_vc (x : List Gr × Int) : vcFun Go.Proofs.Tryz.prog (Γof [(39, 0, s_markInts)]) (Eof []) false (Lof ([(2,lMkGrs x)])) Go.Proofs.Tryz.f21.ntmps Go.Proofs.Tryz.f21.results.toList (Go.Proofs.Tryz.f21.body.getD .skip) s_markGrs x = ((∀ (y : Unit), True → True ∧ (∀ (x : Gr), (∀ (x : Int), True ∧ True) ∧ True ∧ True) ∧ True ∧ True) ∧ (∃ (i : Int), mgI x.fst i ∧ (AV.sl true (0 : Nat) (2 : Nat) Gr (grA true) x.fst = AV.sl true (0 : Nat) (2 : Nat) Gr (grA true) (mkGs x.snd (List.take (Int.toNat i) x.fst) ++ List.drop (Int.toNat i) x.fst) ∧ x.snd = x.snd + totG (List.take (Int.toNat i) x.fst) ∧ (0 : Int) = i ∧ True) ∧ True) ∧ ∀ (i : Int), mgI x.fst i → bcase (decide (i < (↑(List.length (mkGs x.snd (List.take (Int.toNat i) x.fst) ++ List.drop (Int.toNat i) x.fst)) : Int))) (((0 : Int) ≤ i ∧ i < (↑(List.length (mkGs x.snd (List.take (Int.toNat i) x.fst) ++ List.drop (Int.toNat i) x.fst)) : Int)) ∧ Int.toNat i < List.length (mkGs x.snd (List.take (Int.toNat i) x.fst) ++ List.drop (Int.toNat i) x.fst) ∧ ∀ (z : Gr), (mkGs x.snd (List.take (Int.toNat i) x.fst) ++ List.drop (Int.toNat i) x.fst)[Int.toNat i]? = some z → ∃ (x_1 : List Int × Int), (List.length x_1.fst ≤ (1099511627776 : Nat) ∧ (0 : Int) ≤ x_1.snd ∧ x_1.snd ≤ (2 : Int) ^ (60 : Nat)) ∧ AV.sl true (0 : Nat) (1 : Nat) Int intA z.notes = AV.sl true (0 : Nat) (1 : Nat) Int intA x_1.fst ∧ x.snd + totG (List.take (Int.toNat i) x.fst) = x_1.snd ∧ ∀ (y : Unit), True → ∃ (z' : Gr), [AV.sl true (0 : Nat) (1 : Nat) Int intA z'.notes, AV.int IntKind.i64 z'.member] = [AV.sl true (0 : Nat) (1 : Nat) Int intA (mkI x_1.snd (List.length x_1.fst)), AV.int IntKind.i64 z.member] ∧ ((0 : Int) ≤ i ∧ i < (↑(List.length (List.set (mkGs x.snd (List.take (Int.toNat i) x.fst) ++ List.drop (Int.toNat i) x.fst) (Int.toNat i) z')) : Int)) ∧ Int.toNat i < List.length (List.set (mkGs x.snd (List.take (Int.toNat i) x.fst) ++ List.drop (Int.toNat i) x.fst) (Int.toNat i) z') ∧ ∀ (x_2 : Gr), (List.set (mkGs x.snd (List.take (Int.toNat i) x.fst) ++ List.drop (Int.toNat i) x.fst) (Int.toNat i) z')[Int.toNat i]? = some x_2 → ∃ (x' : Gr), ([AV.sl true (0 : Nat) (1 : Nat) Int intA x'.notes] = [AV.sl true (0 : Nat) (1 : Nat) Int intA x_2.notes] ∧ (@List.nil AV) = []) ∧ x_1.snd + (↑(List.length x_1.fst) : Int) = x'.member ∧ inR IntKind.i64 (x_1.snd + (↑(List.length x_1.fst) : Int) + (1 : Int)) ∧ inR IntKind.i64 (i + (1 : Int)) ∧ ∃ (i' : Int), mgI x.fst i' ∧ List.length x.fst - Int.toNat i' < List.length x.fst - Int.toNat i ∧ (AV.sl true (0 : Nat) (2 : Nat) Gr (grA true) (List.set (List.set (mkGs x.snd (List.take (Int.toNat i) x.fst) ++ List.drop (Int.toNat i) x.fst) (Int.toNat i) z') (Int.toNat i) x') = AV.sl true (0 : Nat) (2 : Nat) Gr (grA true) (mkGs x.snd (List.take (Int.toNat i') x.fst) ++ List.drop (Int.toNat i') x.fst) ∧ x_1.snd + (↑(List.length x_1.fst) : Int) + (1 : Int) = x.snd + totG (List.take (Int.toNat i') x.fst) ∧ i + (1 : Int) = i' ∧ True) ∧ True) (∃ (y : Unit), True ∧ x.snd + totG (List.take (Int.toNat i) x.fst) = x.snd + totG x.fst ∧ AV.sl true (0 : Nat) (2 : Nat) Gr (grA true) (mkGs x.snd (List.take (Int.toNat i) x.fst) ++ List.drop (Int.toNat i) x.fst) = AV.sl true (0 : Nat) (2 : Nat) Gr (grA true) (mkGs x.snd x.fst) ∧ True)) := by kernel_rfl
theorem markGrs_ok  : Contract G Tryz.prog 21 s_markGrs :=
  vcFun_ok (Γ := Γof [(39, 0, s_markInts)]) (E := Eof []) (ov := false) (L := fun x => Lof ([(2,lMkGrs x)])) Tryz.func21 rfl (by decide) (Γof_ok (l := [(39, 0, s_markInts)]) ⟨markInts_ok, trivial⟩) fun (x : List Gr × Int) (hx : mkB x.1 ∧ 0 ≤ x.2 ∧ x.2 ≤ 2 ^ 50) => (markGrs_vc  x).mpr (by
  obtain ⟨h1, h2, h3⟩ := hx
  (repeat' first | refine ex_gr (mkI _ _) _ rfl ?_ | refine ex_gr2 _ _ ⟨rfl, ?_⟩ ⟨rfl, rfl⟩ | with_reducible rfl | exact True.intro | refine inR_i64 ?_ ?_ | with_reducible refine And.intro ?_ ?_ | with_reducible refine bcase_dec (fun _ => ?_) (fun _ => ?_) | with_reducible refine bcase_bne (fun _ => ?_) (fun _ => ?_) | with_reducible refine bcase_beq (fun _ => ?_) (fun _ => ?_) | with_reducible refine bcase_not (fun _ => ?_) (fun _ => ?_) | refine bcase_intro (fun _ => ?_) (fun _ => ?_) | refine sl_eq ?_ | refine ex_flip () ?_ ?_ | (apply ex_flip6 <;> try dsimp only) | (apply ex_flip5 <;> try dsimp only) | (apply ex_flip4 <;> try dsimp only) | (apply ex_flip3 <;> try dsimp only) | (apply ex_flip2 <;> try dsimp only) | apply ex_flip | (refine Prod.forall.2 ?_; intro _; try dsimp only) | (intro _; try dsimp only))
  all_goals try (have e := mg_set3 (show mgI _ _ by assumption) (show (mkGs _ _ ++ _)[Int.toNat _]? = some _ by assumption) (show (List.set _ _ _)[_]? = some _ by assumption); subst e)
  all_goals first
    | rfl
    | exact ⟨h1, by omega, by omega⟩
    | (simp [totG, mkGs]; done)
    | exact (show mgI _ _ by assumption).2.1
    | exact mg_tot (by assumption) (by assumption)
    | exact (mg_end (by assumption) (by assumption)).1
    | exact (mg_end (by assumption) (by assumption)).2
    | exact mg_set2' (by assumption) (by assumption) rfl
    | (have hi := (show mgI _ _ by assumption); have hl := @mgI_len x.2 _ x.1 hi; exact ⟨h1, by have := hi.2.1; omega, by have := hi.2.2; omega⟩)
    | (have hi := (show mgI _ _ by assumption); have hl := @mgI_len x.2 _ x.1 hi; have hg := mgI_g hi (show (mkGs _ _ ++ _)[Int.toNat _]? = some _ by assumption); (try dsimp only); omega)
    | (have hi := (show mgI _ _ by assumption); have hl := @mgI_len x.2 _ x.1 hi; have ht := mgI_tot hi; have := hi.2.1; have := hi.2.2; have hg := mgI_g hi (show (mkGs _ _ ++ _)[Int.toNat _]? = some _ by assumption); (try rw [List.length_set]); (try simp only [i64max]); omega)
    | (have hi := (show mgI _ _ by assumption); have hl := @mgI_len x.2 _ x.1 hi; have := hi.2.1; have := hi.2.2; have := h1.1; (try rw [List.length_set]); (try simp only [i64max]); omega)
    | skip)

def hgI (k : Int) (l : List Gr) (i : Int) : Prop := (mkB l ∧ l = mkGs k l) ∧ 0 ≤ i ∧ i ≤ l.length
theorem hgI_at {k i : Int} {l : List Gr} {g : Gr} (h : hgI k l i) (hg : l[i.toNat]? = some g) : g = mkG (k + totG (l.take i.toNat)) g := by
  have h1 : (mkGs k l)[i.toNat]? = some g := by rw [← h.1.2]; exact hg
  have h2 := mkGs_at (k := k) hg
  rw [h1] at h2; exact Option.some.inj h2
theorem hgI_1 {k i : Int} {l : List Gr} {g : Gr} (h : hgI k l i) (hg : l[i.toNat]? = some g) : g.notes = mkI (k + totG (l.take i.toNat)) g.notes.length ∧ g.member = k + totG (l.take i.toNat) + g.notes.length := by
  have h2 := hgI_at h hg
  have h3 := congrArg Gr.notes h2; have h4 := congrArg Gr.member h2
  exact ⟨h3, h4⟩
theorem hgI_tot {k i : Int} {l : List Gr} {g : Gr} (h : hgI k l i) (hg : l[i.toNat]? = some g) : k + totG (l.take i.toNat) + g.notes.length + 1 = k + totG (l.take (i + 1).toNat) := by
  rw [toNat1 h.2.1, takeE hg, totG_snoc]; omega
theorem hgI_bd {k i : Int} {l : List Gr} (h : hgI k l i) : (0 ≤ totG (l.take i.toNat) ∧ totG (l.take i.toNat) ≤ 200) ∧ l.length ≤ 12 := ⟨mkB_tot h.1.1, h.1.1.1⟩
theorem hgI_nt {k i : Int} {l : List Gr} {g : Gr} (h : hgI k l i) (hg : l[i.toNat]? = some g) : g.notes.length ≤ 12 := h.1.1.2 g (memE hg)
theorem hgI_end {k i : Int} {l : List Gr} (h : hgI k l i) (hl : ¬ i < l.length) : k + totG (l.take i.toNat) = k + totG l := by
  rw [List.take_of_length_le (by have := h.2.2; omega)]
def lHdGrs (x : List Gr × Int) : LS := {
  ι := Int, inv := hgI x.2 x.1, regs := fun i => [(0, grs x.1), (1, .int .i64 (x.2 + totG (x.1.take i.toNat))), (5, .int .i64 i)], als := [], meas := fun i => x.1.length - i.toNat }
def s_heldGrs  : Sig := { X := List Gr × Int, args := fun x => [grs x.1, .int .i64 x.2], pre := fun x => (mkB x.1 ∧ x.1 = mkGs x.2 x.1) ∧ 0 ≤ x.2 ∧ x.2 ≤ 2 ^ 50, Y := Unit, post := fun x y => True, res := fun x y => .int .i64 (x.2 + totG x.1), outs := fun x y => [.top, .top], keep := false }
theorem heldGrs_vc (x : List Gr × Int) : vcFun Go.Proofs.Tryz.prog (Γof [(60, 0, s_heldInts)]) (Eof []) false (Lof ([(2,lHdGrs x)])) Go.Proofs.Tryz.f22.ntmps Go.Proofs.Tryz.f22.results.toList (Go.Proofs.Tryz.f22.body.getD .skip) s_heldGrs x = ((∀ (y : Unit), True → True ∧ True ∧ True ∧ True) ∧ (∃ (i : Int), hgI x.snd x.fst i ∧ (AV.sl false (0 : Nat) (2 : Nat) Gr (grA false) x.fst = AV.sl false (0 : Nat) (2 : Nat) Gr (grA false) x.fst ∧ x.snd = x.snd + totG (List.take (Int.toNat i) x.fst) ∧ (0 : Int) = i ∧ True) ∧ True) ∧ ∀ (i : Int), hgI x.snd x.fst i → bcase (decide (i < (↑(List.length x.fst) : Int))) (((0 : Int) ≤ i ∧ i < (↑(List.length x.fst) : Int)) ∧ ∀ (e : Gr), x.fst[Int.toNat i]? = some e → ∃ (x_1 : List Int × Int), (x_1.fst = mkI x_1.snd (List.length x_1.fst) ∧ List.length x_1.fst ≤ (1099511627776 : Nat) ∧ (0 : Int) ≤ x_1.snd ∧ x_1.snd ≤ (2 : Int) ^ (60 : Nat)) ∧ AV.sl false (0 : Nat) (1 : Nat) Int intA e.notes = AV.sl false (0 : Nat) (1 : Nat) Int intA x_1.fst ∧ x.snd + totG (List.take (Int.toNat i) x.fst) = x_1.snd ∧ ∀ (y : Unit), True → bcase (decide (x_1.snd + (↑(List.length x_1.fst) : Int) < (0 : Int))) (∃ (y : Unit), True ∧ (-1 : Int) = x.snd + totG x.fst ∧ True) (((0 : Int) ≤ i ∧ i < (↑(List.length x.fst) : Int)) ∧ ∀ (e : Gr), x.fst[Int.toNat i]? = some e → bcase (e.member != x_1.snd + (↑(List.length x_1.fst) : Int)) (∃ (y : Unit), True ∧ (-1 : Int) = x.snd + totG x.fst ∧ True) (inR IntKind.i64 (x_1.snd + (↑(List.length x_1.fst) : Int) + (1 : Int)) ∧ inR IntKind.i64 (i + (1 : Int)) ∧ ∃ (i' : Int), hgI x.snd x.fst i' ∧ List.length x.fst - Int.toNat i' < List.length x.fst - Int.toNat i ∧ (AV.sl false (0 : Nat) (2 : Nat) Gr (grA false) x.fst = AV.sl false (0 : Nat) (2 : Nat) Gr (grA false) x.fst ∧ x_1.snd + (↑(List.length x_1.fst) : Int) + (1 : Int) = x.snd + totG (List.take (Int.toNat i') x.fst) ∧ i + (1 : Int) = i' ∧ True) ∧ True))) (∃ (y : Unit), True ∧ x.snd + totG (List.take (Int.toNat i) x.fst) = x.snd + totG x.fst ∧ True)) := by kernel_rfl
theorem heldGrs_ok  : Contract G Tryz.prog 22 s_heldGrs :=
  vcFun_ok (Γ := Γof [(60, 0, s_heldInts)]) (E := Eof []) (ov := false) (L := fun x => Lof ([(2,lHdGrs x)])) Tryz.func22 rfl (by decide) (Γof_ok (l := [(60, 0, s_heldInts)]) ⟨heldInts_ok, trivial⟩) fun (x : List Gr × Int) (hx : (mkB x.1 ∧ x.1 = mkGs x.2 x.1) ∧ 0 ≤ x.2 ∧ x.2 ≤ 2 ^ 50) => (heldGrs_vc  x).mpr (by
  obtain ⟨h1, h2, h3⟩ := hx
  (repeat' first | with_reducible rfl | exact True.intro | refine inR_i64 ?_ ?_ | with_reducible refine And.intro ?_ ?_ | with_reducible refine bcase_dec (fun _ => ?_) (fun _ => ?_) | with_reducible refine bcase_bne (fun _ => ?_) (fun _ => ?_) | with_reducible refine bcase_beq (fun _ => ?_) (fun _ => ?_) | with_reducible refine bcase_not (fun _ => ?_) (fun _ => ?_) | refine bcase_intro (fun _ => ?_) (fun _ => ?_) | refine sl_eq ?_ | refine ex_flip () ?_ ?_ | (apply ex_flip6 <;> try dsimp only) | (apply ex_flip5 <;> try dsimp only) | (apply ex_flip4 <;> try dsimp only) | (apply ex_flip3 <;> try dsimp only) | (apply ex_flip2 <;> try dsimp only) | apply ex_flip | (refine Prod.forall.2 ?_; intro _; try dsimp only) | (intro _; try dsimp only))
  all_goals (repeat (rename x.1[Int.toNat _]? = some _ => hq; revert hq; rename x.1[Int.toNat _]? = some _ => hr; intro hq; rw [hr] at hq; cases hq))
  all_goals first
    | rfl
    | exact ⟨h1, by omega, by omega⟩
    | (simp [totG]; done)
    | exact (show hgI _ _ _ by assumption).2.1
    | exact hgI_tot (by assumption) (by assumption)
    | exact hgI_end (by assumption) (by assumption)
    | exact (hgI_1 (by assumption) (by assumption)).1
    | (have hi := (show hgI _ _ _ by assumption); exact ⟨h1, by have := hi.2.1; omega, by have := hi.2.2; omega⟩)
    | (have hi := (show hgI _ _ _ by assumption); have hb := hgI_bd hi; have := hi.2.1; have := hi.2.2; (try simp only [i64max]); omega)
    | (have hi := (show hgI _ _ _ by assumption); have hb := hgI_bd hi; have hn := hgI_nt hi (by assumption); have hm := (hgI_1 hi (by assumption)).2; have := hi.2.1; have := hi.2.2; (try simp only [i64max]); omega)
    | skip)

theorem gText {l : List Nd} (h : ¬ szNds l 1048576 < 0) {e : Nd} (he : e ∈ l) : e.text.length ≤ 1099511627776 := by have := gB2 h he; omega
end Go.My
end
section
/- Brackets that are spared: the functions. -/
set_option linter.unusedVariables false
set_option linter.unusedSimpArgs false
namespace Go.My
open Go.Eng Go.Proofs
variable {G : GInv}

def s_chainLevel  : Sig := { X := List UInt8, args := fun x => [.str x], pre := fun x => True, Y := Unit, post := fun x y => True, res := fun x y => .int .i64 (clvl x), outs := fun x y => [.top], keep := false }
theorem chainLevel_vc (x : List UInt8) : vcFun Go.Proofs.Tryz.prog (Γof []) (Eof []) false (Lof ([])) Go.Proofs.Tryz.f113.ntmps Go.Proofs.Tryz.f113.results.toList (Go.Proofs.Tryz.f113.body.getD .skip) s_chainLevel x = ((∀ (y : Unit), True → True ∧ True ∧ True) ∧ bcase (x == #[(124 : UInt8), (124 : UInt8)].toList) (∃ (y : Unit), True ∧ (2 : Int) = clvl x ∧ True) (bcase (x == #[(38 : UInt8), (38 : UInt8)].toList) (∃ (y : Unit), True ∧ (3 : Int) = clvl x ∧ True) (bcase (x == #[(61 : UInt8), (61 : UInt8)].toList) (∃ (y : Unit), True ∧ (4 : Int) = clvl x ∧ True) (bcase (x == #[(60 : UInt8)].toList) (∃ (y : Unit), True ∧ (5 : Int) = clvl x ∧ True) (bcase (x == #[(43 : UInt8)].toList) (∃ (y : Unit), True ∧ (6 : Int) = clvl x ∧ True) (bcase (x == #[(45 : UInt8)].toList) (∃ (y : Unit), True ∧ (6 : Int) = clvl x ∧ True) (∃ (y : Unit), True ∧ (7 : Int) = clvl x ∧ True))))))) := by kernel_rfl
theorem chainLevel_ok  : Contract G Tryz.prog 113 s_chainLevel :=
  vcFun_ok (Γ := Γof []) (E := Eof []) (ov := false) (L := fun x => Lof ([])) Tryz.func113 rfl (by decide) (Γof_ok (l := []) trivial) fun (x : List UInt8) (hx : True) => (chainLevel_vc  x).mpr (by
  (repeat' first | with_reducible rfl | exact True.intro | refine inR_i64 ?_ ?_ | with_reducible refine And.intro ?_ ?_ | with_reducible refine bcase_dec (fun _ => ?_) (fun _ => ?_) | with_reducible refine bcase_bne (fun _ => ?_) (fun _ => ?_) | with_reducible refine bcase_beq (fun _ => ?_) (fun _ => ?_) | with_reducible refine bcase_not (fun _ => ?_) (fun _ => ?_) | refine bcase_intro (fun _ => ?_) (fun _ => ?_) | refine sl_eq ?_ | refine ex_flip () ?_ ?_ | (apply ex_flip6 <;> try dsimp only) | (apply ex_flip5 <;> try dsimp only) | (apply ex_flip4 <;> try dsimp only) | (apply ex_flip3 <;> try dsimp only) | (apply ex_flip2 <;> try dsimp only) | apply ex_flip | (refine Prod.forall.2 ?_; intro _; try dsimp only) | (intro _; try dsimp only)) <;> (try dsimp only at *) <;> (try simp only [i64max, List.length_cons, List.length_nil]) <;> (try omega)
  all_goals simp [clvl, *])

def s_levelOf  : Sig := { X := Nd, args := fun x => [.agg (ndA false x)], pre := fun x => True, Y := Unit, post := fun x y => True, res := fun x y => .int .i64 (lvl x), outs := fun x y => [.top], keep := false }
theorem levelOf_vc (x : Nd) : vcFun Go.Proofs.Tryz.prog (Γof [(113, 0, s_chainLevel)]) (Eof []) false (Lof ([])) Go.Proofs.Tryz.f112.ntmps Go.Proofs.Tryz.f112.results.toList (Go.Proofs.Tryz.f112.body.getD .skip) s_levelOf x = ((∀ (y : Unit), True → True ∧ True ∧ True) ∧ bcase (x.kind == (10 : Int)) (∃ (y : Unit), True ∧ (0 : Int) = lvl x ∧ True) (bcase (x.kind == (8 : Int)) (∃ (y : Unit), True ∧ (1 : Int) = lvl x ∧ True) (bcase (x.kind == (9 : Int)) (∃ (y : Unit), True ∧ (1 : Int) = lvl x ∧ True) (bcase (x.kind == (7 : Int)) (∃ (x_1 : List UInt8), True ∧ x.text = x_1 ∧ ∀ (y : Unit), True → ∃ (y : Unit), True ∧ clvl x_1 = lvl x ∧ True) (∃ (y : Unit), True ∧ (8 : Int) = lvl x ∧ True))))) := by kernel_rfl
theorem levelOf_ok  : Contract G Tryz.prog 112 s_levelOf :=
  vcFun_ok (Γ := Γof [(113, 0, s_chainLevel)]) (E := Eof []) (ov := false) (L := fun x => Lof ([])) Tryz.func112 rfl (by decide) (Γof_ok (l := [(113, 0, s_chainLevel)]) ⟨chainLevel_ok, trivial⟩) fun (x : Nd) (hx : True) => (levelOf_vc  x).mpr (by
  (repeat' first | with_reducible rfl | exact True.intro | refine inR_i64 ?_ ?_ | with_reducible refine And.intro ?_ ?_ | with_reducible refine bcase_dec (fun _ => ?_) (fun _ => ?_) | with_reducible refine bcase_bne (fun _ => ?_) (fun _ => ?_) | with_reducible refine bcase_beq (fun _ => ?_) (fun _ => ?_) | with_reducible refine bcase_not (fun _ => ?_) (fun _ => ?_) | refine bcase_intro (fun _ => ?_) (fun _ => ?_) | refine sl_eq ?_ | refine ex_flip () ?_ ?_ | (apply ex_flip6 <;> try dsimp only) | (apply ex_flip5 <;> try dsimp only) | (apply ex_flip4 <;> try dsimp only) | (apply ex_flip3 <;> try dsimp only) | (apply ex_flip2 <;> try dsimp only) | apply ex_flip | (refine Prod.forall.2 ?_; intro _; try dsimp only) | (intro _; try dsimp only)) <;> (try dsimp only at *) <;> (try simp only [i64max, List.length_cons, List.length_nil]) <;> (try omega)
  all_goals simp [lvl, *])

def s_isSwap  : Sig := { X := Nd × Nd, args := fun x => [.agg (ndA false x.1), .agg (ndA false x.2)], pre := fun x => True, Y := Unit, post := fun x y => True, res := fun x y => .bool (isSwp x.1 x.2), outs := fun x y => [.top, .top], keep := false }
theorem isSwap_vc (x : Nd × Nd) : vcFun Go.Proofs.Tryz.prog (Γof []) (Eof []) false (Lof ([])) Go.Proofs.Tryz.f114.ntmps Go.Proofs.Tryz.f114.results.toList (Go.Proofs.Tryz.f114.body.getD .skip) s_isSwap x = ((∀ (y : Unit), True → True ∧ True ∧ True ∧ True) ∧ bcase (x.fst.kind != (7 : Int)) (∃ (y : Unit), True ∧ false = isSwp x.fst x.snd ∧ True) (bcase (x.snd.kind != (7 : Int)) (∃ (y : Unit), True ∧ false = isSwp x.fst x.snd ∧ True) (bcase (x.fst.text == #[(43 : UInt8)].toList) (bcase (x.snd.text == #[(45 : UInt8)].toList) (∃ (y : Unit), True ∧ true = isSwp x.fst x.snd ∧ True) (bcase (x.fst.text == #[(45 : UInt8)].toList) (∃ (y : Unit), True ∧ (x.snd.text == #[(43 : UInt8)].toList) = isSwp x.fst x.snd ∧ True) (∃ (y : Unit), True ∧ false = isSwp x.fst x.snd ∧ True))) (bcase (x.fst.text == #[(45 : UInt8)].toList) (∃ (y : Unit), True ∧ (x.snd.text == #[(43 : UInt8)].toList) = isSwp x.fst x.snd ∧ True) (∃ (y : Unit), True ∧ false = isSwp x.fst x.snd ∧ True))))) := by kernel_rfl
theorem isSwap_ok  : Contract G Tryz.prog 114 s_isSwap :=
  vcFun_ok (Γ := Γof []) (E := Eof []) (ov := false) (L := fun x => Lof ([])) Tryz.func114 rfl (by decide) (Γof_ok (l := []) trivial) fun (x : Nd × Nd) (hx : True) => (isSwap_vc  x).mpr (by
  (repeat' first | with_reducible rfl | exact True.intro | refine inR_i64 ?_ ?_ | with_reducible refine And.intro ?_ ?_ | with_reducible refine bcase_dec (fun _ => ?_) (fun _ => ?_) | with_reducible refine bcase_bne (fun _ => ?_) (fun _ => ?_) | with_reducible refine bcase_beq (fun _ => ?_) (fun _ => ?_) | with_reducible refine bcase_not (fun _ => ?_) (fun _ => ?_) | refine bcase_intro (fun _ => ?_) (fun _ => ?_) | refine sl_eq ?_ | refine ex_flip () ?_ ?_ | (apply ex_flip6 <;> try dsimp only) | (apply ex_flip5 <;> try dsimp only) | (apply ex_flip4 <;> try dsimp only) | (apply ex_flip3 <;> try dsimp only) | (apply ex_flip2 <;> try dsimp only) | apply ex_flip | (refine Prod.forall.2 ?_; intro _; try dsimp only) | (intro _; try dsimp only)) <;> (try dsimp only at *) <;> (try simp only [i64max, List.length_cons, List.length_nil]) <;> (try omega)
  all_goals first | (simp [isSwp, *]; done) | simp_all [isSwp])

def s_wants  : Sig := { X := Nd × Int × Nd, args := fun x => [.agg (ndA false x.1), .int .i64 x.2.1, .agg (ndA false x.2.2)], pre := fun x => x.1.kids.length < 2 ^ 62, Y := Unit, post := fun x y => True, res := fun x y => .bool (wantsB x.1 x.2.1 x.2.2), outs := fun x y => [.top, .top, .top], keep := false }
theorem wants_vc (x : Nd × Int × Nd) : vcFun Go.Proofs.Tryz.prog (Γof [(112, 0, s_levelOf), (113, 0, s_chainLevel), (114, 0, s_isSwap)]) (Eof []) false (Lof ([])) Go.Proofs.Tryz.f56.ntmps Go.Proofs.Tryz.f56.results.toList (Go.Proofs.Tryz.f56.body.getD .skip) s_wants x = ((∀ (y : Unit), True → True ∧ True ∧ True ∧ True ∧ True) ∧ ∃ (x_1 : Nd), True ∧ x.snd.snd.kind = x_1.kind ∧ x.snd.snd.text = x_1.text ∧ AV.sl false (0 : Nat) (1 : Nat) Int intA x.snd.snd.kids = AV.sl false (0 : Nat) (1 : Nat) Int intA x_1.kids ∧ x.snd.snd.blank = x_1.blank ∧ ∀ (y : Unit), True → bcase (x.fst.kind == (5 : Int)) (bcase (x.snd.fst == (0 : Int)) (∃ (y : Unit), True ∧ decide (lvl x_1 < (8 : Int)) = wantsB x.fst x.snd.fst x.snd.snd ∧ True) (∃ (y : Unit), True ∧ false = wantsB x.fst x.snd.fst x.snd.snd ∧ True)) (bcase (x.fst.kind == (6 : Int)) (∃ (y : Unit), True ∧ decide (lvl x_1 < (8 : Int)) = wantsB x.fst x.snd.fst x.snd.snd ∧ True) (bcase (x.fst.kind == (7 : Int)) (∃ (x_2 : List UInt8), True ∧ x.fst.text = x_2 ∧ ∀ (y : Unit), True → bcase (decide (lvl x_1 ≤ clvl x_2)) (bcase (x.snd.fst == (0 : Int)) (∃ (x_3 : Nd × Nd), True ∧ x.fst.kind = x_3.fst.kind ∧ x.fst.text = x_3.fst.text ∧ AV.sl false (0 : Nat) (1 : Nat) Int intA x.fst.kids = AV.sl false (0 : Nat) (1 : Nat) Int intA x_3.fst.kids ∧ x.fst.blank = x_3.fst.blank ∧ x.snd.snd.kind = x_3.snd.kind ∧ x.snd.snd.text = x_3.snd.text ∧ AV.sl false (0 : Nat) (1 : Nat) Int intA x.snd.snd.kids = AV.sl false (0 : Nat) (1 : Nat) Int intA x_3.snd.kids ∧ x.snd.snd.blank = x_3.snd.blank ∧ ∀ (y : Unit), True → ∃ (y : Unit), True ∧ (!isSwp x_3.fst x_3.snd) = wantsB x.fst x.snd.fst x.snd.snd ∧ True) (∃ (y : Unit), True ∧ true = wantsB x.fst x.snd.fst x.snd.snd ∧ True)) (∃ (y : Unit), True ∧ false = wantsB x.fst x.snd.fst x.snd.snd ∧ True)) (bcase (x.fst.kind == (8 : Int)) (bcase (x.snd.fst == (0 : Int)) (∃ (y : Unit), True ∧ decide (lvl x_1 < (2 : Int)) = wantsB x.fst x.snd.fst x.snd.snd ∧ True) (∃ (y : Unit), True ∧ decide (lvl x_1 < (1 : Int)) = wantsB x.fst x.snd.fst x.snd.snd ∧ True)) (bcase (x.fst.kind == (9 : Int)) (inR IntKind.i64 ((↑(List.length x.fst.kids) : Int) - (1 : Int)) ∧ bcase (x.snd.fst == (↑(List.length x.fst.kids) : Int) - (1 : Int)) (∃ (y : Unit), True ∧ decide (lvl x_1 < (1 : Int)) = wantsB x.fst x.snd.fst x.snd.snd ∧ True) (∃ (y : Unit), True ∧ false = wantsB x.fst x.snd.fst x.snd.snd ∧ True)) (bcase (x.fst.kind == (10 : Int)) (bcase (x.snd.fst == (0 : Int)) (∃ (y : Unit), True ∧ decide (lvl x_1 < (1 : Int)) = wantsB x.fst x.snd.fst x.snd.snd ∧ True) (∃ (y : Unit), True ∧ false = wantsB x.fst x.snd.fst x.snd.snd ∧ True)) (∃ (y : Unit), True ∧ false = wantsB x.fst x.snd.fst x.snd.snd ∧ True))))))) := by kernel_rfl
theorem wants_ok  : Contract G Tryz.prog 56 s_wants :=
  vcFun_ok (Γ := Γof [(112, 0, s_levelOf), (113, 0, s_chainLevel), (114, 0, s_isSwap)]) (E := Eof []) (ov := false) (L := fun x => Lof ([])) Tryz.func56 rfl (by decide) (Γof_ok (l := [(112, 0, s_levelOf), (113, 0, s_chainLevel), (114, 0, s_isSwap)]) ⟨levelOf_ok, chainLevel_ok, isSwap_ok, trivial⟩) fun (x : Nd × Int × Nd) (hx : x.1.kids.length < 2 ^ 62) => (wants_vc  x).mpr (by
  have hx : x.1.kids.length < 2 ^ 62 := hx
  (repeat' first | with_reducible rfl | exact True.intro | refine inR_i64 ?_ ?_ | with_reducible refine And.intro ?_ ?_ | with_reducible refine bcase_dec (fun _ => ?_) (fun _ => ?_) | with_reducible refine bcase_bne (fun _ => ?_) (fun _ => ?_) | with_reducible refine bcase_beq (fun _ => ?_) (fun _ => ?_) | with_reducible refine bcase_not (fun _ => ?_) (fun _ => ?_) | refine bcase_intro (fun _ => ?_) (fun _ => ?_) | refine sl_eq ?_ | refine ex_flip () ?_ ?_ | (apply ex_flip6 <;> try dsimp only) | (apply ex_flip5 <;> try dsimp only) | (apply ex_flip4 <;> try dsimp only) | (apply ex_flip3 <;> try dsimp only) | (apply ex_flip2 <;> try dsimp only) | apply ex_flip | (refine Prod.forall.2 ?_; intro _; try dsimp only) | (intro _; try dsimp only)) <;> (try dsimp only at *) <;> (try simp only [i64max, List.length_cons, List.length_nil]) <;> (try omega)
  all_goals simp [wantsB, *])

def s_l23Level  : Sig := { X := Nd, args := fun x => [.agg (ndA false x)], pre := fun x => chOk x, Y := Unit, post := fun x y => True, res := fun x y => .int .i64 (lvl x), outs := fun x y => [.top], keep := false }
theorem l23Level_vc (x : Nd) : vcFun Go.Proofs.Tryz.prog (Γof []) (Eof []) false (Lof ([])) Go.Proofs.Tryz.f155.ntmps Go.Proofs.Tryz.f155.results.toList (Go.Proofs.Tryz.f155.body.getD .skip) s_l23Level x = ((∀ (y : Unit), True → True ∧ True ∧ True) ∧ bcase (x.kind == (10 : Int)) (∃ (y : Unit), True ∧ (0 : Int) = lvl x ∧ True) (bcase (x.kind == (8 : Int)) (∃ (y : Unit), True ∧ (1 : Int) = lvl x ∧ True) (bcase (x.kind == (9 : Int)) (∃ (y : Unit), True ∧ (1 : Int) = lvl x ∧ True) (bcase (x.kind == (7 : Int)) (bcase (x.text == #[(124 : UInt8), (124 : UInt8)].toList) (∃ (y : Unit), True ∧ (2 : Int) = lvl x ∧ True) (bcase (x.text == #[(38 : UInt8), (38 : UInt8)].toList) (∃ (y : Unit), True ∧ (3 : Int) = lvl x ∧ True) (bcase (x.text == #[(61 : UInt8), (61 : UInt8)].toList) (∃ (y : Unit), True ∧ (4 : Int) = lvl x ∧ True) (bcase (x.text == #[(60 : UInt8)].toList) (∃ (y : Unit), True ∧ (5 : Int) = lvl x ∧ True) (bcase (x.text == #[(42 : UInt8)].toList) (∃ (y : Unit), True ∧ (7 : Int) = lvl x ∧ True) (∃ (y : Unit), True ∧ (6 : Int) = lvl x ∧ True)))))) (∃ (y : Unit), True ∧ (8 : Int) = lvl x ∧ True))))) := by kernel_rfl
theorem l23Level_ok  : Contract G Tryz.prog 155 s_l23Level :=
  vcFun_ok (Γ := Γof []) (E := Eof []) (ov := false) (L := fun x => Lof ([])) Tryz.func155 rfl (by decide) (Γof_ok (l := []) trivial) fun (x : Nd) (hx : chOk x) => (l23Level_vc  x).mpr (by
  have hx : chOk x := hx
  (repeat' first | with_reducible rfl | exact True.intro | refine inR_i64 ?_ ?_ | with_reducible refine And.intro ?_ ?_ | with_reducible refine bcase_dec (fun _ => ?_) (fun _ => ?_) | with_reducible refine bcase_bne (fun _ => ?_) (fun _ => ?_) | with_reducible refine bcase_beq (fun _ => ?_) (fun _ => ?_) | with_reducible refine bcase_not (fun _ => ?_) (fun _ => ?_) | refine bcase_intro (fun _ => ?_) (fun _ => ?_) | refine sl_eq ?_ | refine ex_flip () ?_ ?_ | (apply ex_flip6 <;> try dsimp only) | (apply ex_flip5 <;> try dsimp only) | (apply ex_flip4 <;> try dsimp only) | (apply ex_flip3 <;> try dsimp only) | (apply ex_flip2 <;> try dsimp only) | apply ex_flip | (refine Prod.forall.2 ?_; intro _; try dsimp only) | (intro _; try dsimp only))
  all_goals first
    | (simp [lvl, clvl, *]; done)
    | (rcases chain_cases (hx (by assumption)) with h | h | h | h | h | h | h <;> simp_all [lvl, clvl]))

theorem swp_eq {x y : Nd} (hx : x.kind = 7) (h3 : chOk x) (h4 : chOk y) : isSwp x y = (decide (y.kind = 7) && (!(y.text == x.text) && (decide (lvl y = 6) && decide (lvl x = 6)))) := by
  by_cases hy : y.kind = 7
  · have h5 := chain_cases (h3 hx); have h6 := chain_cases (h4 hy)
    have e1 : lvl x = clvl x.text := by simp [lvl, hx]
    have e2 : lvl y = clvl y.text := by simp [lvl, hy]
    rw [e1, e2]
    unfold isSwp
    generalize x.text = s at h5 ⊢; generalize y.text = t at h6 ⊢
    rw [hx, hy]
    rcases h5 with rfl | rfl | rfl | rfl | rfl | rfl | rfl <;> rcases h6 with rfl | rfl | rfl | rfl | rfl | rfl | rfl <;> rfl
  · simp [isSwp, hy]
theorem wants7 {x y : Nd} {i : Int} (hx : x.kind = 7) (h3 : chOk x) (h4 : chOk y) : wantsB x i y = (decide (lvl y ≤ lvl x) && !(decide (i = 0) && (decide (y.kind = 7) && (!(y.text == x.text) && (decide (lvl y = 6) && decide (lvl x = 6)))))) := by
  have e1 : lvl x = clvl x.text := by simp [lvl, hx]
  rw [← swp_eq hx h3 h4, e1]
  simp [wantsB, hx]
theorem w7a {x y : Nd} {i : Int} (hx : x.kind = 7) (h3 : chOk x) (h4 : chOk y) (hi : i = 0) (hy : y.kind = 7) (ht : (y.text == x.text) = false) (hl : lvl y = 6) (hle : lvl y ≤ lvl x) : (!(lvl x == 6)) = wantsB x i y := by
  rw [wants7 hx h3 h4, decide_eq_true hle, decide_eq_true hi, decide_eq_true hy, ht, decide_eq_true hl, beqI]
  cases decide (lvl x = 6) <;> rfl
theorem w7b {x y : Nd} {i : Int} (hx : x.kind = 7) (h3 : chOk x) (h4 : chOk y) (hle : ¬ lvl y ≤ lvl x) : false = wantsB x i y := by
  rw [wants7 hx h3 h4, decide_eq_false hle]; rfl
def s_l23Wants  : Sig := { X := Nd × Int × Nd, args := fun x => [.agg (ndA false x.1), .int .i64 x.2.1, .agg (ndA false x.2.2)], pre := fun x => x.1.kids.length < 2 ^ 62 ∧ (0 ≤ x.2.1 ∧ x.2.1 < x.1.kids.length) ∧ chOk x.1 ∧ chOk x.2.2, Y := Unit, post := fun x y => True, res := fun x y => .bool (wantsB x.1 x.2.1 x.2.2), outs := fun x y => [.top, .top, .top], keep := false }
theorem l23Wants_vc (x : Nd × Int × Nd) : vcFun Go.Proofs.Tryz.prog (Γof [(155, 0, s_l23Level)]) (Eof []) false (Lof ([])) Go.Proofs.Tryz.f109.ntmps Go.Proofs.Tryz.f109.results.toList (Go.Proofs.Tryz.f109.body.getD .skip) s_l23Wants x = ((∀ (y : Unit), True → True ∧ True ∧ True ∧ True ∧ True) ∧ ∃ (x_1 : Nd), chOk x_1 ∧ x.snd.snd.kind = x_1.kind ∧ x.snd.snd.text = x_1.text ∧ AV.sl false (0 : Nat) (1 : Nat) Int intA x.snd.snd.kids = AV.sl false (0 : Nat) (1 : Nat) Int intA x_1.kids ∧ x.snd.snd.blank = x_1.blank ∧ ∀ (y : Unit), True → bcase (x.fst.kind == (5 : Int)) (bcase (x.snd.fst == (0 : Int)) (∃ (y : Unit), True ∧ decide (lvl x_1 < (8 : Int)) = wantsB x.fst x.snd.fst x.snd.snd ∧ True) (∃ (y : Unit), True ∧ false = wantsB x.fst x.snd.fst x.snd.snd ∧ True)) (bcase (x.fst.kind == (6 : Int)) (∃ (y : Unit), True ∧ decide (lvl x_1 < (8 : Int)) = wantsB x.fst x.snd.fst x.snd.snd ∧ True) (bcase (x.fst.kind == (7 : Int)) (bcase (x.snd.fst == (0 : Int)) (bcase (x.snd.snd.kind == (7 : Int)) (bcase (!x.snd.snd.text == x.fst.text) (bcase (lvl x_1 == (6 : Int)) (∃ (x_2 : Nd), chOk x_2 ∧ x.fst.kind = x_2.kind ∧ x.fst.text = x_2.text ∧ AV.sl false (0 : Nat) (1 : Nat) Int intA x.fst.kids = AV.sl false (0 : Nat) (1 : Nat) Int intA x_2.kids ∧ x.fst.blank = x_2.blank ∧ ∀ (y : Unit), True → ∃ (x_3 : Nd), chOk x_3 ∧ x.fst.kind = x_3.kind ∧ x.fst.text = x_3.text ∧ AV.sl false (0 : Nat) (1 : Nat) Int intA x.fst.kids = AV.sl false (0 : Nat) (1 : Nat) Int intA x_3.kids ∧ x.fst.blank = x_3.blank ∧ ∀ (y : Unit), True → bcase (decide (lvl x_1 ≤ lvl x_3)) (∃ (y : Unit), True ∧ (!lvl x_2 == (6 : Int)) = wantsB x.fst x.snd.fst x.snd.snd ∧ True) (∃ (y : Unit), True ∧ false = wantsB x.fst x.snd.fst x.snd.snd ∧ True)) (∃ (x_2 : Nd), chOk x_2 ∧ x.fst.kind = x_2.kind ∧ x.fst.text = x_2.text ∧ AV.sl false (0 : Nat) (1 : Nat) Int intA x.fst.kids = AV.sl false (0 : Nat) (1 : Nat) Int intA x_2.kids ∧ x.fst.blank = x_2.blank ∧ ∀ (y : Unit), True → bcase (decide (lvl x_1 ≤ lvl x_2)) (∃ (y : Unit), True ∧ true = wantsB x.fst x.snd.fst x.snd.snd ∧ True) (∃ (y : Unit), True ∧ false = wantsB x.fst x.snd.fst x.snd.snd ∧ True))) (∃ (x_2 : Nd), chOk x_2 ∧ x.fst.kind = x_2.kind ∧ x.fst.text = x_2.text ∧ AV.sl false (0 : Nat) (1 : Nat) Int intA x.fst.kids = AV.sl false (0 : Nat) (1 : Nat) Int intA x_2.kids ∧ x.fst.blank = x_2.blank ∧ ∀ (y : Unit), True → bcase (decide (lvl x_1 ≤ lvl x_2)) (∃ (y : Unit), True ∧ true = wantsB x.fst x.snd.fst x.snd.snd ∧ True) (∃ (y : Unit), True ∧ false = wantsB x.fst x.snd.fst x.snd.snd ∧ True))) (∃ (x_2 : Nd), chOk x_2 ∧ x.fst.kind = x_2.kind ∧ x.fst.text = x_2.text ∧ AV.sl false (0 : Nat) (1 : Nat) Int intA x.fst.kids = AV.sl false (0 : Nat) (1 : Nat) Int intA x_2.kids ∧ x.fst.blank = x_2.blank ∧ ∀ (y : Unit), True → bcase (decide (lvl x_1 ≤ lvl x_2)) (∃ (y : Unit), True ∧ true = wantsB x.fst x.snd.fst x.snd.snd ∧ True) (∃ (y : Unit), True ∧ false = wantsB x.fst x.snd.fst x.snd.snd ∧ True))) (∃ (x_2 : Nd), chOk x_2 ∧ x.fst.kind = x_2.kind ∧ x.fst.text = x_2.text ∧ AV.sl false (0 : Nat) (1 : Nat) Int intA x.fst.kids = AV.sl false (0 : Nat) (1 : Nat) Int intA x_2.kids ∧ x.fst.blank = x_2.blank ∧ ∀ (y : Unit), True → bcase (decide (lvl x_1 ≤ lvl x_2)) (∃ (y : Unit), True ∧ true = wantsB x.fst x.snd.fst x.snd.snd ∧ True) (∃ (y : Unit), True ∧ false = wantsB x.fst x.snd.fst x.snd.snd ∧ True))) (bcase (x.fst.kind == (8 : Int)) (bcase (x.snd.fst == (0 : Int)) (bcase (decide (lvl x_1 < (2 : Int))) (∃ (y : Unit), True ∧ true = wantsB x.fst x.snd.fst x.snd.snd ∧ True) (∃ (y : Unit), True ∧ decide (lvl x_1 < (1 : Int)) = wantsB x.fst x.snd.fst x.snd.snd ∧ True)) (∃ (y : Unit), True ∧ decide (lvl x_1 < (1 : Int)) = wantsB x.fst x.snd.fst x.snd.snd ∧ True)) (bcase (x.fst.kind == (9 : Int)) (inR IntKind.i64 (x.snd.fst + (1 : Int)) ∧ bcase (x.snd.fst + (1 : Int) == (↑(List.length x.fst.kids) : Int)) (∃ (y : Unit), True ∧ decide (lvl x_1 < (1 : Int)) = wantsB x.fst x.snd.fst x.snd.snd ∧ True) (∃ (y : Unit), True ∧ false = wantsB x.fst x.snd.fst x.snd.snd ∧ True)) (bcase (x.fst.kind == (10 : Int)) (bcase (x.snd.fst == (0 : Int)) (∃ (y : Unit), True ∧ decide (lvl x_1 < (1 : Int)) = wantsB x.fst x.snd.fst x.snd.snd ∧ True) (∃ (y : Unit), True ∧ false = wantsB x.fst x.snd.fst x.snd.snd ∧ True)) (∃ (y : Unit), True ∧ false = wantsB x.fst x.snd.fst x.snd.snd ∧ True))))))) := by kernel_rfl
theorem l23Wants_ok  : Contract G Tryz.prog 109 s_l23Wants :=
  vcFun_ok (Γ := Γof [(155, 0, s_l23Level)]) (E := Eof []) (ov := false) (L := fun x => Lof ([])) Tryz.func109 rfl (by decide) (Γof_ok (l := [(155, 0, s_l23Level)]) ⟨l23Level_ok, trivial⟩) fun (x : Nd × Int × Nd) (hx : x.1.kids.length < 2 ^ 62 ∧ (0 ≤ x.2.1 ∧ x.2.1 < x.1.kids.length) ∧ chOk x.1 ∧ chOk x.2.2) => (l23Wants_vc  x).mpr (by
  obtain ⟨h1, h2, h3, h4⟩ := hx
  (repeat' first | with_reducible rfl | exact True.intro | refine inR_i64 ?_ ?_ | with_reducible refine And.intro ?_ ?_ | with_reducible refine bcase_dec (fun _ => ?_) (fun _ => ?_) | with_reducible refine bcase_bne (fun _ => ?_) (fun _ => ?_) | with_reducible refine bcase_beq (fun _ => ?_) (fun _ => ?_) | with_reducible refine bcase_not (fun _ => ?_) (fun _ => ?_) | refine bcase_intro (fun _ => ?_) (fun _ => ?_) | refine sl_eq ?_ | refine ex_flip () ?_ ?_ | (apply ex_flip6 <;> try dsimp only) | (apply ex_flip5 <;> try dsimp only) | (apply ex_flip4 <;> try dsimp only) | (apply ex_flip3 <;> try dsimp only) | (apply ex_flip2 <;> try dsimp only) | apply ex_flip | (refine Prod.forall.2 ?_; intro _; try dsimp only) | (intro _; try dsimp only))
  all_goals first
    | exact h3
    | exact h4
    | ((try simp only [i64max]); omega)
    | exact h3 (by assumption)
    | exact h4 (by assumption)
    | (rw [wants7 (by assumption) h3 h4]; simp [*]; done)
    | (rw [wants7 (by assumption) h3 h4]; simp_all; done)
    | (rw [wants7 (by assumption) h3 h4]; simp [beqI, *]; done)
    | exact w7a (by assumption) h3 h4 (by assumption) (by assumption) (by assumption) (by assumption) (by assumption)
    | exact w7b (by assumption) h3 h4 (by assumption)
    | (simp [wantsB, *]; done)
    | (simp_all [wantsB]; done)
    | (simp_all [wantsB]; omega)
    | skip)

def bI (ns : List Nd) (k0 k : Int) : Prop := okUp ns k ∧ bare ns k = bare ns k0
theorem bI_kid {ns : List Nd} {k0 k c : Int} {y : Nd} (h : bI ns k0 k) (hy : ns[k.toNat]? = some y) (e : y.kind = 11) (hc : y.kids[0]? = some c) : bI ns k0 c ∧ 0 ≤ c ∧ c < k := by
  have e2 : (ndAt ns k).kind = 11 := by rw [ndAt_of hy]; exact e
  obtain ⟨d, hd⟩ := okUp11 h.1 e2
  have hyk : y.kids = [d] := by rw [← ndAt_of hy]; exact hd
  rw [hyk] at hc; cases hc
  have hm := okUp_kid h.1 (c := c) (by rw [hd]; simp)
  exact ⟨⟨hm.1, by rw [← h.2, bare_11 h.1 e2 hd]⟩, hm.2⟩
theorem bI_len {ns : List Nd} {k0 k : Int} {y : Nd} (h : bI ns k0 k) (hy : ns[k.toNat]? = some y) (e : y.kind = 11) : y.kids.length = 1 := by
  have e2 : (ndAt ns k).kind = 11 := by rw [ndAt_of hy]; exact e
  obtain ⟨d, hd⟩ := okUp11 h.1 e2
  rw [← ndAt_of hy, hd]; rfl
theorem bI_done {ns : List Nd} {k0 k : Int} {y : Nd} (h : bI ns k0 k) (hy : ns[k.toNat]? = some y) (e : y.kind ≠ 11) : k = bare ns k0 := by
  rw [← h.2, bare_ne (by rw [ndAt_of hy]; exact e)]
def s_iBare  : Sig := { X := List Nd × Int, args := fun x => [nds x.1, .int .i64 x.2], pre := fun x => x.1.length < 2 ^ 62 ∧ okUp x.1 x.2, Y := Unit, post := fun x y => True, res := fun x y => .int .i64 (bare x.1 x.2), outs := fun x y => [.top, .top], keep := false }
theorem iBare_vc (x : List Nd × Int) : vcFun Go.Proofs.Tryz.prog (Γof []) (Eof []) false (Lof ([(1,{ ι := Int, inv := bI x.1 x.2, regs := fun i => [(0, nds x.1), (1, .int .i64 i)], als := [], meas := fun i => i.toNat })])) Go.Proofs.Tryz.f55.ntmps Go.Proofs.Tryz.f55.results.toList (Go.Proofs.Tryz.f55.body.getD .skip) s_iBare x = ((∀ (y : Unit), True → True ∧ True ∧ True ∧ True) ∧ (∃ (i : Int), bI x.fst x.snd i ∧ (AV.sl false (0 : Nat) (4 : Nat) Nd (ndA false) x.fst = AV.sl false (0 : Nat) (4 : Nat) Nd (ndA false) x.fst ∧ x.snd = i ∧ True) ∧ True) ∧ ∀ (i : Int), bI x.fst x.snd i → ((0 : Int) ≤ i ∧ i < (↑(List.length x.fst) : Int)) ∧ ∀ (e : Nd), x.fst[Int.toNat i]? = some e → bcase (e.kind == (11 : Int)) (((0 : Int) ≤ i ∧ i < (↑(List.length x.fst) : Int)) ∧ ∀ (e : Nd), x.fst[Int.toNat i]? = some e → ((0 : Int) ≤ (0 : Int) ∧ (0 : Int) < (↑(List.length e.kids) : Int)) ∧ ∀ (e_1 : Int), e.kids[(0 : Nat)]? = some e_1 → ∃ (i' : Int), bI x.fst x.snd i' ∧ Int.toNat i' < Int.toNat i ∧ (AV.sl false (0 : Nat) (4 : Nat) Nd (ndA false) x.fst = AV.sl false (0 : Nat) (4 : Nat) Nd (ndA false) x.fst ∧ e_1 = i' ∧ True) ∧ True) (∃ (y : Unit), True ∧ i = bare x.fst x.snd ∧ True)) := by kernel_rfl
theorem iBare_ok  : Contract G Tryz.prog 55 s_iBare :=
  vcFun_ok (Γ := Γof []) (E := Eof []) (ov := false) (L := fun x => Lof ([(1,{ ι := Int, inv := bI x.1 x.2, regs := fun i => [(0, nds x.1), (1, .int .i64 i)], als := [], meas := fun i => i.toNat })])) Tryz.func55 rfl (by decide) (Γof_ok (l := []) trivial) fun (x : List Nd × Int) (hx : x.1.length < 2 ^ 62 ∧ okUp x.1 x.2) => (iBare_vc  x).mpr (by
  obtain ⟨h1, h2⟩ := hx
  (repeat' first | with_reducible rfl | exact True.intro | refine inR_i64 ?_ ?_ | with_reducible refine And.intro ?_ ?_ | with_reducible refine bcase_dec (fun _ => ?_) (fun _ => ?_) | with_reducible refine bcase_bne (fun _ => ?_) (fun _ => ?_) | with_reducible refine bcase_beq (fun _ => ?_) (fun _ => ?_) | with_reducible refine bcase_not (fun _ => ?_) (fun _ => ?_) | refine bcase_intro (fun _ => ?_) (fun _ => ?_) | refine sl_eq ?_ | refine ex_flip () ?_ ?_ | (apply ex_flip6 <;> try dsimp only) | (apply ex_flip5 <;> try dsimp only) | (apply ex_flip4 <;> try dsimp only) | (apply ex_flip3 <;> try dsimp only) | (apply ex_flip2 <;> try dsimp only) | apply ex_flip | (refine Prod.forall.2 ?_; intro _; try dsimp only) | (intro _; try dsimp only))
  all_goals first
    | exact ⟨h2, rfl⟩
    | exact (isNd_iff.1 (show bI _ _ _ by assumption).1.1).1
    | exact (isNd_iff.1 (show bI _ _ _ by assumption).1.1).2
    | exact bI_done (by assumption) (by assumption) (by assumption)
    | exact (bI_kid (by assumption) (by assumption) (by assumption) (by assumption)).1
    | omega
    | skip
  all_goals (repeat (rename x.1[Int.toNat _]? = some _ => hq; revert hq; rename x.1[Int.toNat _]? = some _ => hr; intro hq; rw [hr] at hq; cases hq))
  all_goals first
    | exact (bI_kid (by assumption) (by assumption) (by assumption) (by assumption)).1
    | (have hk := bI_kid (by assumption) (by assumption) (by assumption) (by assumption); omega)
    | (have hk := bI_len (by assumption) (by assumption) (by assumption); omega)
    | skip)

def s_sBare  : Sig := { X := List Nd × Int, args := fun x => [nds x.1, .int .i64 x.2], pre := fun x => x.1.length < 2 ^ 62 ∧ okUp x.1 x.2, Y := Unit, post := fun x y => True, res := fun x y => .int .i64 (bare x.1 x.2), outs := fun x y => [.top, .top], keep := false }
theorem sBare_vc (x : List Nd × Int) : vcFun Go.Proofs.Tryz.prog (Γof []) (Eof []) false (Lof ([(1,{ ι := Int, inv := bI x.1 x.2, regs := fun i => [(0, nds x.1), (1, .int .i64 i)], als := [], meas := fun i => i.toNat })])) Go.Proofs.Tryz.f108.ntmps Go.Proofs.Tryz.f108.results.toList (Go.Proofs.Tryz.f108.body.getD .skip) s_sBare x = ((∀ (y : Unit), True → True ∧ True ∧ True ∧ True) ∧ (∃ (i : Int), bI x.fst x.snd i ∧ (AV.sl false (0 : Nat) (4 : Nat) Nd (ndA false) x.fst = AV.sl false (0 : Nat) (4 : Nat) Nd (ndA false) x.fst ∧ x.snd = i ∧ True) ∧ True) ∧ ∀ (i : Int), bI x.fst x.snd i → ((0 : Int) ≤ i ∧ i < (↑(List.length x.fst) : Int)) ∧ ∀ (e : Nd), x.fst[Int.toNat i]? = some e → bcase (e.kind == (11 : Int)) (((0 : Int) ≤ i ∧ i < (↑(List.length x.fst) : Int)) ∧ ∀ (e : Nd), x.fst[Int.toNat i]? = some e → ((0 : Int) ≤ (0 : Int) ∧ (0 : Int) < (↑(List.length e.kids) : Int)) ∧ ∀ (e_1 : Int), e.kids[(0 : Nat)]? = some e_1 → ∃ (i' : Int), bI x.fst x.snd i' ∧ Int.toNat i' < Int.toNat i ∧ (AV.sl false (0 : Nat) (4 : Nat) Nd (ndA false) x.fst = AV.sl false (0 : Nat) (4 : Nat) Nd (ndA false) x.fst ∧ e_1 = i' ∧ True) ∧ True) (∃ (y : Unit), True ∧ i = bare x.fst x.snd ∧ True)) := by kernel_rfl
theorem sBare_ok  : Contract G Tryz.prog 108 s_sBare :=
  vcFun_ok (Γ := Γof []) (E := Eof []) (ov := false) (L := fun x => Lof ([(1,{ ι := Int, inv := bI x.1 x.2, regs := fun i => [(0, nds x.1), (1, .int .i64 i)], als := [], meas := fun i => i.toNat })])) Tryz.func108 rfl (by decide) (Γof_ok (l := []) trivial) fun (x : List Nd × Int) (hx : x.1.length < 2 ^ 62 ∧ okUp x.1 x.2) => (sBare_vc  x).mpr (by
  obtain ⟨h1, h2⟩ := hx
  (repeat' first | with_reducible rfl | exact True.intro | refine inR_i64 ?_ ?_ | with_reducible refine And.intro ?_ ?_ | with_reducible refine bcase_dec (fun _ => ?_) (fun _ => ?_) | with_reducible refine bcase_bne (fun _ => ?_) (fun _ => ?_) | with_reducible refine bcase_beq (fun _ => ?_) (fun _ => ?_) | with_reducible refine bcase_not (fun _ => ?_) (fun _ => ?_) | refine bcase_intro (fun _ => ?_) (fun _ => ?_) | refine sl_eq ?_ | refine ex_flip () ?_ ?_ | (apply ex_flip6 <;> try dsimp only) | (apply ex_flip5 <;> try dsimp only) | (apply ex_flip4 <;> try dsimp only) | (apply ex_flip3 <;> try dsimp only) | (apply ex_flip2 <;> try dsimp only) | apply ex_flip | (refine Prod.forall.2 ?_; intro _; try dsimp only) | (intro _; try dsimp only))
  all_goals first
    | exact ⟨h2, rfl⟩
    | exact (isNd_iff.1 (show bI _ _ _ by assumption).1.1).1
    | exact (isNd_iff.1 (show bI _ _ _ by assumption).1.1).2
    | exact bI_done (by assumption) (by assumption) (by assumption)
    | exact (bI_kid (by assumption) (by assumption) (by assumption) (by assumption)).1
    | omega
    | skip
  all_goals (repeat (rename x.1[Int.toNat _]? = some _ => hq; revert hq; rename x.1[Int.toNat _]? = some _ => hr; intro hq; rw [hr] at hq; cases hq))
  all_goals first
    | exact (bI_kid (by assumption) (by assumption) (by assumption) (by assumption)).1
    | (have hk := bI_kid (by assumption) (by assumption) (by assumption) (by assumption); omega)
    | (have hk := bI_len (by assumption) (by assumption) (by assumption); omega)
    | skip)

def s_sp1  : Sig := { X := List Nd × Nd × Int × Int, args := fun x => [.agg (ndA false x.2.1), .int .i64 x.2.2.1, .int .i64 x.2.2.2, .pf [nds x.1]], pre := fun x => x.1.length < 2 ^ 62 ∧ okUp x.1 x.2.2.2 ∧ x.2.1.kids.length < 2 ^ 62, Y := Unit, post := fun x y => True, res := fun x y => .tup [.int .i64 (bare x.1 x.2.2.2), .bool (decide (kindAt x.1 x.2.2.2 = 11) && wantsB x.2.1 x.2.2.1 (ndAt x.1 (bare x.1 x.2.2.2)))], outs := fun x y => [.top, .top, .top, .top], keep := false }
theorem sp1_vc (x : List Nd × Nd × Int × Int) : vcFun Go.Proofs.Tryz.prog (Γof [(55, 0, s_iBare), (56, 0, s_wants)]) (Eof []) false (Lof ([])) Go.Proofs.Tryz.f54.ntmps Go.Proofs.Tryz.f54.results.toList (Go.Proofs.Tryz.f54.body.getD .skip) s_sp1 x = ((∀ (y : Unit), True → (True ∧ True ∧ True) ∧ True ∧ True ∧ True ∧ True ∧ True) ∧ ((0 : Int) ≤ x.snd.snd.snd ∧ x.snd.snd.snd < (↑(List.length x.fst) : Int)) ∧ ∀ (e : Nd), x.fst[Int.toNat x.snd.snd.snd]? = some e → bcase (e.kind != (11 : Int)) (∃ (y : Unit), True ∧ x.snd.snd.snd = bare x.fst x.snd.snd.snd ∧ false = (decide (kindAt x.fst x.snd.snd.snd = (11 : Int)) && wantsB x.snd.fst x.snd.snd.fst (ndAt x.fst (bare x.fst x.snd.snd.snd))) ∧ True) (∃ (x_1 : List Nd × Int), (List.length x_1.fst < (4611686018427387904 : Nat) ∧ okUp x_1.fst x_1.snd) ∧ AV.sl false (0 : Nat) (4 : Nat) Nd (ndA false) x.fst = AV.sl false (0 : Nat) (4 : Nat) Nd (ndA false) x_1.fst ∧ x.snd.snd.snd = x_1.snd ∧ ∀ (y : Unit), True → true = true ∧ true = true ∧ ((0 : Int) ≤ bare x_1.fst x_1.snd ∧ bare x_1.fst x_1.snd < (↑(List.length x.fst) : Int)) ∧ ∀ (e : Nd), x.fst[Int.toNat (bare x_1.fst x_1.snd)]? = some e → ∃ (x_2 : Nd × Int × Nd), List.length x_2.fst.kids < (4611686018427387904 : Nat) ∧ x.snd.fst.kind = x_2.fst.kind ∧ x.snd.fst.text = x_2.fst.text ∧ AV.sl false (0 : Nat) (1 : Nat) Int intA x.snd.fst.kids = AV.sl false (0 : Nat) (1 : Nat) Int intA x_2.fst.kids ∧ x.snd.fst.blank = x_2.fst.blank ∧ x.snd.snd.fst = x_2.snd.fst ∧ e.kind = x_2.snd.snd.kind ∧ e.text = x_2.snd.snd.text ∧ AV.sl false (0 : Nat) (1 : Nat) Int intA e.kids = AV.sl false (0 : Nat) (1 : Nat) Int intA x_2.snd.snd.kids ∧ e.blank = x_2.snd.snd.blank ∧ ∃ (y0 : Unit), (∀ (y : Unit), True → AV.bool (wantsB x_2.fst x_2.snd.fst x_2.snd.snd) = AV.bool (wantsB x_2.fst x_2.snd.fst x_2.snd.snd)) ∧ true = true ∧ ∃ (y : Unit), True ∧ bare x_1.fst x_1.snd = bare x.fst x.snd.snd.snd ∧ wantsB x_2.fst x_2.snd.fst x_2.snd.snd = (decide (kindAt x.fst x.snd.snd.snd = (11 : Int)) && wantsB x.snd.fst x.snd.snd.fst (ndAt x.fst (bare x.fst x.snd.snd.snd))) ∧ True)) := by kernel_rfl
theorem sp1_ok  : Contract G Tryz.prog 54 s_sp1 :=
  vcFun_ok (Γ := Γof [(55, 0, s_iBare), (56, 0, s_wants)]) (E := Eof []) (ov := false) (L := fun x => Lof ([])) Tryz.func54 rfl (by decide) (Γof_ok (l := [(55, 0, s_iBare), (56, 0, s_wants)]) ⟨iBare_ok, wants_ok, trivial⟩) fun (x : List Nd × Nd × Int × Int) (hx : x.1.length < 2 ^ 62 ∧ okUp x.1 x.2.2.2 ∧ x.2.1.kids.length < 2 ^ 62) => (sp1_vc  x).mpr (by
  obtain ⟨h1, h2, h3⟩ := hx
  have hr := isNd_iff.1 h2.1
  have hb := bare_ok (x.2.2.2.toNat + 1) (k := x.2.2.2) (by omega) h2
  have hr2 := isNd_iff.1 hb.1.1
  (repeat' first | with_reducible rfl | exact True.intro | refine inR_i64 ?_ ?_ | with_reducible refine And.intro ?_ ?_ | with_reducible refine bcase_dec (fun _ => ?_) (fun _ => ?_) | with_reducible refine bcase_bne (fun _ => ?_) (fun _ => ?_) | with_reducible refine bcase_beq (fun _ => ?_) (fun _ => ?_) | with_reducible refine bcase_not (fun _ => ?_) (fun _ => ?_) | refine bcase_intro (fun _ => ?_) (fun _ => ?_) | refine sl_eq ?_ | refine ex_flip () ?_ ?_ | (apply ex_flip6 <;> try dsimp only) | (apply ex_flip5 <;> try dsimp only) | (apply ex_flip4 <;> try dsimp only) | (apply ex_flip3 <;> try dsimp only) | (apply ex_flip2 <;> try dsimp only) | apply ex_flip | (refine Prod.forall.2 ?_; intro _; try dsimp only) | (intro _; try dsimp only))
  all_goals first
    | exact h1
    | exact h2
    | exact h3
    | omega
    | (rw [bare_ne (by rw [ndAt_of (by assumption)]; assumption)]; done)
    | (simp [kindAt, ndAt_of (show x.1[Int.toNat x.2.2.2]? = some _ by assumption), *]; done)
    | (rw [ndAt_of (show x.1[Int.toNat (bare x.1 x.2.2.2)]? = some _ by assumption)]; simp [kindAt, ndAt_of (show x.1[Int.toNat x.2.2.2]? = some _ by assumption), *]; done)
    | skip)

end Go.My
end
section
/- Brackets that are spared: trees made anew. -/
set_option linter.unusedVariables false
set_option linter.unusedSimpArgs false
namespace Go.My
open Go.Eng Go.Proofs
variable {G : GInv}

def s_clone  : Sig := { X := List Int, args := fun x => [ints x], pre := fun x => x.length ≤ 2 ^ 40, Y := Unit, post := fun x y => True, res := fun x y => oints x, outs := fun x y => [.top], keep := false }
theorem clone_vc (x : List Int) : vcFun Go.Proofs.Tryz.prog (Γof []) (Eof [(39, ⟨Int,intA⟩)]) false (Lof ([])) Go.Proofs.Tryz.f111.ntmps Go.Proofs.Tryz.f111.results.toList (Go.Proofs.Tryz.f111.body.getD .skip) s_clone x = ((∀ (y : Unit), True → (∀ (x : Int), True ∧ True) ∧ True ∧ True) ∧ ∀ (b : Bool), (b = true → x = []) → bcase b (∃ (y : Unit), True ∧ x = [] ∧ True) (∃ (zs : List Int), AV.sl false (0 : Nat) (1 : Nat) Int intA x = AV.sl false (0 : Nat) (1 : Nat) Int intA zs ∧ leafy intA ∧ room ((0 : Nat) + List.length zs) (8 : Nat) ∧ ∃ (y : Unit), True ∧ AV.sl true (0 : Nat) (1 : Nat) Int intA ([] ++ zs) = AV.sl true (0 : Nat) (1 : Nat) Int intA x ∧ True)) := by kernel_rfl
theorem clone_ok  : Contract G Tryz.prog 111 s_clone :=
  vcFun_ok (Γ := Γof []) (E := Eof [(39, ⟨Int,intA⟩)]) (ov := false) (L := fun x => Lof ([])) Tryz.func111 rfl (by decide) (Γof_ok (l := []) trivial) fun (x : List Int) (hx : x.length ≤ 2 ^ 40) => (clone_vc  x).mpr (by
  have hx : x.length ≤ 2 ^ 40 := hx
  (repeat' first | with_reducible rfl | exact True.intro | refine inR_i64 ?_ ?_ | with_reducible refine And.intro ?_ ?_ | with_reducible refine bcase_dec (fun _ => ?_) (fun _ => ?_) | with_reducible refine bcase_bne (fun _ => ?_) (fun _ => ?_) | with_reducible refine bcase_beq (fun _ => ?_) (fun _ => ?_) | with_reducible refine bcase_not (fun _ => ?_) (fun _ => ?_) | refine bcase_intro (fun _ => ?_) (fun _ => ?_) | refine sl_eq ?_ | refine ex_flip () ?_ ?_ | (apply ex_flip6 <;> try dsimp only) | (apply ex_flip5 <;> try dsimp only) | (apply ex_flip4 <;> try dsimp only) | (apply ex_flip3 <;> try dsimp only) | (apply ex_flip2 <;> try dsimp only) | apply ex_flip | (refine Prod.forall.2 ?_; intro _; try dsimp only) | (intro _; try dsimp only))
  all_goals first
    | rfl
    | (rename_i h0 hb; rw [h0 hb]; done)
    | ((try simp only [room, List.length_nil]); omega)
    | skip)

theorem take_next {l : List Nd} {i : Int} {e : Nd} (h0 : 0 ≤ i) (he : l[i.toNat]? = some e) : l.take i.toNat ++ [e] = l.take (i + 1).toNat := by rw [toNat1 h0, takeE he]
theorem take_end {l : List Nd} {i : Int} (h : ¬ i < (l.length : Int)) : l.take i.toNat = l := List.take_of_length_le (by omega)
def kidsB (l : List Nd) : Prop := l.length ≤ 2 ^ 30 ∧ ∀ e ∈ l, e.kids.length ≤ 2 ^ 30
def s_copyNodes  : Sig := { X := List Nd, args := fun x => [nds x], pre := fun x => kidsB x, Y := Unit, post := fun x y => True, res := fun x y => onds x, outs := fun x y => [.top], keep := false }
theorem copyNodes_vc (x : List Nd) : vcFun Go.Proofs.Tryz.prog (Γof [(111, 0, s_clone)]) (Eof [(24, ⟨Nd,ndA true⟩)]) false (Lof ([(3,{ ι := Int, inv := fun i => 0 ≤ i ∧ i ≤ x.length, regs := fun i => [(3, onds (x.take i.toNat)), (6, nds x), (7, .int .i64 x.length), (8, .int .i64 i)], als := [], meas := fun i => x.length - i.toNat })])) Go.Proofs.Tryz.f53.ntmps Go.Proofs.Tryz.f53.results.toList (Go.Proofs.Tryz.f53.body.getD .skip) s_copyNodes x = ((∀ (y : Unit), True → (∀ (x : Nd), True ∧ True ∧ (∀ (x : Int), True ∧ True) ∧ True ∧ True) ∧ True ∧ True) ∧ (∃ (i : Int), ((0 : Int) ≤ i ∧ i ≤ (↑(List.length x) : Int)) ∧ (List.take (Int.toNat i) x = [] ∧ AV.sl false (0 : Nat) (4 : Nat) Nd (ndA false) x = AV.sl false (0 : Nat) (4 : Nat) Nd (ndA false) x ∧ (↑(List.length x) : Int) = (↑(List.length x) : Int) ∧ (0 : Int) = i ∧ True) ∧ True) ∧ ∀ (i : Int), (0 : Int) ≤ i ∧ i ≤ (↑(List.length x) : Int) → bcase (decide (i < (↑(List.length x) : Int))) (((0 : Int) ≤ i ∧ i < (↑(List.length x) : Int)) ∧ ∀ (e : Nd), x[Int.toNat i]? = some e → ∃ (x_1 : List Int), List.length x_1 ≤ (1099511627776 : Nat) ∧ AV.sl false (0 : Nat) (1 : Nat) Int intA e.kids = AV.sl false (0 : Nat) (1 : Nat) Int intA x_1 ∧ ∀ (y : Unit), True → ∃ (x_2 : Nd), e.kind = x_2.kind ∧ e.text = x_2.text ∧ AV.sl true (0 : Nat) (1 : Nat) Int intA x_1 = AV.sl true (0 : Nat) (1 : Nat) Int intA x_2.kids ∧ e.blank = x_2.blank ∧ ∃ (zs : List Nd), AV.sl true (0 : Nat) (4 : Nat) Nd (ndA true) [x_2] = AV.sl true (0 : Nat) (4 : Nat) Nd (ndA true) zs ∧ leafy (ndA true) ∧ room (List.length (List.take (Int.toNat i) x) + List.length zs) (56 : Nat) ∧ inR IntKind.i64 (i + (1 : Int)) ∧ ∃ (i' : Int), ((0 : Int) ≤ i' ∧ i' ≤ (↑(List.length x) : Int)) ∧ List.length x - Int.toNat i' < List.length x - Int.toNat i ∧ (AV.sl true (0 : Nat) (4 : Nat) Nd (ndA true) (List.take (Int.toNat i) x ++ zs) = AV.sl true (0 : Nat) (4 : Nat) Nd (ndA true) (List.take (Int.toNat i') x) ∧ AV.sl false (0 : Nat) (4 : Nat) Nd (ndA false) x = AV.sl false (0 : Nat) (4 : Nat) Nd (ndA false) x ∧ (↑(List.length x) : Int) = (↑(List.length x) : Int) ∧ i + (1 : Int) = i' ∧ True) ∧ True) (∃ (y : Unit), True ∧ AV.sl true (0 : Nat) (4 : Nat) Nd (ndA true) (List.take (Int.toNat i) x) = AV.sl true (0 : Nat) (4 : Nat) Nd (ndA true) x ∧ True)) := by kernel_rfl
theorem copyNodes_ok  : Contract G Tryz.prog 53 s_copyNodes :=
  vcFun_ok (Γ := Γof [(111, 0, s_clone)]) (E := Eof [(24, ⟨Nd,ndA true⟩)]) (ov := false) (L := fun x => Lof ([(3,{ ι := Int, inv := fun i => 0 ≤ i ∧ i ≤ x.length, regs := fun i => [(3, onds (x.take i.toNat)), (6, nds x), (7, .int .i64 x.length), (8, .int .i64 i)], als := [], meas := fun i => x.length - i.toNat })])) Tryz.func53 rfl (by decide) (Γof_ok (l := [(111, 0, s_clone)]) ⟨clone_ok, trivial⟩) fun (x : List Nd) (hx : kidsB x) => (copyNodes_vc  x).mpr (by
  obtain ⟨h1, h2⟩ := hx
  (repeat' first | with_reducible rfl | exact True.intro | refine inR_i64 ?_ ?_ | with_reducible refine And.intro ?_ ?_ | with_reducible refine bcase_dec (fun _ => ?_) (fun _ => ?_) | with_reducible refine bcase_bne (fun _ => ?_) (fun _ => ?_) | with_reducible refine bcase_beq (fun _ => ?_) (fun _ => ?_) | with_reducible refine bcase_not (fun _ => ?_) (fun _ => ?_) | refine bcase_intro (fun _ => ?_) (fun _ => ?_) | refine sl_eq ?_ | refine ex_flip () ?_ ?_ | (apply ex_flip6 <;> try dsimp only) | (apply ex_flip5 <;> try dsimp only) | (apply ex_flip4 <;> try dsimp only) | (apply ex_flip3 <;> try dsimp only) | (apply ex_flip2 <;> try dsimp only) | apply ex_flip | (refine Prod.forall.2 ?_; intro _; try dsimp only) | (intro _; try dsimp only))
  all_goals first
    | rfl
    | exact take_next (And.left (by assumption)) (by assumption)
    | exact take_end (by assumption)
    | (have hk := h2 _ (memE (show x[Int.toNat _]? = some _ by assumption)); omega)
    | ((try simp only [i64max, room, List.length_take, List.length_cons, List.length_nil]); omega)
    | skip)

def s_l05Copy  : Sig := { X := List Nd, args := fun x => [nds x], pre := fun x => kidsB x, Y := Unit, post := fun x y => True, res := fun x y => onds x, outs := fun x y => [.top], keep := false }
theorem l05Copy_vc (x : List Nd) : vcFun Go.Proofs.Tryz.prog (Γof []) (Eof [(24, ⟨Nd,ndA true⟩), (39, ⟨Int,intA⟩)]) false (Lof ([(3,{ ι := Int, inv := fun i => 0 ≤ i ∧ i ≤ x.length, regs := fun i => [(0, nds x), (3, onds (x.take i.toNat)), (4, .int .i64 i)], als := [], meas := fun i => x.length - i.toNat })])) Go.Proofs.Tryz.f49.ntmps Go.Proofs.Tryz.f49.results.toList (Go.Proofs.Tryz.f49.body.getD .skip) s_l05Copy x = ((∀ (y : Unit), True → (∀ (x : Nd), True ∧ True ∧ (∀ (x : Int), True ∧ True) ∧ True ∧ True) ∧ True ∧ True) ∧ (∃ (i : Int), ((0 : Int) ≤ i ∧ i ≤ (↑(List.length x) : Int)) ∧ (AV.sl false (0 : Nat) (4 : Nat) Nd (ndA false) x = AV.sl false (0 : Nat) (4 : Nat) Nd (ndA false) x ∧ AV.sl true (0 : Nat) (4 : Nat) Nd (ndA true) [] = AV.sl true (0 : Nat) (4 : Nat) Nd (ndA true) (List.take (Int.toNat i) x) ∧ (0 : Int) = i ∧ True) ∧ True) ∧ ∀ (i : Int), (0 : Int) ≤ i ∧ i ≤ (↑(List.length x) : Int) → bcase (decide (i < (↑(List.length x) : Int))) (((0 : Int) ≤ i ∧ i < (↑(List.length x) : Int)) ∧ ∀ (e : Nd), x[Int.toNat i]? = some e → ∃ (zs : List Int), AV.sl false (0 : Nat) (1 : Nat) Int intA e.kids = AV.sl false (0 : Nat) (1 : Nat) Int intA zs ∧ leafy intA ∧ room ((0 : Nat) + List.length zs) (8 : Nat) ∧ ∃ (x_1 : Nd), e.kind = x_1.kind ∧ e.text = x_1.text ∧ AV.sl true (0 : Nat) (1 : Nat) Int intA ([] ++ zs) = AV.sl true (0 : Nat) (1 : Nat) Int intA x_1.kids ∧ e.blank = x_1.blank ∧ ∃ (zs : List Nd), AV.sl true (0 : Nat) (4 : Nat) Nd (ndA true) [x_1] = AV.sl true (0 : Nat) (4 : Nat) Nd (ndA true) zs ∧ leafy (ndA true) ∧ room (List.length (List.take (Int.toNat i) x) + List.length zs) (56 : Nat) ∧ inR IntKind.i64 (i + (1 : Int)) ∧ ∃ (i' : Int), ((0 : Int) ≤ i' ∧ i' ≤ (↑(List.length x) : Int)) ∧ List.length x - Int.toNat i' < List.length x - Int.toNat i ∧ (AV.sl false (0 : Nat) (4 : Nat) Nd (ndA false) x = AV.sl false (0 : Nat) (4 : Nat) Nd (ndA false) x ∧ AV.sl true (0 : Nat) (4 : Nat) Nd (ndA true) (List.take (Int.toNat i) x ++ zs) = AV.sl true (0 : Nat) (4 : Nat) Nd (ndA true) (List.take (Int.toNat i') x) ∧ i + (1 : Int) = i' ∧ True) ∧ True) (∃ (y : Unit), True ∧ AV.sl true (0 : Nat) (4 : Nat) Nd (ndA true) (List.take (Int.toNat i) x) = AV.sl true (0 : Nat) (4 : Nat) Nd (ndA true) x ∧ True)) := by kernel_rfl
theorem l05Copy_ok  : Contract G Tryz.prog 49 s_l05Copy :=
  vcFun_ok (Γ := Γof []) (E := Eof [(24, ⟨Nd,ndA true⟩), (39, ⟨Int,intA⟩)]) (ov := false) (L := fun x => Lof ([(3,{ ι := Int, inv := fun i => 0 ≤ i ∧ i ≤ x.length, regs := fun i => [(0, nds x), (3, onds (x.take i.toNat)), (4, .int .i64 i)], als := [], meas := fun i => x.length - i.toNat })])) Tryz.func49 rfl (by decide) (Γof_ok (l := []) trivial) fun (x : List Nd) (hx : kidsB x) => (l05Copy_vc  x).mpr (by
  obtain ⟨h1, h2⟩ := hx
  (repeat' first | with_reducible rfl | exact True.intro | refine inR_i64 ?_ ?_ | with_reducible refine And.intro ?_ ?_ | with_reducible refine bcase_dec (fun _ => ?_) (fun _ => ?_) | with_reducible refine bcase_bne (fun _ => ?_) (fun _ => ?_) | with_reducible refine bcase_beq (fun _ => ?_) (fun _ => ?_) | with_reducible refine bcase_not (fun _ => ?_) (fun _ => ?_) | refine bcase_intro (fun _ => ?_) (fun _ => ?_) | refine sl_eq ?_ | refine ex_flip () ?_ ?_ | (apply ex_flip6 <;> try dsimp only) | (apply ex_flip5 <;> try dsimp only) | (apply ex_flip4 <;> try dsimp only) | (apply ex_flip3 <;> try dsimp only) | (apply ex_flip2 <;> try dsimp only) | apply ex_flip | (refine Prod.forall.2 ?_; intro _; try dsimp only) | (intro _; try dsimp only))
  all_goals first
    | rfl
    | exact take_next (And.left (by assumption)) (by assumption)
    | exact take_end (by assumption)
    | (have hk := h2 _ (memE (show x[Int.toNat _]? = some _ by assumption)); (try simp only [room, List.length_nil]); omega)
    | ((try simp only [i64max, room, List.length_take, List.length_cons, List.length_nil]); omega)
    | skip)

/- the maker -/
def clSp (ns : List Nd) : AV := .clo (.func 54) [.pf [nds ns]]
def s_mAddS  : Sig := { X := List Nd × List Nd × Int × List UInt8 × List Int × Bool, args := fun x => [.box 0 [nds x.1, onds x.2.1, clSp x.1], .agg (ndA true ⟨x.2.2.1, x.2.2.2.1, x.2.2.2.2.1, x.2.2.2.2.2⟩)], pre := fun x => x.2.1.length ≤ 2 ^ 21, Y := Unit, post := fun x y => True, res := fun x y => .int .i64 x.2.1.length, outs := fun x y => [.box 0 [nds x.1, onds (x.2.1 ++ [⟨x.2.2.1, x.2.2.2.1, x.2.2.2.2.1, x.2.2.2.2.2⟩]), clSp x.1], .top], keep := true }
theorem mAddS_vc (x : List Nd × List Nd × Int × List UInt8 × List Int × Bool) : vcFun Go.Proofs.Tryz.prog (Γof []) (Eof [(24, ⟨Nd,ndA true⟩)]) false (Lof ([(100001,{ ι := Unit, inv := fun _ => True, regs := fun _ => [(0, .box 0 [nds x.1, onds (x.2.1 ++ [⟨x.2.2.1, x.2.2.2.1, x.2.2.2.2.1, x.2.2.2.2.2⟩]), clSp x.1])], als := [], meas := fun _ => 0 })])) Go.Proofs.Tryz.f115.ntmps Go.Proofs.Tryz.f115.results.toList (Go.Proofs.Tryz.f115.body.getD .skip) s_mAddS x = (True ∧ true = true ∧ ((∃ (x_1 : Nd), x.snd.snd.fst = x_1.kind ∧ x.snd.snd.snd.fst = x_1.text ∧ AV.sl true (0 : Nat) (1 : Nat) Int intA x.snd.snd.snd.snd.fst = AV.sl true (0 : Nat) (1 : Nat) Int intA x_1.kids ∧ x.snd.snd.snd.snd.snd = x_1.blank ∧ ∃ (zs : List Nd), AV.sl true (0 : Nat) (4 : Nat) Nd (ndA true) [x_1] = AV.sl true (0 : Nat) (4 : Nat) Nd (ndA true) zs ∧ leafy (ndA true) ∧ room (List.length x.snd.fst + List.length zs) (56 : Nat) ∧ true = true ∧ ∃ (i : Unit), True ∧ (AV.sl false (0 : Nat) (4 : Nat) Nd (ndA false) x.fst = AV.sl false (0 : Nat) (4 : Nat) Nd (ndA false) x.fst ∧ AV.sl true (0 : Nat) (4 : Nat) Nd (ndA true) (x.snd.fst ++ zs) = AV.sl true (0 : Nat) (4 : Nat) Nd (ndA true) (x.snd.fst ++ [{ kind := x.snd.snd.fst, text := x.snd.snd.snd.fst, kids := x.snd.snd.snd.snd.fst, blank := x.snd.snd.snd.snd.snd }]) ∧ AV.pf [AV.sl false (0 : Nat) (4 : Nat) Nd (ndA false) x.fst] = AV.pf [AV.sl false (0 : Nat) (4 : Nat) Nd (ndA false) x.fst] ∧ True) ∧ True) ∧ (∃ (x_1 : Nd), x.snd.snd.fst = x_1.kind ∧ x.snd.snd.snd.fst = x_1.text ∧ AV.sl true (0 : Nat) (1 : Nat) Int intA x.snd.snd.snd.snd.fst = AV.sl true (0 : Nat) (1 : Nat) Int intA x_1.kids ∧ x.snd.snd.snd.snd.snd = x_1.blank ∧ ∃ (zs : List Nd), AV.sl true (0 : Nat) (4 : Nat) Nd (ndA true) [x_1] = AV.sl true (0 : Nat) (4 : Nat) Nd (ndA true) zs ∧ leafy (ndA true) ∧ room (List.length x.snd.fst + List.length zs) (56 : Nat) ∧ true = true ∧ ∃ (i : Unit), True ∧ (AV.sl false (0 : Nat) (4 : Nat) Nd (ndA false) x.fst = AV.sl false (0 : Nat) (4 : Nat) Nd (ndA false) x.fst ∧ AV.sl true (0 : Nat) (4 : Nat) Nd (ndA true) (x.snd.fst ++ zs) = AV.sl true (0 : Nat) (4 : Nat) Nd (ndA true) (x.snd.fst ++ [{ kind := x.snd.snd.fst, text := x.snd.snd.snd.fst, kids := x.snd.snd.snd.snd.fst, blank := x.snd.snd.snd.snd.snd }]) ∧ AV.pf [AV.sl false (0 : Nat) (4 : Nat) Nd (ndA false) x.fst] = AV.pf [AV.sl false (0 : Nat) (4 : Nat) Nd (ndA false) x.fst] ∧ True) ∧ True) ∧ ∃ (x_1 : Nd), x.snd.snd.fst = x_1.kind ∧ x.snd.snd.snd.fst = x_1.text ∧ AV.sl true (0 : Nat) (1 : Nat) Int intA x.snd.snd.snd.snd.fst = AV.sl true (0 : Nat) (1 : Nat) Int intA x_1.kids ∧ x.snd.snd.snd.snd.snd = x_1.blank ∧ ∃ (zs : List Nd), AV.sl true (0 : Nat) (4 : Nat) Nd (ndA true) [x_1] = AV.sl true (0 : Nat) (4 : Nat) Nd (ndA true) zs ∧ leafy (ndA true) ∧ room (List.length x.snd.fst + List.length zs) (56 : Nat) ∧ true = true ∧ ∃ (i : Unit), True ∧ (AV.sl false (0 : Nat) (4 : Nat) Nd (ndA false) x.fst = AV.sl false (0 : Nat) (4 : Nat) Nd (ndA false) x.fst ∧ AV.sl true (0 : Nat) (4 : Nat) Nd (ndA true) (x.snd.fst ++ zs) = AV.sl true (0 : Nat) (4 : Nat) Nd (ndA true) (x.snd.fst ++ [{ kind := x.snd.snd.fst, text := x.snd.snd.snd.fst, kids := x.snd.snd.snd.snd.fst, blank := x.snd.snd.snd.snd.snd }]) ∧ AV.pf [AV.sl false (0 : Nat) (4 : Nat) Nd (ndA false) x.fst] = AV.pf [AV.sl false (0 : Nat) (4 : Nat) Nd (ndA false) x.fst] ∧ True) ∧ True) ∧ ∀ (i : Unit), True → inR IntKind.i64 ((↑(List.length (x.snd.fst ++ [{ kind := x.snd.snd.fst, text := x.snd.snd.snd.fst, kids := x.snd.snd.snd.snd.fst, blank := x.snd.snd.snd.snd.snd }])) : Int) - (1 : Int)) ∧ ∃ (y : Unit), True ∧ (↑(List.length (x.snd.fst ++ [{ kind := x.snd.snd.fst, text := x.snd.snd.snd.fst, kids := x.snd.snd.snd.snd.fst, blank := x.snd.snd.snd.snd.snd }])) : Int) - (1 : Int) = (↑(List.length x.snd.fst) : Int) ∧ AV.sl false (0 : Nat) (4 : Nat) Nd (ndA false) x.fst = AV.sl false (0 : Nat) (4 : Nat) Nd (ndA false) x.fst ∧ AV.sl true (0 : Nat) (4 : Nat) Nd (ndA true) (x.snd.fst ++ [{ kind := x.snd.snd.fst, text := x.snd.snd.snd.fst, kids := x.snd.snd.snd.snd.fst, blank := x.snd.snd.snd.snd.snd }]) = AV.sl true (0 : Nat) (4 : Nat) Nd (ndA true) (x.snd.fst ++ [{ kind := x.snd.snd.fst, text := x.snd.snd.snd.fst, kids := x.snd.snd.snd.snd.fst, blank := x.snd.snd.snd.snd.snd }]) ∧ AV.pf [AV.sl false (0 : Nat) (4 : Nat) Nd (ndA false) x.fst] = AV.pf [AV.sl false (0 : Nat) (4 : Nat) Nd (ndA false) x.fst] ∧ True) := by kernel_rfl
theorem mAddS_ok  : Contract G Tryz.prog 115 s_mAddS :=
  vcFun_ok (Γ := Γof []) (E := Eof [(24, ⟨Nd,ndA true⟩)]) (ov := false) (L := fun x => Lof ([(100001,{ ι := Unit, inv := fun _ => True, regs := fun _ => [(0, .box 0 [nds x.1, onds (x.2.1 ++ [⟨x.2.2.1, x.2.2.2.1, x.2.2.2.2.1, x.2.2.2.2.2⟩]), clSp x.1])], als := [], meas := fun _ => 0 })])) Tryz.func115 rfl (by decide) (Γof_ok (l := []) trivial) fun (x : List Nd × List Nd × Int × List UInt8 × List Int × Bool) (hx : x.2.1.length ≤ 2 ^ 21) => (mAddS_vc  x).mpr (by
  have hx : x.2.1.length ≤ 2 ^ 21 := hx
  (repeat' first | with_reducible rfl | exact True.intro | refine inR_i64 ?_ ?_ | with_reducible refine And.intro ?_ ?_ | with_reducible refine bcase_dec (fun _ => ?_) (fun _ => ?_) | with_reducible refine bcase_bne (fun _ => ?_) (fun _ => ?_) | with_reducible refine bcase_beq (fun _ => ?_) (fun _ => ?_) | with_reducible refine bcase_not (fun _ => ?_) (fun _ => ?_) | refine bcase_intro (fun _ => ?_) (fun _ => ?_) | refine sl_eq ?_ | refine ex_flip () ?_ ?_ | (apply ex_flip6 <;> try dsimp only) | (apply ex_flip5 <;> try dsimp only) | (apply ex_flip4 <;> try dsimp only) | (apply ex_flip3 <;> try dsimp only) | (apply ex_flip2 <;> try dsimp only) | apply ex_flip | (refine Prod.forall.2 ?_; intro _; try dsimp only) | (intro _; try dsimp only))
  all_goals first
    | rfl
    | ((try simp only [i64max, room, List.length_append, List.length_cons, List.length_nil]); omega)
    | skip)

def putP (R : List Nd → Rw) (n : Nat) (x : List Nd × Int × List Nd) : Prop := okNds x.1 ∧ okUp x.1 x.2.1 ∧ x.2.1 < n ∧ x.2.2.length + 2 * (vis x.1 n x.2.1).length ≤ 1048576
def s_mN (n : Nat) : Sig := { X := List Nd × Int × List Nd, args := fun x => [.box 0 [nds x.1, onds x.2.2, clSp x.1], .int .i64 x.2.1], pre := fun x => putP rSp n x, Y := Unit, post := fun x y => True, res := fun x y => .int .i64 ((putN x.1 (rSp x.1) n x.2.1 x.2.2).length - 1), outs := fun x y => [.box 0 [nds x.1, onds (putN x.1 (rSp x.1) n x.2.1 x.2.2), clSp x.1], .top], keep := true }
theorem pkS_no {ns : List Nd} {n : Nat} {k : Int} {out0 : List Nd} {i c : Int} {out : List Nd} {ks : List Int} (h : pk ns (rSp ns) n k out0 i out ks) (hu : okUp ns k) (hk : k < n + 1)
    (hc : (ndAt ns k).kids[i.toNat]? = some c) (hp : (decide (kindAt ns c = 11) && wantsB (ndAt ns k) i (ndAt ns (bare ns c))) = false) :
    pk ns (rSp ns) n k out0 (i + 1) (putN ns (rSp ns) n (bare ns c) out) (ks ++ [((putN ns (rSp ns) n (bare ns c) out).length : Int) - 1]) := by
  have := pk_next rSp_ok h hu hk hc
  have e : put1 (rSp ns) (putN ns (rSp ns) n) k i c out = putN ns (rSp ns) n (bare ns c) out := by
    rw [put1, if_neg (by simpa [rSp] using hp)]; rfl
  rwa [e] at this
theorem pkS_yes {ns : List Nd} {n : Nat} {k : Int} {out0 : List Nd} {i c : Int} {out : List Nd} {ks : List Int} (h : pk ns (rSp ns) n k out0 i out ks) (hu : okUp ns k) (hk : k < n + 1)
    (hc : (ndAt ns k).kids[i.toNat]? = some c) (hp : (decide (kindAt ns c = 11) && wantsB (ndAt ns k) i (ndAt ns (bare ns c))) = true) :
    pk ns (rSp ns) n k out0 (i + 1) (putN ns (rSp ns) n (bare ns c) out ++ [⟨11, [], [((putN ns (rSp ns) n (bare ns c) out).length : Int) - 1], false⟩]) (ks ++ [((putN ns (rSp ns) n (bare ns c) out).length : Int)]) := by
  have := pk_next rSp_ok h hu hk hc
  have e : put1 (rSp ns) (putN ns (rSp ns) n) k i c out = putN ns (rSp ns) n (bare ns c) out ++ [⟨11, [], [((putN ns (rSp ns) n (bare ns c) out).length : Int) - 1], false⟩] := by
    rw [put1, if_pos (by simpa [rSp] using hp)]; rfl
  rw [e] at this
  simpa using this
theorem pkS_pre {ns : List Nd} {n : Nat} {k : Int} {out0 : List Nd} {i c : Int} {out : List Nd} {ks : List Int} (h : pk ns (rSp ns) n k out0 i out ks) (hx : putP rSp (n + 1) (ns, k, out0)) (hc : (ndAt ns k).kids[i.toNat]? = some c) :
    putP rSp n (ns, bare ns c, out) := by
  obtain ⟨h1, h2, h3, h4⟩ := hx
  obtain ⟨g1, g2, g3⟩ := pk_pre rSp_ok h h2 (by simpa using h3) hc h4
  exact ⟨h1, g1, g2, g3⟩
theorem pkS_bd {ns : List Nd} {n : Nat} {k : Int} {out0 : List Nd} {i c : Int} {out : List Nd} {ks : List Int} (h : pk ns (rSp ns) n k out0 i out ks) (hx : putP rSp (n + 1) (ns, k, out0)) (hc : (ndAt ns k).kids[i.toNat]? = some c) :
    (putN ns (rSp ns) n (bare ns c) out).length ≤ 1048576 ∧ 1 ≤ (putN ns (rSp ns) n (bare ns c) out).length := by
  obtain ⟨h1, h2, h3, h4⟩ := pkS_pre h hx hc
  have := putN_bd (@rSp_ok ns) (n := n) (k := bare ns c) (out := out) h2 h3
  simp only at h4
  omega
theorem pkZ_no {ns : List Nd} {n : Nat} {k : Int} {out0 : List Nd} {i c : Int} {out : List Nd} {ks : List Int} {z : Nd} (hz : ns[k.toNat]? = some z) (hx : putP rSp (n + 1) (ns, k, out0)) (h : pk ns (rSp ns) n k out0 i out ks)
    (hc : z.kids[i.toNat]? = some c) (hp : (decide (kindAt ns c = 11) && wantsB z i (ndAt ns (bare ns c))) = false) :
    pk ns (rSp ns) n k out0 (i + 1) (putN ns (rSp ns) n (bare ns c) out) (ks ++ [((putN ns (rSp ns) n (bare ns c) out).length : Int) - 1]) := by
  rw [← ndAt_of hz] at hc hp
  exact pkS_no h hx.2.1 (by simpa using hx.2.2.1) hc hp
theorem pkZ_yes {ns : List Nd} {n : Nat} {k : Int} {out0 : List Nd} {i c : Int} {out : List Nd} {ks : List Int} {z : Nd} (hz : ns[k.toNat]? = some z) (hx : putP rSp (n + 1) (ns, k, out0)) (h : pk ns (rSp ns) n k out0 i out ks)
    (hc : z.kids[i.toNat]? = some c) (hp : (decide (kindAt ns c = 11) && wantsB z i (ndAt ns (bare ns c))) = true) :
    pk ns (rSp ns) n k out0 (i + 1) (putN ns (rSp ns) n (bare ns c) out ++ [⟨11, [], [((putN ns (rSp ns) n (bare ns c) out).length : Int) - 1], false⟩]) (ks ++ [((putN ns (rSp ns) n (bare ns c) out).length : Int)]) := by
  rw [← ndAt_of hz] at hc hp
  exact pkS_yes h hx.2.1 (by simpa using hx.2.2.1) hc hp
theorem pkZ_pre {ns : List Nd} {n : Nat} {k : Int} {out0 : List Nd} {i c : Int} {out : List Nd} {ks : List Int} {z : Nd} (hz : ns[k.toNat]? = some z) (hx : putP rSp (n + 1) (ns, k, out0)) (h : pk ns (rSp ns) n k out0 i out ks)
    (hc : z.kids[i.toNat]? = some c) : putP rSp n (ns, bare ns c, out) := by
  rw [← ndAt_of hz] at hc; exact pkS_pre h hx hc
theorem pkZ_bd {ns : List Nd} {n : Nat} {k : Int} {out0 : List Nd} {i c : Int} {out : List Nd} {ks : List Int} {z : Nd} (hz : ns[k.toNat]? = some z) (hx : putP rSp (n + 1) (ns, k, out0)) (h : pk ns (rSp ns) n k out0 i out ks)
    (hc : z.kids[i.toNat]? = some c) : (putN ns (rSp ns) n (bare ns c) out).length ≤ 1048576 ∧ 1 ≤ (putN ns (rSp ns) n (bare ns c) out).length := by
  rw [← ndAt_of hz] at hc; exact pkS_bd h hx hc
theorem pkZ_len {R : List Nd → Rw} {ns : List Nd} {n : Nat} {k : Int} {out0 : List Nd} {i : Int} {out : List Nd} {ks : List Int} {z : Nd} (hz : ns[k.toNat]? = some z) (hx : putP R (n + 1) (ns, k, out0)) (h : pk ns (R ns) n k out0 i out ks) :
    (0 ≤ i ∧ i ≤ z.kids.length) ∧ z.kids.length ≤ 12 ∧ ks.length = i ∧ out.length ≤ 1048576 := by
  have e := ndAt_of hz
  obtain ⟨h1, h2, h3⟩ := pk_bd h hx.2.2.2
  rw [e] at h1
  have h4 := (nodeOk_parts (okUp_at hx.2.1)).2.1
  simp only at h4; rw [e] at h4
  exact ⟨h1, h4, h3, by omega⟩
theorem pkZ_done {R : List Nd → Rw} {ns : List Nd} {n : Nat} {k : Int} {out0 : List Nd} {i : Int} {out : List Nd} {ks : List Int} {z : Nd} (hz : ns[k.toNat]? = some z) (h : pk ns (R ns) n k out0 i out ks) (hl : ¬ i < z.kids.length) (hs : (R ns).stop k = none) :
    out ++ [⟨z.kind, z.text, ks, z.blank⟩] = putN ns (R ns) (n + 1) k out0 := by
  have e := ndAt_of hz
  rw [← e] at hl ⊢
  exact pk_done h hl hs
theorem pkZ_fin {R : List Nd → Rw} {ns : List Nd} {n : Nat} {k : Int} {out0 : List Nd} {i : Int} {out : List Nd} {ks : List Int} {z : Nd} (hz : ns[k.toNat]? = some z) (h : pk ns (R ns) n k out0 i out ks) (hl : ¬ i < z.kids.length) (hs : (R ns).stop k = none) :
    (out.length : Int) = (putN ns (R ns) (n + 1) k out0).length - 1 := by
  rw [← pkZ_done hz h hl hs]; simp
theorem pkZ_kid {R : List Nd → Rw} {ns : List Nd} {n : Nat} {k c : Int} {out0 : List Nd} {j : Nat} {z : Nd} (hz : ns[k.toNat]? = some z) (hx : putP R (n + 1) (ns, k, out0)) (hc : z.kids[j]? = some c) : okUp ns c := by
  rw [← ndAt_of hz] at hc; exact (okUp_kid hx.2.1 (memE hc)).1
def s_mNZ  : Sig := { X := List Nd × Int × List Nd, args := fun x => [.box 0 [nds x.1, onds x.2.2, clSp x.1], .int .i64 x.2.1], pre := fun x => putP rSp 0 x, Y := Unit, post := fun x y => True, res := fun x y => .int .i64 ((putN x.1 (rSp x.1) 0 x.2.1 x.2.2).length - 1), outs := fun x y => [.box 0 [nds x.1, onds (putN x.1 (rSp x.1) 0 x.2.1 x.2.2), clSp x.1], .top], keep := true }
theorem mNZ_vc (x : List Nd × Int × List Nd) : vcFun Go.Proofs.Tryz.prog (Γof []) (Eof []) false (Lof ([])) Go.Proofs.Tryz.f57.ntmps Go.Proofs.Tryz.f57.results.toList (Go.Proofs.Tryz.f57.body.getD .skip) s_mNZ x = (True ∧ ((0 : Int) ≤ x.snd.fst ∧ x.snd.fst < (↑(List.length x.fst) : Int)) ∧ ∀ (e : Nd), x.fst[Int.toNat x.snd.fst]? = some e → False) := by kernel_rfl
theorem mNZ_ok  : Contract G Tryz.prog 57 s_mNZ :=
  vcFun_ok (Γ := Γof []) (E := Eof []) (ov := false) (L := fun x => Lof ([])) Tryz.func57 rfl (by decide) (Γof_ok (l := []) trivial) fun (x : List Nd × Int × List Nd) (hx : putP rSp 0 x) => (mNZ_vc  x).mpr (by
  have h1 := hx.2.2.1; have h2 := isNd_iff.1 hx.2.1.1
  omega)

def lMN (n : Nat) (x : List Nd × Int × List Nd) : LS := {
  ι := Int × List Nd × List Int, inv := fun i => pk x.1 (rSp x.1) n x.2.1 x.2.2 i.1 i.2.1 i.2.2,
  regs := fun i => [(0, .box 0 [nds x.1, onds i.2.1, clSp x.1]), (5, .box 0 (ndA false (ndAt x.1 x.2.1))), (6, oints i.2.2), (20, ints (ndAt x.1 x.2.1).kids), (21, .int .i64 (ndAt x.1 x.2.1).kids.length), (22, .int .i64 i.1)], als := [], meas := fun i => (ndAt x.1 x.2.1).kids.length - i.1.toNat }
def s_mNS (n : Nat) : Sig := { X := List Nd × Int × List Nd, args := fun x => [.box 0 [nds x.1, onds x.2.2, clSp x.1], .int .i64 x.2.1], pre := fun x => putP rSp (n + 1) x, Y := Unit, post := fun x y => True, res := fun x y => .int .i64 ((putN x.1 (rSp x.1) (n + 1) x.2.1 x.2.2).length - 1), outs := fun x y => [.box 0 [nds x.1, onds (putN x.1 (rSp x.1) (n + 1) x.2.1 x.2.2), clSp x.1], .top], keep := true }
theorem mNS_vc (n : Nat) (x : List Nd × Int × List Nd) : vcFun Go.Proofs.Tryz.prog (Γof [(57, 0, (s_mN n)), (115, 0, s_mAddS), (54, 0, s_sp1)]) (Eof [(39, ⟨Int,intA⟩)]) false (Lof ([(4,lMN n x)])) Go.Proofs.Tryz.f57.ntmps Go.Proofs.Tryz.f57.results.toList (Go.Proofs.Tryz.f57.body.getD .skip) (s_mNS n) x = (True ∧ ((0 : Int) ≤ x.snd.fst ∧ x.snd.fst < (↑(List.length x.fst) : Int)) ∧ ∀ (e : Nd), x.fst[Int.toNat x.snd.fst]? = some e → (∃ (i : Int × List Nd × List Int), pk x.fst (rSp x.fst) n x.snd.fst x.snd.snd i.fst i.snd.fst i.snd.snd ∧ (AV.sl false (0 : Nat) (4 : Nat) Nd (ndA false) x.fst = AV.sl false (0 : Nat) (4 : Nat) Nd (ndA false) x.fst ∧ AV.sl true (0 : Nat) (4 : Nat) Nd (ndA true) x.snd.snd = AV.sl true (0 : Nat) (4 : Nat) Nd (ndA true) i.snd.fst ∧ AV.pf [AV.sl false (0 : Nat) (4 : Nat) Nd (ndA false) x.fst] = AV.pf [AV.sl false (0 : Nat) (4 : Nat) Nd (ndA false) x.fst] ∧ e.kind = (ndAt x.fst x.snd.fst).kind ∧ e.text = (ndAt x.fst x.snd.fst).text ∧ AV.sl false (0 : Nat) (1 : Nat) Int intA e.kids = AV.sl false (0 : Nat) (1 : Nat) Int intA (ndAt x.fst x.snd.fst).kids ∧ e.blank = (ndAt x.fst x.snd.fst).blank ∧ i.snd.snd = [] ∧ AV.sl false (0 : Nat) (1 : Nat) Int intA e.kids = AV.sl false (0 : Nat) (1 : Nat) Int intA (ndAt x.fst x.snd.fst).kids ∧ (↑(List.length e.kids) : Int) = (↑(List.length (ndAt x.fst x.snd.fst).kids) : Int) ∧ (0 : Int) = i.fst ∧ True) ∧ True) ∧ ∀ (i : Int × List Nd × List Int), pk x.fst (rSp x.fst) n x.snd.fst x.snd.snd i.fst i.snd.fst i.snd.snd → bcase (decide (i.fst < (↑(List.length (ndAt x.fst x.snd.fst).kids) : Int))) (((0 : Int) ≤ i.fst ∧ i.fst < (↑(List.length (ndAt x.fst x.snd.fst).kids) : Int)) ∧ ∀ (e : Int), (ndAt x.fst x.snd.fst).kids[Int.toNat i.fst]? = some e → true = true ∧ true = true ∧ ∃ (x_1 : List Nd × Nd × Int × Int), (List.length x_1.fst < (4611686018427387904 : Nat) ∧ okUp x_1.fst x_1.snd.snd.snd ∧ List.length x_1.snd.fst.kids < (4611686018427387904 : Nat)) ∧ (ndAt x.fst x.snd.fst).kind = x_1.snd.fst.kind ∧ (ndAt x.fst x.snd.fst).text = x_1.snd.fst.text ∧ AV.sl false (0 : Nat) (1 : Nat) Int intA (ndAt x.fst x.snd.fst).kids = AV.sl false (0 : Nat) (1 : Nat) Int intA x_1.snd.fst.kids ∧ (ndAt x.fst x.snd.fst).blank = x_1.snd.fst.blank ∧ i.fst = x_1.snd.snd.fst ∧ e = x_1.snd.snd.snd ∧ AV.pf [AV.sl false (0 : Nat) (4 : Nat) Nd (ndA false) x.fst] = AV.pf [AV.sl false (0 : Nat) (4 : Nat) Nd (ndA false) x_1.fst] ∧ ∃ (y0 : Unit), (∀ (y : Unit), True → AV.tup [AV.int IntKind.i64 (bare x_1.fst x_1.snd.snd.snd), AV.bool (decide (kindAt x_1.fst x_1.snd.snd.snd = (11 : Int)) && wantsB x_1.snd.fst x_1.snd.snd.fst (ndAt x_1.fst (bare x_1.fst x_1.snd.snd.snd)))] = AV.tup [AV.int IntKind.i64 (bare x_1.fst x_1.snd.snd.snd), AV.bool (decide (kindAt x_1.fst x_1.snd.snd.snd = (11 : Int)) && wantsB x_1.snd.fst x_1.snd.snd.fst (ndAt x_1.fst (bare x_1.fst x_1.snd.snd.snd)))]) ∧ true = true ∧ ∃ (x_2 : List Nd × Int × List Nd), putP rSp n x_2 ∧ AV.sl false (0 : Nat) (4 : Nat) Nd (ndA false) x.fst = AV.sl false (0 : Nat) (4 : Nat) Nd (ndA false) x_2.fst ∧ AV.sl true (0 : Nat) (4 : Nat) Nd (ndA true) i.snd.fst = AV.sl true (0 : Nat) (4 : Nat) Nd (ndA true) x_2.snd.snd ∧ AV.pf [AV.sl false (0 : Nat) (4 : Nat) Nd (ndA false) x.fst] = AV.pf [AV.sl false (0 : Nat) (4 : Nat) Nd (ndA false) x_2.fst] ∧ bare x_1.fst x_1.snd.snd.snd = x_2.snd.fst ∧ ∀ (y : Unit), True → bcase (decide (kindAt x_1.fst x_1.snd.snd.snd = (11 : Int)) && wantsB x_1.snd.fst x_1.snd.snd.fst (ndAt x_1.fst (bare x_1.fst x_1.snd.snd.snd))) (∃ (x_3 : Int), (↑(List.length (putN x_2.fst (rSp x_2.fst) n x_2.snd.fst x_2.snd.snd)) : Int) - (1 : Int) = x_3 ∧ ∃ (x_4 : List Nd × List Nd × Int × List UInt8 × List Int × Bool), List.length x_4.snd.fst ≤ (2097152 : Nat) ∧ AV.sl false (0 : Nat) (4 : Nat) Nd (ndA false) x_2.fst = AV.sl false (0 : Nat) (4 : Nat) Nd (ndA false) x_4.fst ∧ AV.sl true (0 : Nat) (4 : Nat) Nd (ndA true) (putN x_2.fst (rSp x_2.fst) n x_2.snd.fst x_2.snd.snd) = AV.sl true (0 : Nat) (4 : Nat) Nd (ndA true) x_4.snd.fst ∧ AV.pf [AV.sl false (0 : Nat) (4 : Nat) Nd (ndA false) x_2.fst] = AV.pf [AV.sl false (0 : Nat) (4 : Nat) Nd (ndA false) x_4.fst] ∧ (11 : Int) = x_4.snd.snd.fst ∧ #[].toList = x_4.snd.snd.snd.fst ∧ AV.sl true (0 : Nat) (1 : Nat) Int intA [x_3] = AV.sl true (0 : Nat) (1 : Nat) Int intA x_4.snd.snd.snd.snd.fst ∧ false = x_4.snd.snd.snd.snd.snd ∧ ∀ (y : Unit), True → ∃ (x_5 : Int), (↑(List.length x_4.snd.fst) : Int) = x_5 ∧ ∃ (zs : List Int), AV.sl true (0 : Nat) (1 : Nat) Int intA [x_5] = AV.sl true (0 : Nat) (1 : Nat) Int intA zs ∧ leafy intA ∧ room (List.length i.snd.snd + List.length zs) (8 : Nat) ∧ inR IntKind.i64 (i.fst + (1 : Int)) ∧ ∃ (i' : Int × List Nd × List Int), pk x.fst (rSp x.fst) n x.snd.fst x.snd.snd i'.fst i'.snd.fst i'.snd.snd ∧ List.length (ndAt x.fst x.snd.fst).kids - Int.toNat i'.fst < List.length (ndAt x.fst x.snd.fst).kids - Int.toNat i.fst ∧ (AV.sl false (0 : Nat) (4 : Nat) Nd (ndA false) x_4.fst = AV.sl false (0 : Nat) (4 : Nat) Nd (ndA false) x.fst ∧ AV.sl true (0 : Nat) (4 : Nat) Nd (ndA true) (x_4.snd.fst ++ [{ kind := x_4.snd.snd.fst, text := x_4.snd.snd.snd.fst, kids := x_4.snd.snd.snd.snd.fst, blank := x_4.snd.snd.snd.snd.snd }]) = AV.sl true (0 : Nat) (4 : Nat) Nd (ndA true) i'.snd.fst ∧ AV.pf [AV.sl false (0 : Nat) (4 : Nat) Nd (ndA false) x_4.fst] = AV.pf [AV.sl false (0 : Nat) (4 : Nat) Nd (ndA false) x.fst] ∧ (ndAt x.fst x.snd.fst).kind = (ndAt x.fst x.snd.fst).kind ∧ (ndAt x.fst x.snd.fst).text = (ndAt x.fst x.snd.fst).text ∧ AV.sl false (0 : Nat) (1 : Nat) Int intA (ndAt x.fst x.snd.fst).kids = AV.sl false (0 : Nat) (1 : Nat) Int intA (ndAt x.fst x.snd.fst).kids ∧ (ndAt x.fst x.snd.fst).blank = (ndAt x.fst x.snd.fst).blank ∧ AV.sl true (0 : Nat) (1 : Nat) Int intA (i.snd.snd ++ zs) = AV.sl true (0 : Nat) (1 : Nat) Int intA i'.snd.snd ∧ AV.sl false (0 : Nat) (1 : Nat) Int intA (ndAt x.fst x.snd.fst).kids = AV.sl false (0 : Nat) (1 : Nat) Int intA (ndAt x.fst x.snd.fst).kids ∧ (↑(List.length (ndAt x.fst x.snd.fst).kids) : Int) = (↑(List.length (ndAt x.fst x.snd.fst).kids) : Int) ∧ i.fst + (1 : Int) = i'.fst ∧ True) ∧ True) (∃ (x_3 : Int), (↑(List.length (putN x_2.fst (rSp x_2.fst) n x_2.snd.fst x_2.snd.snd)) : Int) - (1 : Int) = x_3 ∧ ∃ (zs : List Int), AV.sl true (0 : Nat) (1 : Nat) Int intA [x_3] = AV.sl true (0 : Nat) (1 : Nat) Int intA zs ∧ leafy intA ∧ room (List.length i.snd.snd + List.length zs) (8 : Nat) ∧ inR IntKind.i64 (i.fst + (1 : Int)) ∧ ∃ (i' : Int × List Nd × List Int), pk x.fst (rSp x.fst) n x.snd.fst x.snd.snd i'.fst i'.snd.fst i'.snd.snd ∧ List.length (ndAt x.fst x.snd.fst).kids - Int.toNat i'.fst < List.length (ndAt x.fst x.snd.fst).kids - Int.toNat i.fst ∧ (AV.sl false (0 : Nat) (4 : Nat) Nd (ndA false) x_2.fst = AV.sl false (0 : Nat) (4 : Nat) Nd (ndA false) x.fst ∧ AV.sl true (0 : Nat) (4 : Nat) Nd (ndA true) (putN x_2.fst (rSp x_2.fst) n x_2.snd.fst x_2.snd.snd) = AV.sl true (0 : Nat) (4 : Nat) Nd (ndA true) i'.snd.fst ∧ AV.pf [AV.sl false (0 : Nat) (4 : Nat) Nd (ndA false) x_2.fst] = AV.pf [AV.sl false (0 : Nat) (4 : Nat) Nd (ndA false) x.fst] ∧ (ndAt x.fst x.snd.fst).kind = (ndAt x.fst x.snd.fst).kind ∧ (ndAt x.fst x.snd.fst).text = (ndAt x.fst x.snd.fst).text ∧ AV.sl false (0 : Nat) (1 : Nat) Int intA (ndAt x.fst x.snd.fst).kids = AV.sl false (0 : Nat) (1 : Nat) Int intA (ndAt x.fst x.snd.fst).kids ∧ (ndAt x.fst x.snd.fst).blank = (ndAt x.fst x.snd.fst).blank ∧ AV.sl true (0 : Nat) (1 : Nat) Int intA (i.snd.snd ++ zs) = AV.sl true (0 : Nat) (1 : Nat) Int intA i'.snd.snd ∧ AV.sl false (0 : Nat) (1 : Nat) Int intA (ndAt x.fst x.snd.fst).kids = AV.sl false (0 : Nat) (1 : Nat) Int intA (ndAt x.fst x.snd.fst).kids ∧ (↑(List.length (ndAt x.fst x.snd.fst).kids) : Int) = (↑(List.length (ndAt x.fst x.snd.fst).kids) : Int) ∧ i.fst + (1 : Int) = i'.fst ∧ True) ∧ True)) (∃ (x_1 : List Nd × List Nd × Int × List UInt8 × List Int × Bool), List.length x_1.snd.fst ≤ (2097152 : Nat) ∧ AV.sl false (0 : Nat) (4 : Nat) Nd (ndA false) x.fst = AV.sl false (0 : Nat) (4 : Nat) Nd (ndA false) x_1.fst ∧ AV.sl true (0 : Nat) (4 : Nat) Nd (ndA true) i.snd.fst = AV.sl true (0 : Nat) (4 : Nat) Nd (ndA true) x_1.snd.fst ∧ AV.pf [AV.sl false (0 : Nat) (4 : Nat) Nd (ndA false) x.fst] = AV.pf [AV.sl false (0 : Nat) (4 : Nat) Nd (ndA false) x_1.fst] ∧ (ndAt x.fst x.snd.fst).kind = x_1.snd.snd.fst ∧ (ndAt x.fst x.snd.fst).text = x_1.snd.snd.snd.fst ∧ AV.sl true (0 : Nat) (1 : Nat) Int intA i.snd.snd = AV.sl true (0 : Nat) (1 : Nat) Int intA x_1.snd.snd.snd.snd.fst ∧ (ndAt x.fst x.snd.fst).blank = x_1.snd.snd.snd.snd.snd ∧ ∀ (y : Unit), True → ∃ (y : Unit), True ∧ (↑(List.length x_1.snd.fst) : Int) = (↑(List.length (putN x.fst (rSp x.fst) (n + (1 : Nat)) x.snd.fst x.snd.snd)) : Int) - (1 : Int) ∧ AV.sl false (0 : Nat) (4 : Nat) Nd (ndA false) x_1.fst = AV.sl false (0 : Nat) (4 : Nat) Nd (ndA false) x.fst ∧ AV.sl true (0 : Nat) (4 : Nat) Nd (ndA true) (x_1.snd.fst ++ [{ kind := x_1.snd.snd.fst, text := x_1.snd.snd.snd.fst, kids := x_1.snd.snd.snd.snd.fst, blank := x_1.snd.snd.snd.snd.snd }]) = AV.sl true (0 : Nat) (4 : Nat) Nd (ndA true) (putN x.fst (rSp x.fst) (n + (1 : Nat)) x.snd.fst x.snd.snd) ∧ AV.pf [AV.sl false (0 : Nat) (4 : Nat) Nd (ndA false) x_1.fst] = AV.pf [AV.sl false (0 : Nat) (4 : Nat) Nd (ndA false) x.fst] ∧ True)) := by kernel_rfl
set_option maxHeartbeats 4000000 in
theorem mNS_ok (n : Nat) (hc : Contract G Go.Proofs.Tryz.prog 57 (s_mN n)) : Contract G Tryz.prog 57 (s_mNS n) :=
  vcFun_ok (Γ := Γof [(57, 0, (s_mN n)), (115, 0, s_mAddS), (54, 0, s_sp1)]) (E := Eof [(39, ⟨Int,intA⟩)]) (ov := false) (L := fun x => Lof ([(4,lMN n x)])) Tryz.func57 rfl (by decide) (Γof_ok (l := [(57, 0, (s_mN n)), (115, 0, s_mAddS), (54, 0, s_sp1)]) ⟨hc, mAddS_ok, sp1_ok, trivial⟩) fun (x : List Nd × Int × List Nd) (hx : putP rSp (n + 1) x) => (mNS_vc n x).mpr (by
  have h1 := hx.1; have hl := h1.1; have hu := hx.2.1; have hn := isNd_iff.1 hu.1
  obtain ⟨z, hz⟩ : ∃ z, x.1[x.2.1.toNat]? = some z := ⟨x.1[x.2.1.toNat], by simp⟩
  simp only [hz, Option.some.injEq, forall_eq', ndAt_of hz]
  (repeat' first | with_reducible rfl | exact True.intro | refine inR_i64 ?_ ?_ | with_reducible refine And.intro ?_ ?_ | with_reducible refine bcase_dec (fun _ => ?_) (fun _ => ?_) | with_reducible refine bcase_bne (fun _ => ?_) (fun _ => ?_) | with_reducible refine bcase_beq (fun _ => ?_) (fun _ => ?_) | with_reducible refine bcase_not (fun _ => ?_) (fun _ => ?_) | refine bcase_intro (fun _ => ?_) (fun _ => ?_) | refine sl_eq ?_ | refine ex_flip () ?_ ?_ | (apply ex_flip6 <;> try dsimp only) | (apply ex_flip5 <;> try dsimp only) | (apply ex_flip4 <;> try dsimp only) | (apply ex_flip3 <;> try dsimp only) | (apply ex_flip2 <;> try dsimp only) | apply ex_flip | (refine Prod.forall.2 ?_; intro _; try dsimp only) | (intro _; try dsimp only))
  all_goals first
    | rfl
    | omega
    | exact pk_init
    | exact hl
    | exact pkZ_no hz hx (by assumption) (by assumption) (by assumption)
    | exact pkZ_yes hz hx (by assumption) (by assumption) (by assumption)
    | exact pkZ_pre hz hx (by assumption) (by assumption)
    | exact pkZ_done hz (by assumption) (by assumption) rfl
    | exact pkZ_fin hz (by assumption) (by assumption) rfl
    | exact pkZ_kid hz hx (by assumption)
    | (have hq := pkZ_len hz hx (by assumption); (try simp only [i64max, room, List.length_append, List.length_cons, List.length_nil]); omega)
    | (have hq := pkZ_len hz hx (by assumption); have hq2 := pkZ_bd hz hx (by assumption) (by assumption); (try simp only [i64max, room, List.length_append, List.length_cons, List.length_nil]); omega)
    | skip)

theorem mN_all : ∀ n : Nat, Contract G Go.Proofs.Tryz.prog 57 (s_mN n)
  | 0 => mNZ_ok
  | n + 1 => mNS_ok n (mN_all n)
end Go.My
end
