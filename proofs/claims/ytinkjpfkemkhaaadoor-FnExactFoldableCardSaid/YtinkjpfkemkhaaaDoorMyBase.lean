/- The data of the program: nodes, numbers, texts. -/
import Derived.Test.YtinkjpfkemkhaaaDoorEngW
set_option linter.unusedVariables false
namespace Go.My
open Go.Eng

structure Nd where
  kind : Int
  text : List UInt8
  kids : List Int
  blank : Bool

def intA : Int → List AV := fun n => [.int .i64 n]
def strA : List UInt8 → List AV := fun s => [.str s]
def boolA : Bool → List AV := fun b => [.bool b]
def ints (l : List Int) : AV := .sl false 0 1 Int intA l
def oints (l : List Int) : AV := .sl true 0 1 Int intA l
def ndA (o : Bool) : Nd → List AV := fun x => [.int .i64 x.kind, .str x.text, .sl o 0 1 Int intA x.kids, .bool x.blank]
def nds (l : List Nd) : AV := .sl false 0 4 Nd (ndA false) l
def onds (l : List Nd) : AV := .sl true 0 4 Nd (ndA true) l

def beqNd (a b : Nd) : Bool := a.kind == b.kind && (a.text == b.text && (a.kids == b.kids && a.blank == b.blank))
def beqNds : List Nd → List Nd → Bool
  | [], [] => true
  | a :: as, b :: bs => beqNd a b && beqNds as bs
  | _, _ => false
theorem beqNd_eq {a b : Nd} : beqNd a b = true ↔ a = b := by
  cases a; cases b; simp [beqNd]
theorem beqNds_eq : ∀ {a b : List Nd}, beqNds a b = true ↔ a = b
  | [], [] => by simp [beqNds]
  | [], _ :: _ => by simp [beqNds]
  | _ :: _, [] => by simp [beqNds]
  | a :: as, b :: bs => by simp [beqNds, beqNd_eq, beqNds_eq (a := as) (b := bs)]
theorem beqNds_false {a b : List Nd} (h : a ≠ b) : false = beqNds a b := by
  cases hb : beqNds a b
  · rfl
  · exact (h (beqNds_eq.1 hb)).elim
theorem beqNds_true {a b : List Nd} (h : a = b) : true = beqNds a b := (beqNds_eq.2 h).symm
theorem beqNds_self (a : List Nd) : beqNds a a = true := beqNds_eq.2 rfl
theorem beqNd_self (a : Nd) : beqNd a a = true := beqNd_eq.2 rfl

/- what is no greater than memory bears -/
def smallNd (x : Nd) : Prop := x.text.length < 2 ^ 63 ∧ x.kids.length < 2 ^ 63
def smallNds (l : List Nd) : Prop := l.length < 2 ^ 63 ∧ ∀ x ∈ l, smallNd x

/- what is left of a budget -/
def szInts (l : List Int) (left : Int) : Int := if left - l.length < 0 then -1 else left - l.length
def szNd (x : Nd) (left : Int) : Int := if left - x.text.length < 0 then -1 else szInts x.kids (left - x.text.length)
def szAll : List Nd → Int → Int
  | [], left => left
  | x :: xs, left => if szNd x left < 0 then -1 else szAll xs (szNd x left)
def szNds (l : List Nd) (left : Int) : Int := if left - l.length < 0 then -1 else szAll l (left - l.length)

theorem ex_flip {α : Type} {p q : α → Prop} (x : α) (h2 : q x) (h1 : p x) : ∃ x, p x ∧ q x := ⟨x, h1, h2⟩
theorem ex_flip2 {α β : Type} {p q : α × β → Prop} (a : α) (b : β) (h2 : q (a, b)) (h1 : p (a, b)) : ∃ x, p x ∧ q x := ⟨_, h1, h2⟩
theorem ex_flip3 {α β γ : Type} {p q : α × β × γ → Prop} (a : α) (b : β) (c : γ) (h2 : q (a, b, c)) (h1 : p (a, b, c)) : ∃ x, p x ∧ q x := ⟨_, h1, h2⟩
theorem ex_flip4 {α β γ δ : Type} {p q : α × β × γ × δ → Prop} (a : α) (b : β) (c : γ) (d : δ) (h2 : q (a, b, c, d)) (h1 : p (a, b, c, d)) : ∃ x, p x ∧ q x := ⟨_, h1, h2⟩
theorem ex_flip5 {α β γ δ ε : Type} {p q : α × β × γ × δ × ε → Prop} (a : α) (b : β) (c : γ) (d : δ) (e : ε) (h2 : q (a, b, c, d, e)) (h1 : p (a, b, c, d, e)) : ∃ x, p x ∧ q x := ⟨_, h1, h2⟩
theorem ex_flip6 {α β γ δ ε ζ : Type} {p q : α × β × γ × δ × ε × ζ → Prop} (a : α) (b : β) (c : γ) (d : δ) (e : ε) (f : ζ) (h2 : q (a, b, c, d, e, f)) (h1 : p (a, b, c, d, e, f)) : ∃ x, p x ∧ q x := ⟨_, h1, h2⟩
theorem sl_eq {o : Bool} {id sz : Nat} {α : Type} {f : α → List AV} {l l' : List α} (h : l = l') : AV.sl o id sz α f l = AV.sl o id sz α f l' := by rw [h]
theorem bcase_dec {p : Prop} [Decidable p] {P Q : Prop} (h1 : p → P) (h2 : ¬ p → Q) : bcase (decide p) P Q :=
  bcase_intro (fun h => h1 (of_decide_eq_true h)) (fun h => h2 (of_decide_eq_false h))
theorem getE {α : Type} {l : List α} {n : Nat} {e : α} (h : l[n]? = some e) : ∃ h : n < l.length, l[n] = e := List.getElem?_eq_some_iff.1 h
theorem memE {α : Type} {l : List α} {n : Nat} {e : α} (h : l[n]? = some e) : e ∈ l := List.mem_of_getElem? h
theorem dropE {α : Type} {l : List α} {n : Nat} {e : α} (h : l[n]? = some e) : l.drop n = e :: l.drop (n + 1) := by
  obtain ⟨h1, h2⟩ := getE h
  rw [← h2]; exact List.drop_eq_getElem_cons h1
theorem takeE {α : Type} {l : List α} {n : Nat} {e : α} (h : l[n]? = some e) : l.take (n + 1) = l.take n ++ [e] := by
  rw [List.take_add_one, h]; rfl
def fillL {α : Type} (z : α) (x : List α) (i : Int) : List α := x.take i.toNat ++ List.replicate (x.length - i.toNat) z
theorem fillL_length {α : Type} {z : α} {x : List α} {i : Int} (h : i ≤ x.length) : (fillL z x i).length = x.length := by
  simp [fillL]; omega
theorem fillL_zero {α : Type} {z : α} {x : List α} : List.replicate (Int.toNat (x.length : Int)) z = fillL z x 0 := by simp [fillL]
theorem fillL_all {α : Type} {z : α} {x : List α} {i : Int} (h : (x.length : Int) ≤ i) : fillL z x i = x := by
  have h1 : x.length - i.toNat = 0 := by omega
  rw [fillL, h1, List.take_of_length_le (by omega)]; simp
theorem fillL_set {α : Type} {z : α} {x : List α} {i : Int} {e : α} (h0 : 0 ≤ i) (h : x[i.toNat]? = some e) : (fillL z x i).set i.toNat e = fillL z x (i + 1) := by
  obtain ⟨h1, h2⟩ := List.getElem?_eq_some_iff.1 h
  have e1 : (i + 1).toNat = i.toNat + 1 := by omega
  have e2 : x.length - i.toNat = (x.length - (i.toNat + 1)) + 1 := by omega
  have e3 : i.toNat - min i.toNat x.length = 0 := by omega
  rw [fillL, fillL, e1, e2, List.set_append_right, List.length_take, e3, List.replicate_succ, List.set_cons_zero, List.take_add_one, h]
  · simp
  · rw [List.length_take]; omega
theorem bcase_bne {α : Type} [BEq α] [LawfulBEq α] {a b : α} {P Q : Prop} (h1 : a ≠ b → P) (h2 : a = b → Q) : bcase (a != b) P Q :=
  bcase_intro (fun h => h1 (by simpa using h)) (fun h => h2 (by simpa using h))
theorem bcase_beq {α : Type} [BEq α] [LawfulBEq α] {a b : α} {P Q : Prop} (h1 : a = b → P) (h2 : a ≠ b → Q) : bcase (a == b) P Q :=
  bcase_intro (fun h => h1 (by simpa using h)) (fun h => h2 (by simpa using h))
theorem bcase_not {b : Bool} {P Q : Prop} (h1 : b = false → P) (h2 : b = true → Q) : bcase (!b) P Q :=
  bcase_intro (fun h => h1 (by simpa using h)) (fun h => h2 (by simpa using h))
theorem toNat1 {i : Int} (h : 0 ≤ i) : (i + 1).toNat = i.toNat + 1 := by omega
theorem takeEq {α : Type} {x y : List α} {i : Int} {e f : α} (h0 : 0 ≤ i) (ht : x.take i.toNat = y.take i.toNat) (h1 : x[i.toNat]? = some e) (h2 : y[i.toNat]? = some f) (he : e = f) :
    x.take (i + 1).toNat = y.take (i + 1).toNat := by
  rw [toNat1 h0, takeE h1, takeE h2, ht, he]
theorem takeAll {α : Type} {x y : List α} {i : Int} (hl : x.length = y.length) (ht : x.take i.toNat = y.take i.toNat) (h : (x.length : Int) ≤ i) : x = y := by
  rw [List.take_of_length_le (by omega), List.take_of_length_le (by omega)] at ht; exact ht
theorem beqE {α : Type} [BEq α] [LawfulBEq α] {x y : α} (h : x = y) : true = (x == y) := by simp [h]
theorem bneE {α : Type} [BEq α] [LawfulBEq α] {x y : α} (h : x ≠ y) : false = (x == y) := by simp [h]
def inR64 (n : Int) : Prop := -9223372036854775808 ≤ n ∧ n ≤ 9223372036854775807
theorem i64max : IntKind.i64.max = 9223372036854775807 := rfl
theorem inR_i64 {n : Int} (h1 : -9223372036854775808 ≤ n) (h2 : n ≤ 9223372036854775807) : inR .i64 n := by
  unfold inR; simp [IntKind.min, IntKind.max, IntKind.bits, IntKind.signed]; omega

theorem fz_nds {l : List Nd} : AV.sl false 0 4 Nd (fun x => fzL (ndA true x)) l = AV.sl false 0 4 Nd (ndA false) l := rfl
/- what the laws' budget gives -/
theorem szInts_bd {l : List Int} {n : Int} (h : ¬ szInts l n < 0) : (l.length : Int) ≤ n := by
  unfold szInts at h; split at h <;> omega
theorem szInts_mono {l : List Int} {n : Int} (h : -1 ≤ n) : -1 ≤ szInts l n ∧ szInts l n ≤ n := by
  unfold szInts; split <;> omega
theorem szNd_mono {l : Nd} {n : Int} (h : -1 ≤ n) : -1 ≤ szNd l n ∧ szNd l n ≤ n := by
  unfold szNd; split
  · omega
  · have := @szInts_mono l.kids (n - l.text.length) (by omega); omega
theorem szNd_bd {x : Nd} {n : Int} (h : ¬ szNd x n < 0) : (x.text.length : Int) ≤ n ∧ (x.kids.length : Int) ≤ n := by
  unfold szNd at h; split at h
  · omega
  · have := szInts_bd h; omega
theorem szAll_mono : ∀ {l : List Nd} {n : Int}, -1 ≤ n → -1 ≤ szAll l n ∧ szAll l n ≤ n
  | [], n, h => ⟨h, Int.le_refl _⟩
  | x :: l, n, h => by
    unfold szAll; split
    · omega
    · have h1 := @szNd_mono x n h
      have h2 := @szAll_mono l (szNd x n) (by omega)
      omega
theorem szNds_mono {l : List Nd} {n : Int} (h : -1 ≤ n) : -1 ≤ szNds l n ∧ szNds l n ≤ n := by
  unfold szNds; split
  · omega
  · have := @szAll_mono l (n - l.length) (by omega); omega
theorem szAll_bd : ∀ {l : List Nd} {n : Int}, -1 ≤ n → ¬ szAll l n < 0 → ∀ e ∈ l, (e.text.length : Int) ≤ n ∧ (e.kids.length : Int) ≤ n
  | [], n, _, _, e, he => by cases he
  | x :: l, n, h0, h, e, he => by
    unfold szAll at h; split at h
    · omega
    · rename_i hx
      have h1 := @szNd_mono x n h0
      rcases List.mem_cons.1 he with rfl | he
      · exact szNd_bd hx
      · have := szAll_bd (by omega) h e he; omega
theorem szNds_bd {l : List Nd} {n : Int} (h0 : -1 ≤ n) (h : ¬ szNds l n < 0) : (l.length : Int) ≤ n ∧ ∀ e ∈ l, (e.text.length : Int) ≤ n ∧ (e.kids.length : Int) ≤ n := by
  unfold szNds at h; split at h
  · omega
  · have h1 := @szAll_mono l (n - l.length) (by omega)
    refine ⟨by omega, fun e he => ?_⟩
    have := szAll_bd (by omega) h e he; omega
theorem gB1 {l : List Nd} (h : ¬ szNds l 1048576 < 0) : l.length < 2 ^ 63 := by have := (szNds_bd (by omega) h).1; omega
theorem gB2 {l : List Nd} (h : ¬ szNds l 1048576 < 0) {e : Nd} (he : e ∈ l) : e.text.length ≤ 2 ^ 40 := by have := (szNds_bd (by omega) h).2 e he; omega
theorem gB3 {l : List Nd} (h : ¬ szNds l 1048576 < 0) : l.length ≤ 2 ^ 30 := by have := (szNds_bd (by omega) h).1; omega
theorem gB4 {l : List Nd} (h : ¬ szNds l 1048576 < 0) {e : Nd} (he : e ∈ l) : e.kids.length ≤ 2 ^ 30 := by have := (szNds_bd (by omega) h).2 e he; omega
theorem gB5 {l : List Nd} {m : List Int} (h : ¬ szInts m (szNds l 1048576) < 0) : m.length ≤ 2 ^ 30 := by
  have h1 := szInts_bd h
  have h2 := @szNds_mono l 1048576 (by omega)
  omega
theorem gB6 {l : List Nd} (h : ¬ szNds l 1048576 < 0) : smallNds l := by
  refine ⟨gB1 h, fun e he => ?_⟩
  have h1 := gB2 h he; have h2 := gB4 h he
  unfold smallNd; omega
theorem gB7 {l : List Nd} : szNds l 1048576 ≤ 2 ^ 50 := by have := @szNds_mono l 1048576 (by omega); omega
theorem gB8 {l : List Nd} : -1 ≤ szNds l 1048576 := (@szNds_mono l 1048576 (by omega)).1
end Go.My
