/- Bytes and signs, plainly. -/
import Derived.Test.YtinkjpfkemkhaaaDoorMyBase
set_option linter.unusedVariables false
set_option linter.unusedSimpArgs false
namespace Go.My
open Go.Eng

def isFig (c : UInt8) : Bool := decide (48 ≤ c.toNat) && decide (c.toNat ≤ 57)
def isFst (c : UInt8) : Bool := (decide (97 ≤ c.toNat) && decide (c.toNat ≤ 122)) || ((decide (65 ≤ c.toNat) && decide (c.toNat ≤ 90)) || decide (c.toNat = 95))
def isInn (c : UInt8) : Bool := isFst c || isFig c
def isPln (c : UInt8) : Bool := decide (32 ≤ c.toNat) && decide (c.toNat ≤ 126)
def isNl (c : UInt8) : Bool := decide (c.toNat = 10)
def notNl (c : UInt8) : Bool := decide (c.toNat ≠ 10)
theorem u8_ext {a b : UInt8} (h : a.toNat = b.toNat) : a = b := UInt8.toNat_inj.1 h
theorem u8_lt (a : UInt8) : a.toNat < 256 := UInt8.toNat_lt a

def kw (s : List UInt8) : Bool := s == [99,108,97,115,115] || (s == [118,97,114] || (s == [105,102] || (s == [101,108,115,101] || (s == [119,104,105,108,101] || s == [114,101,116,117,114,110]))))
def mk2 (s : List UInt8) : Bool := s == [38,38] || (s == [124,124] || (s == [61,61] || (s == [61,62] || s == [46,46])))
def mk1 : List UInt8 := [40,41,123,125,91,93,59,44,46,61,43,45,42,60,63,58]
def markOk (s : List UInt8) : Bool := mk2 s || match s with
  | [c] => mk1.elem c
  | _ => false

/- where a byte first stands -/
def idxOf (p : UInt8 → Bool) : List UInt8 → Option Nat
  | [] => none
  | c :: s => if p c then some 0 else (idxOf p s).map (· + 1)
def trimR (s : List UInt8) : List UInt8 := (s.reverse.dropWhile (fun c => decide (c.toNat = 32))).reverse
def quoted (s : List UInt8) : List UInt8 × Bool := match idxOf (fun c => decide (c.toNat = 39)) (s.drop 1) with
  | none => ([], false)
  | some i => (s.take (i + 2), (s.take (i + 2)).all isPln)
structure SgR where
  kind : Int
  text : List UInt8
  size : Int
  ok : Bool
def sgAt (s : List UInt8) : SgR := match s with
  | [] => ⟨0, [], 0, false⟩
  | b :: _ =>
    if isFst b then ⟨1, s.takeWhile isInn, (s.takeWhile isInn).length, decide ((s.takeWhile isInn).length ≤ 30)⟩
    else if isFig b then ⟨2, s.takeWhile isFig, (s.takeWhile isFig).length, decide ((s.takeWhile isFig).length ≤ 12)⟩
    else if b.toNat = 39 then ⟨3, (quoted s).1, (quoted s).1.length, (quoted s).2⟩
    else if s.take 2 = [47, 47] then ⟨5, trimR (s.takeWhile notNl), (s.takeWhile notNl).length, (s.takeWhile notNl).all isPln⟩
    else if markOk (s.take 2) then ⟨4, s.take 2, (s.take 2).length, true⟩
    else if markOk (s.take 1) then ⟨4, s.take 1, 1, true⟩
    else ⟨0, [], 0, false⟩
def isSgn (s : List UInt8) (k : Int) : Bool := !(s == []) && ((sgAt s).ok && (decide ((sgAt s).kind = k) && ((sgAt s).text == s && decide ((sgAt s).size = s.length))))

def nameOk (s : List UInt8) : Bool := isSgn s 1 && !kw s
def chainOk (s : List UInt8) : Bool := s == [38,38] || (s == [124,124] || (s == [61,61] || (s == [60] || (s == [43] || (s == [45] || s == [42])))))
def textOk (k : Int) (s : List UInt8) : Bool :=
  if k = 1 ∨ k = 6 ∨ k = 12 ∨ k = 13 ∨ k = 20 ∨ k = 21 then nameOk s
  else if k = 2 then isSgn s 2
  else if k = 3 then isSgn s 3
  else if k = 19 then isSgn s 5
  else if k = 7 then chainOk s
  else s == []

/- takeWhile and take -/
theorem takeWhile_take {p : UInt8 → Bool} : ∀ {s : List UInt8} {n : Nat}, (∀ e ∈ s.take n, p e = true) → (s.length ≤ n ∨ ∃ e, s[n]? = some e ∧ p e = false) → s.take n = s.takeWhile p
  | [], n, _, _ => by simp
  | c :: s, 0, _, h => by
    rcases h with h | ⟨e, he, hp⟩
    · simp at h
    · simp at he; subst he; simp [List.takeWhile, hp]
  | c :: s, n + 1, ha, h => by
    have hc : p c = true := ha c (by simp)
    rw [List.take_succ_cons, List.takeWhile_cons, if_pos hc, takeWhile_take (fun e he => ha e (by simp [he]))]
    rcases h with h | ⟨e, he, hp⟩
    · exact .inl (by simpa using h)
    · exact .inr ⟨e, by simpa using he, hp⟩
theorem all_take_succ {p : UInt8 → Bool} {s : List UInt8} {n : Nat} {e : UInt8} (h : ∀ e ∈ s.take n, p e = true) (he : s[n]? = some e) (hp : p e = true) : ∀ e ∈ s.take (n + 1), p e = true := by
  rw [takeE he]; intro x hx
  rcases List.mem_append.1 hx with hx | hx
  · exact h x hx
  · simp at hx; subst hx; exact hp
theorem all_of_take {p : UInt8 → Bool} {s : List UInt8} {n : Nat} (h : ∀ e ∈ s.take n, p e = true) (hn : s.length ≤ n) : s.all p = true := by
  rw [List.take_of_length_le hn] at h; exact List.all_eq_true.2 h
theorem not_all {p : UInt8 → Bool} {s : List UInt8} {n : Nat} {e : UInt8} (he : s[n]? = some e) (hp : p e = false) : s.all p = false := by
  rw [Bool.eq_false_iff]; intro h
  rw [List.all_eq_true.1 h e (List.mem_of_getElem? he)] at hp; cases hp
theorem takeWhile_eq_self {p : UInt8 → Bool} {s : List UInt8} : s.takeWhile p = s ↔ s.all p = true := by
  constructor
  · intro h; rw [← h]; exact List.all_takeWhile
  · intro h; induction s with
    | nil => rfl
    | cons c s ih =>
      simp only [List.all_cons, Bool.and_eq_true] at h
      rw [List.takeWhile_cons, if_pos h.1, ih h.2]
theorem idxOf_none {p : UInt8 → Bool} : ∀ {s : List UInt8}, idxOf p s = none ↔ ∀ e ∈ s, p e = false
  | [] => by simp [idxOf]
  | c :: s => by
    unfold idxOf
    by_cases h : p c = true
    · simp [h]
    · simp [h, idxOf_none (s := s)]
theorem idxOf_some {p : UInt8 → Bool} : ∀ {s : List UInt8} {i : Nat}, idxOf p s = some i ↔ (∀ e ∈ s.take i, p e = false) ∧ ∃ e, s[i]? = some e ∧ p e = true
  | [], i => by simp [idxOf]
  | c :: s, i => by
    unfold idxOf
    by_cases h : p c = true
    · cases i with
      | zero => simp [h]
      | succ i => simp [h]
    · cases i with
      | zero => simp [h]
      | succ i =>
        simp only [h, Bool.false_eq_true, if_false, Option.map_eq_some_iff]
        constructor
        · rintro ⟨j, hj, e⟩
          obtain rfl : j = i := by omega
          obtain ⟨h1, h2⟩ := idxOf_some.1 hj
          refine ⟨?_, by simpa using h2⟩
          intro e he; simp at he
          rcases he with rfl | he
          · simpa using h
          · exact h1 e he
        · rintro ⟨h1, h2⟩
          exact ⟨i, idxOf_some.2 ⟨fun e he => h1 e (by simp [he]), by simpa using h2⟩, rfl⟩
end Go.My
