/- A part of the proof: the engine and the contracts, joined. -/
import Derived.Test.YtlmpaancffikiaaGreatDoorQD
section
set_option linter.unusedVariables false
set_option linter.unusedSimpArgs false
namespace Go.My
open Go.Eng
def sgMk (x : List UInt8) : SgR := if markOk (x.take 2) then ⟨4, x.take 2, (x.take 2).length, true⟩ else if markOk (x.take 1) then ⟨4, x.take 1, 1, true⟩ else ⟨0, [], 0, false⟩
def sgInv (x : List UInt8) (i : Int) : Prop := (0 ≤ i ∧ i ≤ 2 ∧ i ≤ x.length) ∧ sgAt x = sgMk x ∧ ∀ j : Nat, i < j → j ≤ 2 → j ≤ x.length → markOk (x.take j) = false
theorem sgInv_yes {x : List UInt8} {i : Int} (h : sgInv x i) (hx : 1 ≤ x.length) (h0 : i > 0) (hm : markOk (x.take i.toNat) = true) : sgAt x = ⟨4, x.take i.toNat, i, true⟩ := by
  obtain ⟨⟨h1, h2, h3⟩, h4, h5⟩ := h
  rw [h4]
  have hi : i = 1 ∨ i = 2 := by omega
  rcases hi with rfl | rfl
  · by_cases hl : x.length = 1
    · have e : x.take 2 = x.take 1 := by rw [List.take_of_length_le (by omega), List.take_of_length_le (by omega)]
      have hm' : markOk (x.take 1) = true := hm
      simp only [sgMk, e, hm', if_true]
      have : (x.take 1).length = 1 := by simp; omega
      rw [this]; rfl
    · have := h5 2 (by omega) (by omega) (by omega)
      have hm' : markOk (x.take 1) = true := hm
      simp only [sgMk, this, hm', Bool.false_eq_true, if_false, if_true]; rfl
  · have hm' : markOk (x.take 2) = true := hm
    simp only [sgMk, hm', if_true]
    have : (x.take 2).length = 2 := by simp; omega
    rw [this]; rfl
theorem sgInv_no {x : List UInt8} {i : Int} (h : sgInv x i) (hx : 1 ≤ x.length) (h0 : ¬ i > 0) : sgAt x = ⟨0, [], 0, false⟩ := by
  obtain ⟨⟨h1, h2, h3⟩, h4, h5⟩ := h
  rw [h4]
  have a1 := h5 1 (by omega) (by omega) hx
  have a2 : markOk (x.take 2) = false := by
    by_cases hl : x.length = 1
    · have e : x.take 2 = x.take 1 := by rw [List.take_of_length_le (by omega), List.take_of_length_le (by omega)]
      rw [e]; exact a1
    · exact h5 2 (by omega) (by omega) (by omega)
  simp only [sgMk, a1, a2, Bool.false_eq_true, if_false]
theorem sgInv_next {x : List UInt8} {i : Int} (h : sgInv x i) (h0 : i > 0) (hm : markOk (x.take i.toNat) = false) : sgInv x (i - 1) := by
  obtain ⟨⟨h1, h2, h3⟩, h4, h5⟩ := h
  refine ⟨⟨by omega, by omega, by omega⟩, h4, fun j a b c => ?_⟩
  by_cases e : (j : Int) = i
  · have : j = i.toNat := by omega
    rw [this]; exact hm
  · exact h5 j (by omega) b c
theorem sgInv_init {b : UInt8} {t : List UInt8} (h1 : isFst b = false) (h2 : isFig b = false) (h3 : ¬ b.toNat = 39) (h4 : (b :: t).take 2 ≠ [47, 47]) : sgInv (b :: t) (min 2 ((b :: t).length : Int)) := by
  refine ⟨⟨by omega, by omega, by omega⟩, ?_, fun j a b c => by omega⟩
  simp only [sgAt, h1, h2, h3, h4, Bool.false_eq_true, if_false, sgMk]
theorem sgAt1 {b : UInt8} {t : List UInt8} (h : isFst b = true) : sgAt (b :: t) = ⟨1, (b :: t).takeWhile isInn, ((b :: t).takeWhile isInn).length, decide ((((b :: t).takeWhile isInn).length : Int) ≤ 30)⟩ := by
  have : decide ((((b :: t).takeWhile isInn).length : Int) ≤ 30) = decide (((b :: t).takeWhile isInn).length ≤ 30) := decide_eq_decide.2 (by omega)
  rw [this]; simp [sgAt, h]
theorem sgAt2 {b : UInt8} {t : List UInt8} (h0 : isFst b = false) (h : isFig b = true) : sgAt (b :: t) = ⟨2, (b :: t).takeWhile isFig, ((b :: t).takeWhile isFig).length, decide ((((b :: t).takeWhile isFig).length : Int) ≤ 12)⟩ := by
  have : decide ((((b :: t).takeWhile isFig).length : Int) ≤ 12) = decide (((b :: t).takeWhile isFig).length ≤ 12) := decide_eq_decide.2 (by omega)
  rw [this]; simp [sgAt, h, h0]
theorem sgAt3 {b : UInt8} {t : List UInt8} (h0 : isFst b = false) (h1 : isFig b = false) (h : (b.toNat : Int) = 39) : sgAt (b :: t) = ⟨3, (quoted (b :: t)).1, (quoted (b :: t)).1.length, (quoted (b :: t)).2⟩ := by
  have h : b.toNat = 39 := by omega
  simp [sgAt, h0, h1, h]
theorem sgAt5 {b : UInt8} {t : List UInt8} (h0 : isFst b = false) (h1 : isFig b = false) (h2 : (b.toNat : Int) ≠ 39) (h : (b :: t).take 2 = [47, 47]) :
    sgAt (b :: t) = ⟨5, trimR ((b :: t).takeWhile notNl), ((b :: t).takeWhile notNl).length, ((b :: t).takeWhile notNl).all isPln⟩ := by
  have h2 : ¬ b.toNat = 39 := by omega
  simp only [sgAt, h0, h1, h2, h, Bool.false_eq_true, if_false, if_true]
theorem trimR_snoc (s : List UInt8) (c : UInt8) : trimR (s ++ [c]) = if c.toNat = 32 then trimR s else s ++ [c] := by
  unfold trimR
  rw [List.reverse_append]
  simp only [List.reverse_cons, List.reverse_nil, List.nil_append, List.singleton_append, List.dropWhile_cons]
  by_cases h : c.toNat = 32
  · simp [h]
  · simp [h]
theorem snoc_of {s : List UInt8} {c : UInt8} (h : s[s.length - 1]? = some c) : s = s.take (s.length - 1) ++ [c] := by
  have h1 := takeE h
  have : s.length - 1 + 1 = s.length := by
    have := (List.getElem?_eq_some_iff.1 h).1; omega
  rw [this, List.take_length] at h1
  exact h1
theorem trimR_last {s : List UInt8} {c : UInt8} (h : s[s.length - 1]? = some c) : trimR s = if c.toNat = 32 then trimR (s.take (s.length - 1)) else s := by
  have h1 := snoc_of h
  rw [h1, trimR_snoc]
  split
  · rw [List.length_append]; simp
  · rfl
theorem trimR_take_succ {s : List UInt8} {n : Nat} {c : UInt8} (h : s[n]? = some c) : trimR (s.take (n + 1)) = if c.toNat = 32 then trimR (s.take n) else s.take (n + 1) := by
  rw [takeE h, trimR_snoc]
def isQ (c : UInt8) : Bool := decide (c.toNat = 39)
def qlen (s : List UInt8) : Nat := match idxOf isQ (s.drop 1) with
  | none => 0
  | some i => if ((s.drop 1).take i).all isPln then i + 2 else 0
def nlen (s : List UInt8) : Nat := if s.take 2 = [47, 47] then (if (s.takeWhile notNl).all isPln then (s.takeWhile notNl).length else 0) else 0
theorem quoted_eq (s : List UInt8) : quoted s = match idxOf isQ (s.drop 1) with
    | none => ([], false)
    | some i => (s.take (i + 2), (s.take (i + 2)).all isPln) := rfl
theorem isPln_q {c : UInt8} (h : isQ c = true) : isPln c = true := by
  simp [isQ] at h; simp [isPln, h]
theorem idxOf_lt {p : UInt8 → Bool} {s : List UInt8} {i : Nat} (h : idxOf p s = some i) : i < s.length := by
  obtain ⟨_, e, he, _⟩ := idxOf_some.1 h
  exact (List.getElem?_eq_some_iff.1 he).1
theorem quoted_q {c : UInt8} {s : List UInt8} (hc : isQ c = true) : (quoted (c :: s)).2 = true ↔ qlen (c :: s) ≠ 0 := by
  rw [quoted_eq]; unfold qlen
  simp only [List.drop_succ_cons, List.drop_zero]
  cases h : idxOf isQ s with
  | none => simp
  | some i =>
    simp only [List.take_succ_cons, List.all_cons, isPln_q hc, Bool.true_and]
    obtain ⟨h1, e, he, hq⟩ := idxOf_some.1 h
    rw [takeE he, List.all_append]
    simp [isPln_q hq]
theorem quoted_len {c : UInt8} {s : List UInt8} (hc : isQ c = true) (h : qlen (c :: s) ≠ 0) : (quoted (c :: s)).1 = (c :: s).take (qlen (c :: s)) ∧ qlen (c :: s) ≤ (c :: s).length := by
  rw [quoted_eq]; unfold qlen at h ⊢
  simp only [List.drop_succ_cons, List.drop_zero] at h ⊢
  cases hi : idxOf isQ s with
  | none => rw [hi] at h; simp at h
  | some i =>
    rw [hi] at h
    simp only at h ⊢
    split at h
    · rename_i hp
      have := idxOf_lt hi
      rw [if_pos hp]
      exact ⟨rfl, by simp; omega⟩
    · exact (h rfl).elim
theorem isFst_notFig {c : UInt8} (h : isFst c = true) : isFig c = false := by
  simp [isFst, isFig] at h ⊢; omega
theorem sg_name (s : List UInt8) : isSgn s 1 = match s with
    | [] => false
    | c :: _ => isFst c && (s.all isInn && decide (s.length ≤ 30)) := by
  cases s with
  | nil => rfl
  | cons c t =>
    by_cases hc : isFst c = true
    · simp only [isSgn, sgAt, hc, if_true, Bool.true_and]
      by_cases ha : (c :: t).all isInn = true
      · have := takeWhile_eq_self.2 ha
        rw [this, ha]; simp
      · have hn : ¬ (c :: t).takeWhile isInn = c :: t := fun e => ha (takeWhile_eq_self.1 e)
        simp only [Bool.not_eq_true] at ha
        rw [ha]
        have : ((c :: t).takeWhile isInn == c :: t) = false := by rw [beq_eq_false_iff_ne]; exact hn
        rw [this]; simp
    · simp only [Bool.not_eq_true] at hc
      simp only [hc, Bool.false_and]
      rw [Bool.eq_false_iff]
      intro h
      simp only [isSgn, sgAt, hc, Bool.false_eq_true, if_false, Bool.and_eq_true, decide_eq_true_eq] at h
      have h1 := h.2.2.1
      repeat' split at h1
      all_goals simp at h1
theorem sg_num (s : List UInt8) : isSgn s 2 = (s.all isFig && (decide (1 ≤ s.length) && decide (s.length ≤ 12))) := by
  cases s with
  | nil => rfl
  | cons c t =>
    by_cases hc : isFst c = true
    · have hf := isFst_notFig hc
      simp only [List.all_cons, hf, Bool.false_and]
      simp [isSgn, sgAt, hc]
    · simp only [Bool.not_eq_true] at hc
      by_cases hf : isFig c = true
      · simp only [isSgn, sgAt, hc, hf, Bool.false_eq_true, if_false, if_true]
        by_cases ha : (c :: t).all isFig = true
        · have := takeWhile_eq_self.2 ha
          rw [this, ha]; simp
        · have hn : ¬ (c :: t).takeWhile isFig = c :: t := fun e => ha (takeWhile_eq_self.1 e)
          simp only [Bool.not_eq_true] at ha
          rw [ha]
          have : ((c :: t).takeWhile isFig == c :: t) = false := by rw [beq_eq_false_iff_ne]; exact hn
          rw [this]; simp
      · simp only [Bool.not_eq_true] at hf
        simp only [List.all_cons, hf, Bool.false_and]
        rw [Bool.eq_false_iff]
        intro h
        simp only [isSgn, sgAt, hc, hf, Bool.false_eq_true, if_false, Bool.and_eq_true, decide_eq_true_eq] at h
        have h1 := h.2.2.1
        repeat' split at h1
        all_goals simp at h1
theorem sg_quot (s : List UInt8) : isSgn s 3 = match s with
    | [] => false
    | c :: _ => isQ c && (decide (1 < s.length) && decide (qlen s = s.length)) := by
  cases s with
  | nil => rfl
  | cons c t =>
    by_cases hq : isQ c = true
    · have h39 : c.toNat = 39 := by simpa [isQ] using hq
      have hc : isFst c = false := by simp [isFst]; omega
      have hf : isFig c = false := by simp [isFig]; omega
      simp only [hq, Bool.true_and]
      simp only [isSgn, sgAt, hc, hf, h39, Bool.false_eq_true, if_false, if_true]
      by_cases h0 : qlen (c :: t) = 0
      · have h2 : (quoted (c :: t)).2 = false := by
          rw [Bool.eq_false_iff]; intro h; exact (quoted_q hq).1 h h0
        rw [h2, h0]; simp
      · have h2 := (quoted_q hq).2 h0
        obtain ⟨h3, h4⟩ := quoted_len hq h0
        have h5 : 1 < qlen (c :: t) := by
          unfold qlen at h0 ⊢
          split at h0
          · exact (h0 rfl).elim
          · split at h0
            · rename_i hp; rw [if_pos hp]; omega
            · exact (h0 rfl).elim
        rw [h2, h3]
        rw [Bool.eq_iff_iff]
        simp only [Bool.and_eq_true, Bool.not_eq_true', decide_eq_true_eq, beq_iff_eq, List.length_take]
        constructor
        · rintro ⟨_, _, _, e, hl⟩
          have := congrArg List.length e
          simp only [List.length_take] at this
          constructor <;> omega
        · rintro ⟨h6, h7⟩
          refine ⟨by simp, trivial, trivial, ?_, ?_⟩
          · rw [h7, List.take_length]
          · omega
    · simp only [Bool.not_eq_true] at hq
      have h39 : ¬ c.toNat = 39 := by simpa [isQ] using hq
      simp only [hq, Bool.false_and]
      rw [Bool.eq_false_iff]
      intro h
      simp only [isSgn, sgAt, h39, if_false, Bool.and_eq_true, decide_eq_true_eq] at h
      have h1 := h.2.2.1
      repeat' split at h1
      all_goals simp at h1
theorem sg_note (s : List UInt8) : isSgn s 5 = (decide (1 < s.length) && (decide (nlen s = s.length) && (trimR s == s))) := by
  cases s with
  | nil => rfl
  | cons c t =>
    by_cases hp : (c :: t).take 2 = [47, 47]
    · have h47 : c = 47 := by
        have := congrArg (fun l : List UInt8 => l.head?) hp
        simpa using this
      subst h47
      have hl : 1 < (47 :: t).length := by
        have := congrArg List.length hp
        simp only [List.length_take, List.length_cons, List.length_nil] at this ⊢; omega
      have hc : isFst 47 = false := by decide
      have hf : isFig 47 = false := by decide
      have hq : ¬ (47 : UInt8).toNat = 39 := by decide
      simp only [isSgn, sgAt, hc, hf, hq, hp, Bool.false_eq_true, if_false, if_true, nlen]
      rw [Bool.eq_iff_iff]
      simp only [Bool.and_eq_true, Bool.not_eq_true', decide_eq_true_eq, beq_iff_eq, beq_eq_false_iff_ne]
      constructor
      · rintro ⟨_, h1, _, h2, h3⟩
        rw [if_pos h1]
        have h3 : ((47 :: t).takeWhile notNl).length = (47 :: t).length := by omega
        refine ⟨hl, h3, ?_⟩
        have e : (47 :: t).takeWhile notNl = 47 :: t := by
          have := List.takeWhile_prefix (p := notNl) (l := 47 :: t)
          exact List.IsPrefix.eq_of_length this h3
        rw [e] at h2; exact h2
      · rintro ⟨_, h1, h2⟩
        split at h1
        · rename_i h3
          have e : (47 :: t).takeWhile notNl = 47 :: t := by
            have := List.takeWhile_prefix (p := notNl) (l := 47 :: t)
            exact List.IsPrefix.eq_of_length this h1
          rw [e] at h3 ⊢
          exact ⟨by simp, h3, trivial, h2, rfl⟩
        · simp at h1
    · have h0 : nlen (c :: t) = 0 := by simp only [nlen, if_neg hp]
      rw [h0]
      have : decide (0 = (c :: t).length) = false := by simp
      rw [this]
      simp only [Bool.false_and, Bool.and_false]
      rw [Bool.eq_false_iff]
      intro h
      simp only [isSgn, sgAt, hp, if_false, Bool.and_eq_true, decide_eq_true_eq] at h
      have h1 := h.2.2.1
      repeat' split at h1
      all_goals simp at h1
theorem qlen_found {s : List UInt8} {m : Nat} {e : UInt8} (h : ∀ e ∈ (s.drop 1).take m, isQ e = false ∧ isPln e = true) (he : (s.drop 1)[m]? = some e) (hq : isQ e = true) : qlen s = m + 2 := by
  unfold qlen
  rw [idxOf_some.2 ⟨fun e he => (h e he).1, e, he, hq⟩]
  simp only
  rw [if_pos (List.all_eq_true.2 fun e he => (h e he).2)]
theorem qlen_bad {s : List UInt8} {m : Nat} {e : UInt8} (h : ∀ e ∈ (s.drop 1).take m, isQ e = false ∧ isPln e = true) (he : (s.drop 1)[m]? = some e) (hq : isQ e = false) (hp : isPln e = false) : qlen s = 0 := by
  unfold qlen
  cases hi : idxOf isQ (s.drop 1) with
  | none => rfl
  | some i =>
    simp only
    obtain ⟨h1, d, hd, hdq⟩ := idxOf_some.1 hi
    rw [if_neg]
    intro hall
    have hmi : m < i := by
      rcases Nat.lt_trichotomy m i with h' | h' | h'
      · exact h'
      · subst h'; rw [he] at hd; cases hd; rw [hq] at hdq; cases hdq
      · have : d ∈ (s.drop 1).take m := by
          rw [List.mem_take_iff_getElem]
          obtain ⟨a, b⟩ := List.getElem?_eq_some_iff.1 hd
          exact ⟨i, by omega, b⟩
        rw [(h d this).1] at hdq; cases hdq
    have : e ∈ (s.drop 1).take i := by
      rw [List.mem_take_iff_getElem]
      obtain ⟨a, b⟩ := List.getElem?_eq_some_iff.1 he
      exact ⟨m, by omega, b⟩
    rw [List.all_eq_true.1 hall e this] at hp; cases hp
theorem qlen_end {s : List UInt8} {m : Nat} (h : ∀ e ∈ (s.drop 1).take m, isQ e = false ∧ isPln e = true) (hl : (s.drop 1).length ≤ m) : qlen s = 0 := by
  unfold qlen
  rw [List.take_of_length_le hl] at h
  rw [idxOf_none.2 fun e he => (h e he).1]
theorem nlen_end {s : List UInt8} {m : Nat} (hp : s.take 2 = [47, 47]) (h : ∀ e ∈ s.take m, notNl e = true ∧ isPln e = true) (he : s.length ≤ m ∨ ∃ e, s[m]? = some e ∧ notNl e = false) (hm : m ≤ s.length) : nlen s = m := by
  have h1 := takeWhile_take (fun e he => (h e he).1) he
  unfold nlen
  rw [if_pos hp, ← h1, if_pos (List.all_eq_true.2 fun e he => (h e he).2), List.length_take]; omega
theorem nlen_bad {s : List UInt8} {m : Nat} {e : UInt8} (hp : s.take 2 = [47, 47]) (h : ∀ e ∈ s.take m, notNl e = true ∧ isPln e = true) (he : s[m]? = some e) (hn : notNl e = true) (hq : isPln e = false) : nlen s = 0 := by
  unfold nlen
  rw [if_pos hp, if_neg]
  intro hall
  have : e ∈ s.takeWhile notNl := by
    have h2 : s = s.take m ++ e :: s.drop (m + 1) := by rw [← dropE he, List.take_append_drop]
    rw [h2, List.takeWhile_append_of_pos (fun e he => (h e he).1), List.takeWhile_cons, if_pos hn]
    simp
  rw [List.all_eq_true.1 hall e this] at hq; cases hq
theorem nlen_no {s : List UInt8} (hp : s.take 2 ≠ [47, 47]) : nlen s = 0 := by
  unfold nlen; rw [if_neg hp]
theorem drop1_get {s : List UInt8} {a n : Int} (h0 : 0 ≤ a) (h : a + 1 ≤ n) : ((s.drop a.toNat).drop 1)[(n - a - 1).toNat]? = s[n.toNat]? := by
  rw [List.getElem?_drop, List.getElem?_drop]; congr 1; omega
theorem drop0_get {s : List UInt8} {a n : Int} (h0 : 0 ≤ a) (h : a ≤ n) : (s.drop a.toNat)[(n - a).toNat]? = s[n.toNat]? := by
  rw [List.getElem?_drop]; congr 1; omega
theorem all_next {p : UInt8 → Prop} {s : List UInt8} {m k : Nat} {e : UInt8} (h : ∀ e ∈ s.take m, p e) (he : s[m]? = some e) (hp : p e) (hk : k = m + 1) : ∀ e ∈ s.take k, p e := by
  subst hk
  rw [takeE he]; intro x hx
  rcases List.mem_append.1 hx with hx | hx
  · exact h x hx
  · simp at hx; subst hx; exact hp
def qI (x : List UInt8 × Int) (i : Int) : Prop := x.2 + 1 ≤ i ∧ (i ≤ x.1.length ∨ i = x.2 + 1) ∧ ∀ e ∈ ((x.1.drop x.2.toNat).drop 1).take (i - x.2 - 1).toNat, isQ e = false ∧ isPln e = true
theorem qI_0 {x : List UInt8 × Int} : qI x (x.2 + 1) := by
  refine ⟨by omega, .inr rfl, fun e he => ?_⟩
  rw [show (x.2 + 1 - x.2 - 1).toNat = 0 by omega] at he; simp at he
theorem qI_b {x : List UInt8 × Int} {i : Int} (h : qI x i) : x.2 + 1 ≤ i ∧ (i ≤ x.1.length ∨ i = x.2 + 1) := ⟨h.1, h.2.1⟩
theorem qI_found {x : List UInt8 × Int} {i : Int} {c : UInt8} (h0 : 0 ≤ x.2) (h : qI x i) (hq : (c.toNat : Int) = 39) (hc : x.1[i.toNat]? = some c) : i + 1 - x.2 = qlen (x.1.drop x.2.toNat) := by
  have := h.1
  rw [qlen_found h.2.2 (by rw [drop1_get h0 h.1]; exact hc) (by simp [isQ]; omega)]; omega
theorem qI_bad {x : List UInt8 × Int} {i : Int} {c d : UInt8} (h0 : 0 ≤ x.2) (h : qI x i) (hq : (c.toNat : Int) ≠ 39) (hc : x.1[i.toNat]? = some c) (hp : isPln d = false) (hd : x.1[i.toNat]? = some d) : 0 = (qlen (x.1.drop x.2.toNat) : Int) := by
  rw [hc] at hd; cases hd
  rw [qlen_bad h.2.2 (by rw [drop1_get h0 h.1]; exact hc) (by simp [isQ]; omega) hp]; rfl
theorem qI_next {x : List UInt8 × Int} {i : Int} {c d : UInt8} (h0 : 0 ≤ x.2) (h : qI x i) (hl : i < x.1.length) (hq : (c.toNat : Int) ≠ 39) (hc : x.1[i.toNat]? = some c) (hp : isPln d = true) (hd : x.1[i.toNat]? = some d) : qI x (i + 1) := by
  rw [hc] at hd; cases hd
  have := h.1
  exact ⟨by omega, .inl (by omega), all_next (p := fun e => isQ e = false ∧ isPln e = true) h.2.2 (by rw [drop1_get h0 h.1]; exact hc) ⟨by simp [isQ]; omega, hp⟩ (by omega)⟩
theorem qI_end {x : List UInt8 × Int} {i : Int} (h0 : 0 ≤ x.2) (h : qI x i) (hl : ¬ i < x.1.length) : 0 = (qlen (x.1.drop x.2.toNat) : Int) := by
  rw [qlen_end h.2.2 (by simp; omega)]; rfl
def nI (x : List UInt8 × Int) (i : Int) : Prop := (x.2 ≤ i ∧ i ≤ x.1.length) ∧ (x.1.drop x.2.toNat).take 2 = [47, 47] ∧ ∀ e ∈ (x.1.drop x.2.toNat).take (i - x.2).toNat, notNl e = true ∧ isPln e = true
theorem nI_pre {x : List UInt8 × Int} (h0 : 0 ≤ x.2) : List.drop x.2.toNat (List.take (x.2 + 2).toNat x.1) = (x.1.drop x.2.toNat).take 2 := by
  rw [List.drop_take]; congr 1; omega
theorem nI_0 {x : List UInt8 × Int} (h0 : 0 ≤ x.2) (hl : x.2 ≤ x.1.length) (h : (List.drop x.2.toNat (List.take (x.2 + 2).toNat x.1) == [47, 47]) = true) : nI x x.2 := by
  rw [nI_pre h0] at h
  refine ⟨⟨by omega, hl⟩, by simpa using h, fun e he => ?_⟩
  rw [show (x.2 - x.2).toNat = 0 by omega] at he; simp at he
theorem nI_no {x : List UInt8 × Int} (h0 : 0 ≤ x.2) (h : (List.drop x.2.toNat (List.take (x.2 + 2).toNat x.1) == [47, 47]) = false) : 0 = (nlen (x.1.drop x.2.toNat) : Int) := by
  rw [nI_pre h0] at h
  rw [nlen_no (by simpa using h)]; rfl
theorem nI_short {x : List UInt8 × Int} (h0 : 0 ≤ x.2) (h : x.2 + 2 > x.1.length) : 0 = (nlen (x.1.drop x.2.toNat) : Int) := by
  rw [nlen_no]
  · rfl
  · intro e; have := congrArg List.length e; simp at this; omega
theorem nI_bad {x : List UInt8 × Int} {i : Int} {c d : UInt8} (h0 : 0 ≤ x.2) (h : nI x i) (hn : (c.toNat : Int) ≠ 10) (hc : x.1[i.toNat]? = some c) (hp : isPln d = false) (hd : x.1[i.toNat]? = some d) : 0 = (nlen (x.1.drop x.2.toNat) : Int) := by
  rw [hc] at hd; cases hd
  rw [nlen_bad h.2.1 h.2.2 (by rw [drop0_get h0 h.1.1]; exact hc) (by simp [notNl]; omega) hp]; rfl
theorem nI_next {x : List UInt8 × Int} {i : Int} {c d : UInt8} (h0 : 0 ≤ x.2) (h : nI x i) (hl : i < x.1.length) (hn : (c.toNat : Int) ≠ 10) (hc : x.1[i.toNat]? = some c) (hp : isPln d = true) (hd : x.1[i.toNat]? = some d) : nI x (i + 1) := by
  rw [hc] at hd; cases hd
  have := h.1
  exact ⟨by omega, h.2.1, all_next (p := fun e => notNl e = true ∧ isPln e = true) h.2.2 (by rw [drop0_get h0 h.1.1]; exact hc) ⟨by simp [notNl]; omega, hp⟩ (by omega)⟩
theorem nI_stop {x : List UInt8 × Int} {i : Int} {c : UInt8} (h0 : 0 ≤ x.2) (h : nI x i) (hn : (c.toNat : Int) = 10) (hc : x.1[i.toNat]? = some c) : i - x.2 = (nlen (x.1.drop x.2.toNat) : Int) := by
  have := h.1
  have hl := (List.getElem?_eq_some_iff.1 hc).1
  rw [nlen_end h.2.1 h.2.2 (.inr ⟨c, by rw [drop0_get h0 h.1.1]; exact hc, by simp [notNl]; omega⟩) (by simp; omega)]; omega
theorem nI_end {x : List UInt8 × Int} {i : Int} (h0 : 0 ≤ x.2) (h : nI x i) (hl : ¬ i < x.1.length) : i - x.2 = (nlen (x.1.drop x.2.toNat) : Int) := by
  have := h.1
  rw [nlen_end h.2.1 h.2.2 (.inl (by simp; omega)) (by simp; omega)]; omega
def nmI (x : List UInt8) (i : Int) : Prop := (0 ≤ i ∧ i ≤ x.length) ∧ (inn x.length 1 30 = true ∧ isFst (x.headD 0) = true ∧ kw x = false) ∧ ∀ e ∈ x.take i.toNat, isInn e = true
theorem nameOk_eq {x : List UInt8} : nameOk x = true ↔ (inn x.length 1 30 = true ∧ isFst (x.headD 0) = true ∧ kw x = false) ∧ x.all isInn = true := by
  unfold nameOk
  rw [sg_name]
  cases x with
  | nil => simp [inn]
  | cons c t =>
    simp only [inn, Bool.and_eq_true, decide_eq_true_eq, Bool.not_eq_true', List.headD_cons, List.length_cons]
    constructor
    · rintro ⟨⟨h1, h2, h3⟩, h4⟩; exact ⟨⟨⟨by omega, by omega⟩, h1, h4⟩, h2⟩
    · rintro ⟨⟨⟨h1, h2⟩, h3, h4⟩, h5⟩; exact ⟨⟨h3, h5, by omega⟩, h4⟩
theorem head_of {x : List UInt8} {c : UInt8} (h : x[0]? = some c) : x.headD 0 = c := by cases x <;> simp_all
theorem nmI_no {x : List UInt8} (h : ¬ (inn x.length 1 30 = true ∧ isFst (x.headD 0) = true ∧ kw x = false)) : false = nameOk x := by
  symm; rw [Bool.eq_false_iff]; intro hn; exact h (nameOk_eq.1 hn).1
theorem nmI_0 {x : List UInt8} (h : inn x.length 1 30 = true) (h1 : isFst (x.headD 0) = true) (h2 : kw x = false) : nmI x 0 := ⟨by omega, ⟨h, h1, h2⟩, fun e he => by simp at he⟩
theorem nmI_next {x : List UInt8} {i : Int} {c : UInt8} (h : nmI x i) (hc : x[i.toNat]? = some c) (hl : i < x.length) (hp : isInn c = true) : nmI x (i + 1) := by
  have := h.1
  exact ⟨by omega, h.2.1, all_next (p := fun e => isInn e = true) h.2.2 hc hp (by omega)⟩
theorem nmI_bad {x : List UInt8} {i : Int} {c : UInt8} (h : nmI x i) (hc : x[i.toNat]? = some c) (hp : isInn c = false) : false = nameOk x := by
  symm; rw [Bool.eq_false_iff]; intro hn
  have := (nameOk_eq.1 hn).2
  rw [not_all hc hp] at this; cases this
theorem nmI_end {x : List UInt8} {i : Int} (h : nmI x i) (hl : ¬ i < x.length) : true = nameOk x := by
  symm; rw [nameOk_eq]; exact ⟨h.2.1, all_of_take h.2.2 (by omega)⟩
theorem q_yes {x : List UInt8} {c : UInt8} (h1 : (x.length : Int) > 1) (hq : (c.toNat : Int) = 39) (h : x[0]? = some c) : ((qlen x : Int) == (x.length : Int)) = isSgn x 3 := by
  cases x with
  | nil => cases h
  | cons d t =>
    have : d = c := by simpa using h
    subst this
    have e : isQ d = true := by simp [isQ]; omega
    rw [sg_quot, Bool.eq_iff_iff]
    simp [e] at h1 ⊢; omega
theorem q_no {x : List UInt8} {c : UInt8} (hq : (c.toNat : Int) ≠ 39) (h : x[0]? = some c) : false = isSgn x 3 := by
  cases x with
  | nil => cases h
  | cons d t =>
    have : d = c := by simpa using h
    subst this
    have e : isQ d = false := by simp [isQ]; omega
    rw [sg_quot]; simp [e]
theorem q_short {x : List UInt8} (h1 : ¬ (x.length : Int) > 1) : false = isSgn x 3 := by
  rw [sg_quot]
  cases x with
  | nil => rfl
  | cons d t =>
    have : decide (1 < (d :: t).length) = false := decide_eq_false (by omega)
    simp only [this, Bool.false_and, Bool.and_false]
theorem n_yes {x : List UInt8} (h1 : (x.length : Int) > 1) (h2 : (nlen x : Int) = x.length) : (trimR x == x) = isSgn x 5 := by
  rw [sg_note]
  have e1 : decide (1 < x.length) = true := decide_eq_true (by omega)
  have e2 : decide (nlen x = x.length) = true := decide_eq_true (by omega)
  simp [e1, e2]
theorem n_no {x : List UInt8} (h2 : (nlen x : Int) ≠ x.length) : false = isSgn x 5 := by
  rw [sg_note]
  have e2 : decide (nlen x = x.length) = false := decide_eq_false (by omega)
  simp only [e2, Bool.false_and, Bool.and_false]
theorem n_short {x : List UInt8} (h1 : ¬ (x.length : Int) > 1) : false = isSgn x 5 := by
  rw [sg_note]
  have e2 : decide (1 < x.length) = false := decide_eq_false (by omega)
  simp only [e2, Bool.false_and]
end Go.My
end
section
set_option linter.unusedVariables false
set_option linter.unusedSimpArgs false
namespace Go.My
open Go.Eng Go.Proofs
variable {G : GInv}
def s_iKw  : Sig := { X := List UInt8, args := fun x => [.str x], pre := fun x => True, Y := Unit, post := fun x y => True, res := fun x y => .bool (kw x), outs := fun x y => [.top], keep := false }
theorem iKw_ok  : Contract G Tryz.prog 160 s_iKw :=
  vcFun_okP [] [] false (fun x => []) Tryz.func160 rfl (by decide) trivial (fun (x : List UInt8) => (∀ (y : Unit), True → True ∧ True ∧ True) ∧ bcase (x == #[(99 : UInt8), (108 : UInt8), (97 : UInt8), (115 : UInt8), (115 : UInt8)].toList) (rA s_iKw x [.bool true, .top]) (bcase (x == #[(118 : UInt8), (97 : UInt8), (114 : UInt8)].toList) (rA s_iKw x [.bool true, .top]) (bcase (x == #[(105 : UInt8), (102 : UInt8)].toList) (rA s_iKw x [.bool true, .top]) (bcase (x == #[(101 : UInt8), (108 : UInt8), (115 : UInt8), (101 : UInt8)].toList) (rA s_iKw x [.bool true, .top]) (bcase (x == #[(119 : UInt8), (104 : UInt8), (105 : UInt8), (108 : UInt8), (101 : UInt8)].toList) (rA s_iKw x [.bool true, .top]) (bcase (x == #[(114 : UInt8), (101 : UInt8), (116 : UInt8), (117 : UInt8), (114 : UInt8), (110 : UInt8)].toList) (rA s_iKw x [.bool true, .top]) (rA s_iKw x [.bool false, .top]))))))) (fun x => by kernel_rfl) fun (x : List UInt8) (hx : True) => (by
  dsimp only [rA, s_iKw, hndL, hnd1]
  (repeat' first | (with_reducible first | rfl | exact True.intro | apply inR_i64 | apply And.intro | ((first | apply bcase_dec | apply bcase_bne | apply bcase_beq | apply bcase_not) <;> intro _)) | (apply bcase_intro <;> intro _) | apply sl_eq | refine ex_flip () ?_ ?_ | ((first | apply ex_flip10 | apply ex_flip9 | apply ex_flip8 | apply ex_flip7 | apply ex_flip6 | apply ex_flip5 | apply ex_flip4 | apply ex_flip3 | apply ex_flip2) <;> try dsimp only) | apply ex_flip | (refine Prod.forall.2 ?_; intro _; try dsimp only) | (intro _; try dsimp only)) <;> (try dsimp only at *) <;> (try simp only [i64max, List.length_cons, List.length_nil]) <;> (try omega)
  all_goals simp [kw, *])
def s_sKw  : Sig := { X := List UInt8, args := fun x => [.str x], pre := fun x => True, Y := Unit, post := fun x y => True, res := fun x y => .bool (kw x), outs := fun x y => [.top], keep := false }
theorem sKw_ok  : Contract G Tryz.prog 105 s_sKw :=
  vcFun_okP [] [] false (fun x => []) Tryz.func105 rfl (by decide) trivial (fun (x : List UInt8) => (∀ (y : Unit), True → True ∧ True ∧ True) ∧ bcase (x == #[(99 : UInt8), (108 : UInt8), (97 : UInt8), (115 : UInt8), (115 : UInt8)].toList) (rA s_sKw x [.bool true, .top]) (bcase (x == #[(118 : UInt8), (97 : UInt8), (114 : UInt8)].toList) (rA s_sKw x [.bool true, .top]) (bcase (x == #[(105 : UInt8), (102 : UInt8)].toList) (rA s_sKw x [.bool true, .top]) (bcase (x == #[(101 : UInt8), (108 : UInt8), (115 : UInt8), (101 : UInt8)].toList) (rA s_sKw x [.bool true, .top]) (bcase (x == #[(119 : UInt8), (104 : UInt8), (105 : UInt8), (108 : UInt8), (101 : UInt8)].toList) (rA s_sKw x [.bool true, .top]) (bcase (x == #[(114 : UInt8), (101 : UInt8), (116 : UInt8), (117 : UInt8), (114 : UInt8), (110 : UInt8)].toList) (rA s_sKw x [.bool true, .top]) (rA s_sKw x [.bool false, .top]))))))) (fun x => by kernel_rfl) fun (x : List UInt8) (hx : True) => (by
  dsimp only [rA, s_sKw, hndL, hnd1]
  (repeat' first | (with_reducible first | rfl | exact True.intro | apply inR_i64 | apply And.intro | ((first | apply bcase_dec | apply bcase_bne | apply bcase_beq | apply bcase_not) <;> intro _)) | (apply bcase_intro <;> intro _) | apply sl_eq | refine ex_flip () ?_ ?_ | ((first | apply ex_flip10 | apply ex_flip9 | apply ex_flip8 | apply ex_flip7 | apply ex_flip6 | apply ex_flip5 | apply ex_flip4 | apply ex_flip3 | apply ex_flip2) <;> try dsimp only) | apply ex_flip | (refine Prod.forall.2 ?_; intro _; try dsimp only) | (intro _; try dsimp only)) <;> (try dsimp only at *) <;> (try simp only [i64max, List.length_cons, List.length_nil]) <;> (try omega)
  all_goals simp [kw, *])
theorem mk1_has {c : UInt8} : decide (idxI mk1 c ≥ 0) = mk1.elem c := by
  unfold idxI
  cases h : idxOf (fun d => decide (d.toNat = c.toNat)) mk1 with
  | none =>
    have := idxOf_none.1 h
    symm
    simp only [Int.reduceNeg, ge_iff_le, Int.reduceLE, decide_false]
    rw [Bool.eq_false_iff]
    intro h2
    have h3 := this c (by simpa using h2)
    simp at h3
  | some i =>
    obtain ⟨_, e, he, hq⟩ := idxOf_some.1 h
    have h3 : e = c := by simpa [UInt8.toNat_inj] using hq
    subst h3
    have := List.mem_of_getElem? he
    simp [this]
def s_markOk  : Sig := { X := List UInt8, args := fun x => [.str x], pre := fun x => x.length < 2 ^ 63, Y := Unit, post := fun x y => True, res := fun x y => .bool (markOk x), outs := fun x y => [.top], keep := false }
theorem markOk_ok  : Contract G Tryz.prog 91 s_markOk :=
  vcFun_okP [(114, 0, s_sHas)] [] false (fun x => []) Tryz.func91 rfl (by decide) ⟨sHas_ok, trivial⟩ (fun (x : List UInt8) => (∀ (y : Unit), True → True ∧ True ∧ True) ∧ bcase (x == #[(38 : UInt8), (38 : UInt8)].toList) (rA s_markOk x [.bool true, .top]) (bcase (x == #[(124 : UInt8), (124 : UInt8)].toList) (rA s_markOk x [.bool true, .top]) (bcase (x == #[(61 : UInt8), (61 : UInt8)].toList) (rA s_markOk x [.bool true, .top]) (bcase (x == #[(61 : UInt8), (62 : UInt8)].toList) (rA s_markOk x [.bool true, .top]) (bcase (x == #[(46 : UInt8), (46 : UInt8)].toList) (rA s_markOk x [.bool true, .top]) (bcase ((↑(List.length x) : Int) == (1 : Int)) (cA s_sHas [.str #[(40 : UInt8), (41 : UInt8), (123 : UInt8), (125 : UInt8), (91 : UInt8), (93 : UInt8), (59 : UInt8), (44 : UInt8), (46 : UInt8), (61 : UInt8), (43 : UInt8), (45 : UInt8), (42 : UInt8), (60 : UInt8), (63 : UInt8), (58 : UInt8)].toList, .str x] fun x_1 y => rA s_markOk x [.bool (decide (idxI x_1.1 (List.headD x_1.2 (0 : UInt8)) ≥ (0 : Int))), .top]) (rA s_markOk x [.bool false, .top]))))))) (fun x => by kernel_rfl) fun (x : List UInt8) (hx : x.length < 2 ^ 63) => (by
  dsimp only [cA, rA, s_markOk, s_sHas, hndL, hnd1, mvL, lnL, mvE, lnE]
  (repeat' first | (with_reducible first | rfl | exact True.intro | apply inR_i64 | apply And.intro | ((first | apply bcase_dec | apply bcase_bne | apply bcase_beq | apply bcase_not) <;> intro _)) | (apply bcase_intro <;> intro _) | apply sl_eq | refine ex_flip () ?_ ?_ | ((first | apply ex_flip10 | apply ex_flip9 | apply ex_flip8 | apply ex_flip7 | apply ex_flip6 | apply ex_flip5 | apply ex_flip4 | apply ex_flip3 | apply ex_flip2) <;> try dsimp only) | apply ex_flip | (refine Prod.forall.2 ?_; intro _; try dsimp only) | (intro _; try dsimp only)) <;> (try dsimp only at *) <;> (try simp only [i64max, List.length_cons, List.length_nil]) <;> (try omega)
  · rename_i h; simp [markOk, mk2, h]
  · rename_i h; simp [markOk, mk2, h]
  · rename_i h; simp [markOk, mk2, h]
  · rename_i h; simp [markOk, mk2, h]
  · rename_i h; simp [markOk, mk2, h]
  · rename_i h1 h2 h3 h4 h5 h _ _
    have h : x.length = 1 := by omega
    match x, h with
    | [c], _ => exact mk1_has.trans (by simp [markOk, mk2])
  · rename_i h1 h2 h3 h4 h5 h
    symm; simp only [markOk, mk2, Bool.or_eq_false_iff, beq_eq_false_iff_ne]
    refine ⟨⟨h1, h2, h3, h4, h5⟩, ?_⟩
    split
    · simp at h
    · rfl)
def s_trimB  : Sig := { X := List UInt8, args := fun x => [.str x, .int .u8 32], pre := fun x => x.length < 2 ^ 63, Y := Unit, post := fun x y => True, res := fun x y => .str (trimR x), outs := fun x y => [.top, .top], keep := false }
def i_trimB  (x : List UInt8) : LS := { ι := List UInt8, inv := fun s => s.length ≤ x.length ∧ trimR s = trimR x, regs := fun s => [(0, .str s), (1, .int .u8 32)], als := [], meas := fun s => s.length }
theorem trimB_ok  : Contract G Tryz.prog 146 s_trimB :=
  vcFun_okP [] [] false (fun x => [(1, i_trimB  x)]) Tryz.func146 rfl (by decide) trivial (fun (x : List UInt8) => (∀ (y : Unit), True → True ∧ True ∧ True ∧ True) ∧ eA (i_trimB x) [.str x, AV.int IntKind.u8 (32 : Int)] ∧ ∀ (i : List UInt8), List.length i ≤ List.length x ∧ trimR i = trimR x → bcase (decide ((↑(List.length i) : Int) > (0 : Int))) (inR IntKind.i64 ((↑(List.length i) : Int) - (1 : Int)) ∧ ((0 : Int) ≤ (↑(List.length i) : Int) - (1 : Int) ∧ (↑(List.length i) : Int) - (1 : Int) < (↑(List.length i) : Int)) ∧ ∀ (c : UInt8), i[Int.toNat ((↑(List.length i) : Int) - (1 : Int))]? = some c → bcase ((↑(UInt8.toNat c) : Int) == (32 : Int)) (inR IntKind.i64 ((↑(List.length i) : Int) - (1 : Int)) ∧ ((0 : Int) ≤ (0 : Int) ∧ (0 : Int) ≤ (↑(List.length i) : Int) - (1 : Int) ∧ (↑(List.length i) : Int) - (1 : Int) ≤ (↑(List.length i) : Int)) ∧ eN (i_trimB x) i [.str (List.take (Int.toNat ((↑(List.length i) : Int) - (1 : Int))) i), AV.int IntKind.u8 (32 : Int)]) (rA s_trimB x [.str i, .top, .top])) (rA s_trimB x [.str i, .top, .top])) (fun x => by kernel_rfl) fun (x : List UInt8) (hx : x.length < 2 ^ 63) => (by
  dsimp only [eA, eN, i_trimB, rA, s_trimB, hndL, hnd1, sndL]
  (repeat' first | (with_reducible first | rfl | exact True.intro | apply inR_i64 | apply And.intro | ((first | apply bcase_dec | apply bcase_bne | apply bcase_beq | apply bcase_not) <;> intro _)) | (apply bcase_intro <;> intro _) | apply sl_eq | refine ex_flip () ?_ ?_ | ((first | apply ex_flip10 | apply ex_flip9 | apply ex_flip8 | apply ex_flip7 | apply ex_flip6 | apply ex_flip5 | apply ex_flip4 | apply ex_flip3 | apply ex_flip2) <;> try dsimp only) | apply ex_flip | (refine Prod.forall.2 ?_; intro _; try dsimp only) | (intro _; try dsimp only)) <;> (try dsimp only at *) <;> (try simp only [i64max, List.length_cons, List.length_nil]) <;> (try omega)
  · rename_i s hs h c hc h2; simp; omega
  · rename_i s hs h c hc h2; simp; omega
  · rename_i s hs h c hc h2
    have e : ((s.length : Int) - 1).toNat = s.length - 1 := by omega
    rw [e] at hc ⊢
    rw [← hs.2, trimR_last hc, if_pos (by omega)]
  · rename_i s hs h c hc h2
    have e : ((s.length : Int) - 1).toNat = s.length - 1 := by omega
    rw [e] at hc
    rw [← hs.2, trimR_last hc, if_neg (by omega)]
  · rename_i s hs h
    have : s = [] := List.length_eq_zero_iff.1 (by omega)
    rw [← hs.2, this]; rfl)
def s_trimS  : Sig := { X := List UInt8, args := fun x => [.str x, .str [32]], pre := fun x => x.length < 2 ^ 63, Y := Unit, post := fun x y => True, res := fun x y => .str (trimR x), outs := fun x y => [.top, .top], keep := false }
theorem trimS_ok  : Contract G Tryz.prog 113 s_trimS :=
  vcFun_okP [(146, 0, s_trimB)] [] false (fun x => []) Tryz.func113 rfl (by decide) ⟨trimB_ok, trivial⟩ (fun (x : List UInt8) => (∀ (y : Unit), True → True ∧ True ∧ True ∧ True) ∧ bcase (x == #[].toList) (rA s_trimS x [.str x, .top, .top]) (((0 : Int) ≤ (0 : Int) ∧ (0 : Int) < (↑(1 : Nat) : Int)) ∧ ∀ (c : UInt8), [(32 : UInt8)][(0 : Nat)]? = some c → bcase (decide ((↑(UInt8.toNat c) : Int) < (128 : Int))) (((0 : Int) ≤ (0 : Int) ∧ (0 : Int) < (↑(1 : Nat) : Int)) ∧ ∀ (c : UInt8), [(32 : UInt8)][(0 : Nat)]? = some c → cA s_trimB [.str x, AV.int IntKind.u8 (↑(UInt8.toNat c) : Int)] fun x_1 y => rA s_trimS x [.str (trimR x_1), .top, .top]) False)) (fun x => by kernel_rfl) fun (x : List UInt8) (hx : x.length < 2 ^ 63) => (by
  dsimp only [cA, rA, s_trimB, s_trimS, hndL, hnd1, mvL, lnL, mvE, lnE]
  refine ⟨fun _ _ => ⟨trivial, trivial, trivial, trivial⟩, bcase_beq (fun h => ⟨(), trivial, by rw [h]; rfl, trivial⟩) (fun h => ⟨by omega, fun c hc => ?_⟩)⟩
  have hc : 32 = c := by simpa using hc
  subst hc
  refine bcase_dec (fun _ => ⟨by omega, fun c hc => ?_⟩) (fun h => (h (by decide)).elim)
  have hc : 32 = c := by simpa using hc
  subst hc
  exact ⟨x, hx, rfl, rfl, fun _ _ => ⟨(), trivial, rfl, trivial⟩⟩)
def s_iTrim  : Sig := { X := List UInt8, args := fun x => [.str x], pre := fun x => x.length < 2 ^ 63, Y := Unit, post := fun x y => True, res := fun x y => .str (trimR x), outs := fun x y => [.top], keep := false }
theorem iTrim_ok  : Contract G Tryz.prog 89 s_iTrim :=
  vcFun_okP [(113, 0, s_trimS)] [] false (fun x => []) Tryz.func89 rfl (by decide) ⟨trimS_ok, trivial⟩ (fun (x : List UInt8) => (∀ (y : Unit), True → True ∧ True ∧ True) ∧ cA s_trimS [.str x, .str #[(32 : UInt8)].toList] fun x_1 y => rA s_iTrim x [.str (trimR x_1), .top]) (fun x => by kernel_rfl) fun (x : List UInt8) (hx : x.length < 2 ^ 63) => (by
  dsimp only [cA, rA, s_iTrim, s_trimS, hndL, hnd1, mvL, lnL, mvE, lnE]
  (repeat' first | (with_reducible first | rfl | exact True.intro | apply inR_i64 | apply And.intro | ((first | apply bcase_dec | apply bcase_bne | apply bcase_beq | apply bcase_not) <;> intro _)) | (apply bcase_intro <;> intro _) | apply sl_eq | refine ex_flip () ?_ ?_ | ((first | apply ex_flip10 | apply ex_flip9 | apply ex_flip8 | apply ex_flip7 | apply ex_flip6 | apply ex_flip5 | apply ex_flip4 | apply ex_flip3 | apply ex_flip2) <;> try dsimp only) | apply ex_flip | (refine Prod.forall.2 ?_; intro _; try dsimp only) | (intro _; try dsimp only)) <;> (try dsimp only at *) <;> (try simp only [i64max, List.length_cons, List.length_nil]) <;> (try omega))
def s_sTrim  : Sig := { X := List UInt8, args := fun x => [.str x], pre := fun x => x.length < 2 ^ 63, Y := Unit, post := fun x y => True, res := fun x y => .str (trimR x), outs := fun x y => [.top], keep := false }
def i_sTrim  (x : List UInt8) : LS := { ι := Int, inv := fun i => 0 ≤ i ∧ i ≤ x.length ∧ trimR (x.take i.toNat) = trimR x, regs := fun i => [(0, .str x), (3, .int .i64 i)], als := [], meas := fun i => i.toNat }
theorem sTrim_ok  : Contract G Tryz.prog 77 s_sTrim :=
  vcFun_okP [] [] false (fun x => [(2, i_sTrim  x)]) Tryz.func77 rfl (by decide) trivial (fun (x : List UInt8) => (∀ (y : Unit), True → True ∧ True ∧ True) ∧ eA (i_sTrim x) [.str x, .int .i64 (↑(List.length x) : Int)] ∧ ∀ (i : Int), (0 : Int) ≤ i ∧ i ≤ (↑(List.length x) : Int) ∧ trimR (List.take (Int.toNat i) x) = trimR x → bcase (decide (i > (0 : Int))) (inR IntKind.i64 (i - (1 : Int)) ∧ ((0 : Int) ≤ i - (1 : Int) ∧ i - (1 : Int) < (↑(List.length x) : Int)) ∧ ∀ (c : UInt8), x[Int.toNat (i - (1 : Int))]? = some c → bcase ((↑(UInt8.toNat c) : Int) == (32 : Int)) (inR IntKind.i64 (i - (1 : Int)) ∧ eN (i_sTrim x) i [.str x, .int .i64 (i - (1 : Int))]) (((0 : Int) ≤ (0 : Int) ∧ (0 : Int) ≤ i ∧ i ≤ (↑(List.length x) : Int)) ∧ rA s_sTrim x [.str (List.take (Int.toNat i) x), .top])) (((0 : Int) ≤ (0 : Int) ∧ (0 : Int) ≤ i ∧ i ≤ (↑(List.length x) : Int)) ∧ rA s_sTrim x [.str (List.take (Int.toNat i) x), .top])) (fun x => by kernel_rfl) fun (x : List UInt8) (hx : x.length < 2 ^ 63) => (by
  dsimp only [eA, eN, i_sTrim, rA, s_sTrim, hndL, hnd1, sndL]
  (repeat' first | (with_reducible first | rfl | exact True.intro | apply inR_i64 | apply And.intro | ((first | apply bcase_dec | apply bcase_bne | apply bcase_beq | apply bcase_not) <;> intro _)) | (apply bcase_intro <;> intro _) | apply sl_eq | refine ex_flip () ?_ ?_ | ((first | apply ex_flip10 | apply ex_flip9 | apply ex_flip8 | apply ex_flip7 | apply ex_flip6 | apply ex_flip5 | apply ex_flip4 | apply ex_flip3 | apply ex_flip2) <;> try dsimp only) | apply ex_flip | (refine Prod.forall.2 ?_; intro _; try dsimp only) | (intro _; try dsimp only)) <;> (try dsimp only at *) <;> (try simp only [i64max, List.length_cons, List.length_nil]) <;> (try omega)
  · simp
  · rename_i i hi h c hc h2
    rw [← hi.2.2, show i.toNat = (i - 1).toNat + 1 by omega, trimR_take_succ hc, if_pos (by omega)]
  · rename_i i hi h c hc h2
    have := hi.2.2
    rw [show i.toNat = (i - 1).toNat + 1 by omega, trimR_take_succ hc, if_neg (by omega)] at this
    rw [← this, show i.toNat = (i - 1).toNat + 1 by omega]
  · rename_i i hi h
    rw [← hi.2.2, show i.toNat = 0 by omega]; rfl)
theorem idxI_lt (s : List UInt8) (c : UInt8) : idxI s c = -1 ∨ (0 ≤ idxI s c ∧ idxI s c < s.length) := by
  unfold idxI
  split
  · exact .inl rfl
  · rename_i i h; have := idxOf_lt h; omega
theorem quoted_idx {s : List UInt8} : quoted s = if idxI (s.drop 1) 39 < 0 then ([], false) else (s.take (idxI (s.drop 1) 39 + 2).toNat, (s.take (idxI (s.drop 1) 39 + 2).toNat).all isPln) := by
  unfold quoted idxI
  have e : (fun c : UInt8 => decide (c.toNat = 39)) = fun d : UInt8 => decide (d.toNat = (39 : UInt8).toNat) := rfl
  rw [e]
  cases idxOf (fun d : UInt8 => decide (d.toNat = (39 : UInt8).toNat)) (s.drop 1) with
  | none => simp
  | some i =>
    have h1 : ¬ (i : Int) < 0 := by omega
    have h2 : ((i : Int) + 2).toNat = i + 2 := by omega
    simp only [if_neg h1, h2]
def s_quoted  : Sig := { X := List UInt8, args := fun x => [.str x], pre := fun x => 1 ≤ x.length ∧ x.length < 2 ^ 62, Y := Unit, post := fun x y => True, res := fun x y => .tup [.str (quoted x).1, .bool (quoted x).2], outs := fun x y => [.top], keep := false }
theorem quoted_ok  : Contract G Tryz.prog 86 s_quoted :=
  vcFun_okP [(111, 0, s_sIdxQ), (90, 0, s_isPlain)] [] false (fun x => []) Tryz.func86 rfl (by decide) ⟨sIdxQ_ok, isPlain_ok, trivial⟩ (fun (x : List UInt8) => (∀ (y : Unit), True → (True ∧ True ∧ True) ∧ True ∧ True) ∧ ((0 : Int) ≤ (1 : Int) ∧ (1 : Int) ≤ (↑(List.length x) : Int) ∧ (↑(List.length x) : Int) ≤ (↑(List.length x) : Int)) ∧ cA s_sIdxQ [.str (List.drop (1 : Nat) x), AV.int IntKind.u8 (39 : Int)] fun x_1 y => bcase (decide (idxI x_1 (39 : UInt8) < (0 : Int))) (rA s_quoted x [.tup [.str #[].toList, .bool false], .top]) (inR IntKind.i64 (idxI x_1 (39 : UInt8) + (2 : Int)) ∧ ((0 : Int) ≤ (0 : Int) ∧ (0 : Int) ≤ idxI x_1 (39 : UInt8) + (2 : Int) ∧ idxI x_1 (39 : UInt8) + (2 : Int) ≤ (↑(List.length x) : Int)) ∧ cA s_isPlain [.str (List.take (Int.toNat (idxI x_1 (39 : UInt8) + (2 : Int))) x)] fun x_2 y => rA s_quoted x [.tup [.str (List.take (Int.toNat (idxI x_1 (39 : UInt8) + (2 : Int))) x), .bool (List.all x_2 isPln)], .top])) (fun x => by kernel_rfl) fun (x : List UInt8) (hx : 1 ≤ x.length ∧ x.length < 2 ^ 62) => (by
  dsimp only [cA, rA, s_isPlain, s_quoted, s_sIdxQ, hndL, hnd1, mvL, lnL, mvE, lnE]
  obtain ⟨h1, h2⟩ := hx
  have hq := idxI_lt (x.drop 1) 39; have hl : (x.drop 1).length = x.length - 1 := by simp
  (repeat' first | (with_reducible first | rfl | exact True.intro | apply inR_i64 | apply And.intro | ((first | apply bcase_dec | apply bcase_bne | apply bcase_beq | apply bcase_not) <;> intro _)) | (apply bcase_intro <;> intro _) | apply sl_eq | refine ex_flip () ?_ ?_ | ((first | apply ex_flip10 | apply ex_flip9 | apply ex_flip8 | apply ex_flip7 | apply ex_flip6 | apply ex_flip5 | apply ex_flip4 | apply ex_flip3 | apply ex_flip2) <;> try dsimp only) | apply ex_flip | (refine Prod.forall.2 ?_; intro _; try dsimp only) | (intro _; try dsimp only)) <;> (try dsimp only at *) <;> (try simp only [i64max, List.length_cons, List.length_nil]) <;> (try omega)
  all_goals first
    | omega
    | (rw [quoted_idx, if_neg ‹¬ idxI _ 39 < 0›]; done)
    | (rw [quoted_idx, if_pos ‹idxI _ 39 < 0›]; done)
    | (simp; omega))
def s_signAt  : Sig := { X := List UInt8, args := fun x => [.str x], pre := fun x => 1 ≤ x.length ∧ x.length < 2 ^ 62, Y := Unit, post := fun x y => True, res := fun x y => .tup [.int .i64 (sgAt x).kind, .str (sgAt x).text, .int .i64 (sgAt x).size, .bool (sgAt x).ok], outs := fun x y => [.top], keep := false }
def i_signAt  (x : List UInt8) : LS := { ι := Int, inv := fun i => sgInv x i, regs := fun i => [(0, .str x), (12, .int .i64 i)], als := [], meas := fun i => i.toNat }
theorem signAt_ok  : Contract G Tryz.prog 50 s_signAt :=
  vcFun_okP [(82, 0, s_isFirst), (83, 84 + 1, s_runI), (85, 0, s_isFigure), (83, 85 + 1, s_runF), (86, 0, s_quoted), (87, 0, s_sPre), (83, 88 + 1, s_runN), (89, 0, s_iTrim), (90, 0, s_isPlain), (91, 0, s_markOk)] [] false (fun x => [(15, i_signAt  x)]) Tryz.func50 rfl (by decide) ⟨isFirst_ok, runI_ok, isFigure_ok, runF_ok, quoted_ok, sPre_ok, runN_ok, iTrim_ok, isPlain_ok, markOk_ok, trivial⟩ (fun (x : List UInt8) => (∀ (y : Unit), True → (True ∧ True ∧ True ∧ True ∧ True) ∧ True ∧ True) ∧ ((0 : Int) ≤ (0 : Int) ∧ (0 : Int) < (↑(List.length x) : Int)) ∧ ∀ (c : UInt8), x[(0 : Nat)]? = some c → cA s_isFirst [AV.int IntKind.u8 (↑(UInt8.toNat c) : Int)] fun x_1 y => bcase (isFst x_1) (cA s_runI [.str x, AV.clo (Fn.func (84 : Nat)) []] fun x_2 y => rA s_signAt x [.tup [.int .i64 (1 : Int), .str (List.takeWhile isInn x_2), .int .i64 (↑(List.length (List.takeWhile isInn x_2)) : Int), .bool (decide ((↑(List.length (List.takeWhile isInn x_2)) : Int) ≤ (30 : Int)))], .top]) (cA s_isFigure [AV.int IntKind.u8 (↑(UInt8.toNat c) : Int)] fun x_2 y => bcase (isFig x_2) (cA s_runF [.str x, AV.clo (Fn.func (85 : Nat)) []] fun x_3 y => rA s_signAt x [.tup [.int .i64 (2 : Int), .str (List.takeWhile isFig x_3), .int .i64 (↑(List.length (List.takeWhile isFig x_3)) : Int), .bool (decide ((↑(List.length (List.takeWhile isFig x_3)) : Int) ≤ (12 : Int)))], .top]) (bcase ((↑(UInt8.toNat c) : Int) == (39 : Int)) (cA s_quoted [.str x] fun x_3 y => rA s_signAt x [.tup [.int .i64 (3 : Int), .str (quoted x_3).1, .int .i64 (↑(List.length (quoted x_3).1) : Int), .bool (quoted x_3).2], .top]) (cA s_sPre [.str x, .str #[(47 : UInt8), (47 : UInt8)].toList] fun x_3 y => bcase (List.take (List.length x_3.2) x_3.1 == x_3.2) (cA s_runN [.str x, AV.clo (Fn.func (88 : Nat)) []] fun x_4 y => cA s_iTrim [.str (List.takeWhile notNl x_4)] fun x_5 y => cA s_isPlain [.str (List.takeWhile notNl x_4)] fun x_6 y => rA s_signAt x [.tup [.int .i64 (5 : Int), .str (trimR x_5), .int .i64 (↑(List.length (List.takeWhile notNl x_4)) : Int), .bool (List.all x_6 isPln)], .top]) (eA (i_signAt x) [.str x, .int .i64 (min (2 : Int) (↑(List.length x) : Int))] ∧ ∀ (i : Int), sgInv x i → bcase (decide (i > (0 : Int))) (((0 : Int) ≤ (0 : Int) ∧ (0 : Int) ≤ i ∧ i ≤ (↑(List.length x) : Int)) ∧ cA s_markOk [.str (List.take (Int.toNat i) x)] fun x_4 y => bcase (markOk x_4) (true = true ∧ true = true ∧ ((0 : Int) ≤ (0 : Int) ∧ (0 : Int) ≤ i ∧ i ≤ (↑(List.length x) : Int)) ∧ rA s_signAt x [.tup [.int .i64 (4 : Int), .str (List.take (Int.toNat i) x), .int .i64 i, .bool true], .top]) (inR IntKind.i64 (i - (1 : Int)) ∧ eN (i_signAt x) i [.str x, .int .i64 (i - (1 : Int))])) (rA s_signAt x [.tup [.int .i64 (0 : Int), .str #[].toList, .int .i64 (0 : Int), .bool false], .top])))))) (fun x => by kernel_rfl) fun (x : List UInt8) (hx : 1 ≤ x.length ∧ x.length < 2 ^ 62) => (by
  dsimp only [cA, eA, eN, i_signAt, rA, s_iTrim, s_isFigure, s_isFirst, s_isPlain, s_markOk, s_quoted, s_runF, s_runI, s_runN, s_sPre, s_signAt, hndL, hnd1, mvL, lnL, mvE, lnE, sndL]
  obtain ⟨h1, h2⟩ := hx
  have h3 : x.length < 9223372036854775808 := by omega
  match x, h1, h2, h3 with
  | b :: t, h1, h2, h3 =>
  (repeat' first | (with_reducible first | rfl | exact True.intro | apply inR_i64 | apply And.intro | ((first | apply bcase_dec | apply bcase_bne | apply bcase_beq | apply bcase_not) <;> intro _)) | (apply bcase_intro <;> intro _) | apply sl_eq | refine ex_flip () ?_ ?_ | ((first | apply ex_flip10 | apply ex_flip9 | apply ex_flip8 | apply ex_flip7 | apply ex_flip6 | apply ex_flip5 | apply ex_flip4 | apply ex_flip3 | apply ex_flip2) <;> try dsimp only) | apply ex_flip | (refine Prod.forall.2 ?_; intro _; try dsimp only) | (intro _; try dsimp only)) <;> (try dsimp only at *) <;> (try simp only [i64max, List.length_cons, List.length_nil]) <;> (try omega)
  all_goals (try simp only [List.getElem?_cons_zero, Option.some.injEq] at *)
  all_goals (try subst_vars)
  all_goals first
    | exact h3
    | (rw [sgAt1 (by assumption)]; done)
    | (rw [sgAt2 (by assumption) (by assumption)]; done)
    | (rw [sgAt3 (by assumption) (by assumption) (by assumption)]; done)
    | (rw [sgAt5 (by assumption) (by assumption) (by assumption) (by assumption)]; done)
    | (rw [sgInv_yes (by assumption) h1 (by assumption) (by assumption)]; done)
    | (rw [sgInv_no (by assumption) h1 (by assumption)]; done)
    | exact sgInv_next (by assumption) (by assumption) (by assumption)
    | exact sgInv_init (by assumption) (by assumption) (by omega) (by assumption)
    | exact Nat.lt_of_le_of_lt (List.takeWhile_prefix _).length_le h3
    | (have hI := (‹sgInv _ _› : sgInv _ _).1; rw [List.length_cons] at hI; omega)
    | (have hI := (‹sgInv _ _› : sgInv _ _).1; rw [List.length_take]; omega)
    | trace_state)
def s_isSign  : Sig := { X := List UInt8 × Int, args := fun x => [.str x.1, .int .i64 x.2], pre := fun x => x.1.length < 2 ^ 62, Y := Unit, post := fun x y => True, res := fun x y => .bool (isSgn x.1 x.2), outs := fun x y => [.top, .top], keep := false }
theorem isSign_ok  : Contract G Tryz.prog 123 s_isSign :=
  vcFun_okP [(50, 0, s_signAt)] [] false (fun x => []) Tryz.func123 rfl (by decide) ⟨signAt_ok, trivial⟩ (fun (x : List UInt8 × Int) => (∀ (y : Unit), True → True ∧ True ∧ True ∧ True) ∧ bcase (x.1 == #[].toList) (rA s_isSign x [.bool false, .top, .top]) (cA s_signAt [.str x.1] fun x_1 y => bcase (sgAt x_1).ok (bcase ((sgAt x_1).kind == x.2) (bcase ((sgAt x_1).text == x.1) (rA s_isSign x [.bool ((sgAt x_1).size == (↑(List.length x.1) : Int)), .top, .top]) (rA s_isSign x [.bool false, .top, .top])) (rA s_isSign x [.bool false, .top, .top])) (rA s_isSign x [.bool false, .top, .top]))) (fun x => by kernel_rfl) fun (x : List UInt8 × Int) (hx : x.1.length < 2 ^ 62) => (by
  dsimp only [cA, rA, s_isSign, s_signAt, hndL, hnd1, mvL, lnL, mvE, lnE]
  (repeat' first | (with_reducible first | rfl | exact True.intro | apply inR_i64 | apply And.intro | ((first | apply bcase_dec | apply bcase_bne | apply bcase_beq | apply bcase_not) <;> intro _)) | (apply bcase_intro <;> intro _) | apply sl_eq | refine ex_flip () ?_ ?_ | ((first | apply ex_flip10 | apply ex_flip9 | apply ex_flip8 | apply ex_flip7 | apply ex_flip6 | apply ex_flip5 | apply ex_flip4 | apply ex_flip3 | apply ex_flip2) <;> try dsimp only) | apply ex_flip | (refine Prod.forall.2 ?_; intro _; try dsimp only) | (intro _; try dsimp only)) <;> (try dsimp only at *) <;> (try simp only [i64max, List.length_cons, List.length_nil]) <;> (try omega)
  all_goals first
    | exact List.length_pos_iff.2 (by assumption)
    | (simp [isSgn, *]; done)
    | (rw [Bool.eq_iff_iff]; simp [isSgn, *]; done))
def s_isName  : Sig := { X := List UInt8, args := fun x => [.str x], pre := fun x => x.length < 2 ^ 62, Y := Unit, post := fun x y => True, res := fun x y => .bool (nameOk x), outs := fun x y => [.top], keep := false }
theorem isName_ok  : Contract G Tryz.prog 122 s_isName :=
  vcFun_okP [(123, 0, s_isSign), (160, 0, s_iKw)] [] false (fun x => []) Tryz.func122 rfl (by decide) ⟨isSign_ok, iKw_ok, trivial⟩ (fun (x : List UInt8) => (∀ (y : Unit), True → True ∧ True ∧ True) ∧ cA s_isSign [.str x, .int .i64 (1 : Int)] fun x_1 y => bcase (isSgn x_1.1 x_1.2) (cA s_iKw [.str x] fun x_2 y => rA s_isName x [.bool !kw x_2, .top]) (rA s_isName x [.bool false, .top])) (fun x => by kernel_rfl) fun (x : List UInt8) (hx : x.length < 2 ^ 62) => (by
  dsimp only [cA, rA, s_iKw, s_isName, s_isSign, hndL, hnd1, mvL, lnL, mvE, lnE]
  (repeat' first | (with_reducible first | rfl | exact True.intro | apply inR_i64 | apply And.intro | ((first | apply bcase_dec | apply bcase_bne | apply bcase_beq | apply bcase_not) <;> intro _)) | (apply bcase_intro <;> intro _) | apply sl_eq | refine ex_flip () ?_ ?_ | ((first | apply ex_flip10 | apply ex_flip9 | apply ex_flip8 | apply ex_flip7 | apply ex_flip6 | apply ex_flip5 | apply ex_flip4 | apply ex_flip3 | apply ex_flip2) <;> try dsimp only) | apply ex_flip | (refine Prod.forall.2 ?_; intro _; try dsimp only) | (intro _; try dsimp only)) <;> (try dsimp only at *) <;> (try simp only [i64max, List.length_cons, List.length_nil]) <;> (try omega)
  all_goals simp [nameOk, *])
def s_textFits  : Sig := { X := Nd, args := fun x => [.agg (ndA false x)], pre := fun x => x.text.length < 2 ^ 62, Y := Unit, post := fun x y => True, res := fun x y => .bool (textOk x.kind x.text), outs := fun x y => [.top], keep := false }
theorem textFits_ok  : Contract G Tryz.prog 97 s_textFits :=
  vcFun_okP [(123, 0, s_isSign), (122, 0, s_isName)] [] false (fun x => []) Tryz.func97 rfl (by decide) ⟨isSign_ok, isName_ok, trivial⟩ (fun (x : Nd) => (∀ (y : Unit), True → True ∧ True ∧ True) ∧ bcase (x.kind == (1 : Int)) (cA s_isName [.str x.text] fun x_1 y => rA s_textFits x [.bool (nameOk x_1), .top]) (bcase (x.kind == (6 : Int)) (cA s_isName [.str x.text] fun x_1 y => rA s_textFits x [.bool (nameOk x_1), .top]) (bcase (x.kind == (12 : Int)) (cA s_isName [.str x.text] fun x_1 y => rA s_textFits x [.bool (nameOk x_1), .top]) (bcase (x.kind == (13 : Int)) (cA s_isName [.str x.text] fun x_1 y => rA s_textFits x [.bool (nameOk x_1), .top]) (bcase (x.kind == (20 : Int)) (cA s_isName [.str x.text] fun x_1 y => rA s_textFits x [.bool (nameOk x_1), .top]) (bcase (x.kind == (21 : Int)) (cA s_isName [.str x.text] fun x_1 y => rA s_textFits x [.bool (nameOk x_1), .top]) (bcase (x.kind == (2 : Int)) (cA s_isSign [.str x.text, .int .i64 (2 : Int)] fun x_1 y => rA s_textFits x [.bool (isSgn x_1.1 x_1.2), .top]) (bcase (x.kind == (3 : Int)) (cA s_isSign [.str x.text, .int .i64 (3 : Int)] fun x_1 y => rA s_textFits x [.bool (isSgn x_1.1 x_1.2), .top]) (bcase (x.kind == (19 : Int)) (cA s_isSign [.str x.text, .int .i64 (5 : Int)] fun x_1 y => rA s_textFits x [.bool (isSgn x_1.1 x_1.2), .top]) (bcase (x.kind == (7 : Int)) (bcase (x.text == #[(38 : UInt8), (38 : UInt8)].toList) (rA s_textFits x [.bool true, .top]) (bcase (x.text == #[(124 : UInt8), (124 : UInt8)].toList) (rA s_textFits x [.bool true, .top]) (bcase (x.text == #[(61 : UInt8), (61 : UInt8)].toList) (rA s_textFits x [.bool true, .top]) (bcase (x.text == #[(60 : UInt8)].toList) (rA s_textFits x [.bool true, .top]) (bcase (x.text == #[(43 : UInt8)].toList) (rA s_textFits x [.bool true, .top]) (bcase (x.text == #[(45 : UInt8)].toList) (rA s_textFits x [.bool true, .top]) (bcase (x.text == #[(42 : UInt8)].toList) (rA s_textFits x [.bool true, .top]) (rA s_textFits x [.bool false, .top])))))))) (rA s_textFits x [.bool (x.text == #[].toList), .top]))))))))))) (fun x => by kernel_rfl) fun (x : Nd) (hx : x.text.length < 2 ^ 62) => (by
  dsimp only [cA, ndA_e, rA, s_isName, s_isSign, s_textFits, hndL, hnd1, mvL, lnL, mvE, lnE]
  (repeat' first | (with_reducible first | rfl | exact True.intro | apply inR_i64 | apply And.intro | ((first | apply bcase_dec | apply bcase_bne | apply bcase_beq | apply bcase_not) <;> intro _)) | (apply bcase_intro <;> intro _) | apply sl_eq | refine ex_flip () ?_ ?_ | ((first | apply ex_flip10 | apply ex_flip9 | apply ex_flip8 | apply ex_flip7 | apply ex_flip6 | apply ex_flip5 | apply ex_flip4 | apply ex_flip3 | apply ex_flip2) <;> try dsimp only) | apply ex_flip | (refine Prod.forall.2 ?_; intro _; try dsimp only) | (intro _; try dsimp only)) <;> (try dsimp only at *) <;> (try simp only [i64max, List.length_cons, List.length_nil]) <;> (try omega)
  all_goals simp [textOk, chainOk, *])
def s_l04Quoted  : Sig := { X := List UInt8 × Int, args := fun x => [.str x.1, .int .i64 x.2], pre := fun x => 0 ≤ x.2 ∧ x.2 ≤ x.1.length ∧ x.1.length < 2 ^ 62, Y := Unit, post := fun x y => True, res := fun x y => .int .i64 (qlen (x.1.drop x.2.toNat)), outs := fun x y => [.top, .top], keep := false }
def i_l04Quoted  (x : List UInt8 × Int) : LS := { ι := Int, inv := fun i => qI x i, regs := fun i => [(0, .str x.1), (1, .int .i64 x.2), (5, .int .i64 i)], als := [], meas := fun i => x.1.length - i.toNat }
theorem l04Quoted_ok  : Contract G Tryz.prog 80 s_l04Quoted :=
  vcFun_okP [(109, 0, s_l04Plain)] [] false (fun x => [(2, i_l04Quoted  x)]) Tryz.func80 rfl (by decide) ⟨l04Plain_ok, trivial⟩ (fun (x : List UInt8 × Int) => (∀ (y : Unit), True → True ∧ True ∧ True ∧ True) ∧ inR IntKind.i64 (x.2 + (1 : Int)) ∧ eA (i_l04Quoted x) [.str x.1, .int .i64 x.2, .int .i64 (x.2 + (1 : Int))] ∧ ∀ (i : Int), qI x i → bcase (decide (i < (↑(List.length x.1) : Int))) (((0 : Int) ≤ i ∧ i < (↑(List.length x.1) : Int)) ∧ ∀ (c : UInt8), x.1[Int.toNat i]? = some c → bcase ((↑(UInt8.toNat c) : Int) == (39 : Int)) (inR IntKind.i64 (i + (1 : Int)) ∧ inR IntKind.i64 (i + (1 : Int) - x.2) ∧ rA s_l04Quoted x [.int .i64 (i + (1 : Int) - x.2), .top, .top]) (((0 : Int) ≤ i ∧ i < (↑(List.length x.1) : Int)) ∧ ∀ (c : UInt8), x.1[Int.toNat i]? = some c → cA s_l04Plain [AV.int IntKind.u8 (↑(UInt8.toNat c) : Int)] fun x_1 y => bcase (!isPln x_1) (rA s_l04Quoted x [.int .i64 (0 : Int), .top, .top]) (inR IntKind.i64 (i + (1 : Int)) ∧ eN (i_l04Quoted x) i [.str x.1, .int .i64 x.2, .int .i64 (i + (1 : Int))]))) (rA s_l04Quoted x [.int .i64 (0 : Int), .top, .top])) (fun x => by kernel_rfl) fun (x : List UInt8 × Int) (hx : 0 ≤ x.2 ∧ x.2 ≤ x.1.length ∧ x.1.length < 2 ^ 62) => (by
  dsimp only [cA, eA, eN, i_l04Quoted, rA, s_l04Plain, s_l04Quoted, hndL, hnd1, mvL, lnL, mvE, lnE, sndL]
  obtain ⟨h1, h2, h3⟩ := hx
  (repeat' first | (with_reducible first | rfl | exact True.intro | apply inR_i64 | apply And.intro | ((first | apply bcase_dec | apply bcase_bne | apply bcase_beq | apply bcase_not) <;> intro _)) | (apply bcase_intro <;> intro _) | apply sl_eq | refine ex_flip () ?_ ?_ | ((first | apply ex_flip10 | apply ex_flip9 | apply ex_flip8 | apply ex_flip7 | apply ex_flip6 | apply ex_flip5 | apply ex_flip4 | apply ex_flip3 | apply ex_flip2) <;> try dsimp only) | apply ex_flip | (refine Prod.forall.2 ?_; intro _; try dsimp only) | (intro _; try dsimp only)) <;> (try dsimp only at *) <;> (try simp only [i64max, List.length_cons, List.length_nil]) <;> (try omega)
  all_goals first
    | exact qI_0
    | exact qI_found h1 (by assumption) (by assumption) (by assumption)
    | exact qI_bad h1 (by assumption) (by assumption) (by assumption) (by assumption) (by assumption)
    | exact qI_next h1 (by assumption) (by assumption) (by assumption) (by assumption) (by assumption) (by assumption)
    | exact qI_end h1 (by assumption) (by assumption)
    | (have hI := qI_b (by assumption); omega))
def s_l04Note  : Sig := { X := List UInt8 × Int, args := fun x => [.str x.1, .int .i64 x.2], pre := fun x => 0 ≤ x.2 ∧ x.2 ≤ x.1.length ∧ x.1.length < 2 ^ 62, Y := Unit, post := fun x y => True, res := fun x y => .int .i64 (nlen (x.1.drop x.2.toNat)), outs := fun x y => [.top, .top], keep := false }
def i_l04Note  (x : List UInt8 × Int) : LS := { ι := Int, inv := fun i => nI x i, regs := fun i => [(0, .str x.1), (1, .int .i64 x.2), (5, .int .i64 i)], als := [], meas := fun i => x.1.length - i.toNat }
theorem l04Note_ok  : Contract G Tryz.prog 76 s_l04Note :=
  vcFun_okP [(109, 0, s_l04Plain)] [] false (fun x => [(4, i_l04Note  x)]) Tryz.func76 rfl (by decide) ⟨l04Plain_ok, trivial⟩ (fun (x : List UInt8 × Int) => (∀ (y : Unit), True → True ∧ True ∧ True ∧ True) ∧ inR IntKind.i64 (x.2 + (2 : Int)) ∧ bcase (decide (x.2 + (2 : Int) > (↑(List.length x.1) : Int))) (rA s_l04Note x [.int .i64 (0 : Int), .top, .top]) (inR IntKind.i64 (x.2 + (2 : Int)) ∧ ((0 : Int) ≤ x.2 ∧ x.2 ≤ x.2 + (2 : Int) ∧ x.2 + (2 : Int) ≤ (↑(List.length x.1) : Int)) ∧ bcase (!List.drop (Int.toNat x.2) (List.take (Int.toNat (x.2 + (2 : Int))) x.1) == #[(47 : UInt8), (47 : UInt8)].toList) (rA s_l04Note x [.int .i64 (0 : Int), .top, .top]) (eA (i_l04Note x) [.str x.1, .int .i64 x.2, .int .i64 x.2] ∧ ∀ (i : Int), nI x i → bcase (decide (i < (↑(List.length x.1) : Int))) (((0 : Int) ≤ i ∧ i < (↑(List.length x.1) : Int)) ∧ ∀ (c : UInt8), x.1[Int.toNat i]? = some c → bcase ((↑(UInt8.toNat c) : Int) != (10 : Int)) (((0 : Int) ≤ i ∧ i < (↑(List.length x.1) : Int)) ∧ ∀ (c : UInt8), x.1[Int.toNat i]? = some c → cA s_l04Plain [AV.int IntKind.u8 (↑(UInt8.toNat c) : Int)] fun x_1 y => bcase (!isPln x_1) (rA s_l04Note x [.int .i64 (0 : Int), .top, .top]) (inR IntKind.i64 (i + (1 : Int)) ∧ eN (i_l04Note x) i [.str x.1, .int .i64 x.2, .int .i64 (i + (1 : Int))])) (inR IntKind.i64 (i - x.2) ∧ rA s_l04Note x [.int .i64 (i - x.2), .top, .top])) (inR IntKind.i64 (i - x.2) ∧ rA s_l04Note x [.int .i64 (i - x.2), .top, .top])))) (fun x => by kernel_rfl) fun (x : List UInt8 × Int) (hx : 0 ≤ x.2 ∧ x.2 ≤ x.1.length ∧ x.1.length < 2 ^ 62) => (by
  dsimp only [cA, eA, eN, i_l04Note, rA, s_l04Note, s_l04Plain, hndL, hnd1, mvL, lnL, mvE, lnE, sndL]
  obtain ⟨h1, h2, h3⟩ := hx
  (repeat' first | (with_reducible first | rfl | exact True.intro | apply inR_i64 | apply And.intro | ((first | apply bcase_dec | apply bcase_bne | apply bcase_beq | apply bcase_not) <;> intro _)) | (apply bcase_intro <;> intro _) | apply sl_eq | refine ex_flip () ?_ ?_ | ((first | apply ex_flip10 | apply ex_flip9 | apply ex_flip8 | apply ex_flip7 | apply ex_flip6 | apply ex_flip5 | apply ex_flip4 | apply ex_flip3 | apply ex_flip2) <;> try dsimp only) | apply ex_flip | (refine Prod.forall.2 ?_; intro _; try dsimp only) | (intro _; try dsimp only)) <;> (try dsimp only at *) <;> (try simp only [i64max, List.length_cons, List.length_nil]) <;> (try omega)
  all_goals first
    | exact nI_short h1 (by assumption)
    | exact nI_no h1 (by assumption)
    | exact nI_0 h1 h2 (by assumption)
    | exact nI_bad h1 (by assumption) (by assumption) (by assumption) (by assumption) (by assumption)
    | exact nI_next h1 (by assumption) (by assumption) (by assumption) (by assumption) (by assumption) (by assumption)
    | exact nI_stop h1 (by assumption) (by assumption) (by assumption)
    | exact nI_end h1 (by assumption) (by assumption)
    | (have hI := (‹nI _ _› : nI _ _).1; omega))
def s_l05Name  : Sig := { X := List UInt8, args := fun x => [.str x], pre := fun x => x.length < 2 ^ 62, Y := Unit, post := fun x y => True, res := fun x y => .bool (nameOk x), outs := fun x y => [.top], keep := false }
def i_l05Name  (x : List UInt8) : LS := { ι := Int, inv := fun i => nmI x i, regs := fun i => [(0, .str x), (3, .int .i64 i)], als := [], meas := fun i => x.length - i.toNat }
theorem l05Name_ok  : Contract G Tryz.prog 150 s_l05Name :=
  vcFun_okP [(53, 0, s_l01In), (78, 0, s_l04First), (105, 0, s_sKw), (79, 0, s_l04Figure)] [] false (fun x => [(4, i_l05Name  x)]) Tryz.func150 rfl (by decide) ⟨l01In_ok, l04First_ok, sKw_ok, l04Figure_ok, trivial⟩ (fun (x : List UInt8) => (∀ (y : Unit), True → True ∧ True ∧ True) ∧ cA s_l01In [.int .i64 (↑(List.length x) : Int), .int .i64 (1 : Int), .int .i64 (30 : Int)] fun x_1 y => bcase (!inn x_1.1 x_1.2.1 x_1.2.2) (rA s_l05Name x [.bool false, .top]) (((0 : Int) ≤ (0 : Int) ∧ (0 : Int) < (↑(List.length x) : Int)) ∧ ∀ (c : UInt8), x[(0 : Nat)]? = some c → cA s_l04First [AV.int IntKind.u8 (↑(UInt8.toNat c) : Int)] fun x_2 y => bcase (!isFst x_2) (rA s_l05Name x [.bool false, .top]) (cA s_sKw [.str x] fun x_3 y => bcase (kw x_3) (rA s_l05Name x [.bool false, .top]) (eA (i_l05Name x) [.str x, .int .i64 (0 : Int)] ∧ ∀ (i : Int), nmI x i → bcase (decide (i < (↑(List.length x) : Int))) (((0 : Int) ≤ i ∧ i < (↑(List.length x) : Int)) ∧ ∀ (c : UInt8), x[Int.toNat i]? = some c → cA s_l04First [AV.int IntKind.u8 (↑(UInt8.toNat c) : Int)] fun x_4 y => bcase (!isFst x_4) (((0 : Int) ≤ i ∧ i < (↑(List.length x) : Int)) ∧ ∀ (c : UInt8), x[Int.toNat i]? = some c → cA s_l04Figure [AV.int IntKind.u8 (↑(UInt8.toNat c) : Int)] fun x_5 y => bcase (!isFig x_5) (rA s_l05Name x [.bool false, .top]) (inR IntKind.i64 (i + (1 : Int)) ∧ eN (i_l05Name x) i [.str x, .int .i64 (i + (1 : Int))])) (inR IntKind.i64 (i + (1 : Int)) ∧ eN (i_l05Name x) i [.str x, .int .i64 (i + (1 : Int))])) (rA s_l05Name x [.bool true, .top]))))) (fun x => by kernel_rfl) fun (x : List UInt8) (hx : x.length < 2 ^ 62) => (by
  dsimp only [cA, eA, eN, i_l05Name, rA, s_l01In, s_l04Figure, s_l04First, s_l05Name, s_sKw, hndL, hnd1, mvL, lnL, mvE, lnE, sndL]
  have hp : ∀ h : inn x.length 1 30 = true, 1 ≤ x.length := fun h => by simp [inn] at h; omega
  (repeat' first | (with_reducible first | rfl | exact True.intro | apply inR_i64 | apply And.intro | ((first | apply bcase_dec | apply bcase_bne | apply bcase_beq | apply bcase_not) <;> intro _)) | (apply bcase_intro <;> intro _) | apply sl_eq | refine ex_flip () ?_ ?_ | ((first | apply ex_flip10 | apply ex_flip9 | apply ex_flip8 | apply ex_flip7 | apply ex_flip6 | apply ex_flip5 | apply ex_flip4 | apply ex_flip3 | apply ex_flip2) <;> try dsimp only) | apply ex_flip | (refine Prod.forall.2 ?_; intro _; try dsimp only) | (intro _; try dsimp only)) <;> (try dsimp only at *) <;> (try simp only [i64max, List.length_cons, List.length_nil]) <;> (try omega)
  all_goals (try (have := hp (by assumption); omega))
  all_goals (try (have hI := (‹nmI _ _› : nmI _ _).1; omega))
  · rename_i h; exact nmI_no (fun hh => by rw [hh.1] at h; cases h)
  · rename_i c hc _ _ h; exact nmI_no (fun hh => by rw [head_of hc, h] at hh; cases hh.2.1)
  · rename_i h; exact nmI_no (fun hh => by rw [hh.2.2] at h; cases h)
  · rename_i h1 c hc _ _ h2 _ _ h3; exact nmI_0 h1 (by rw [head_of hc]; exact h2) h3
  · rename_i i hi hl c hc _ _ h1 d hd _ _ h2
    rw [hc] at hd; cases hd
    exact nmI_bad hi hc (by simp [isInn, h1, h2])
  · rename_i i hi hl c hc _ _ h1 d hd _ _ h2
    rw [hc] at hd; cases hd
    exact nmI_next hi hc hl (by simp [isInn, h2])
  · rename_i i hi hl c hc _ _ h1
    exact nmI_next hi hc hl (by simp [isInn, h1])
  · exact nmI_end (by assumption) (by assumption))
def s_l05Num  : Sig := { X := List UInt8, args := fun x => [.str x], pre := fun x => x.length < 2 ^ 62, Y := Unit, post := fun x y => True, res := fun x y => .bool (isSgn x 2), outs := fun x y => [.top], keep := false }
theorem l05Num_ok  : Contract G Tryz.prog 151 s_l05Num :=
  vcFun_okP [(53, 0, s_l01In), (79, 0, s_l04Figure)] [] false (fun x => [(2, lTake isFig x fun i => [(0, .str x), (3, .int .i64 i)])]) Tryz.func151 rfl (by decide) ⟨l01In_ok, l04Figure_ok, trivial⟩ (fun (x : List UInt8) => (∀ (y : Unit), True → True ∧ True ∧ True) ∧ eA (lTake isFig x fun (i : Int) => [((0 : Nat), .str x), ((3 : Nat), .int .i64 i)]) [.str x, .int .i64 (0 : Int)] ∧ ∀ (i : Int), ((0 : Int) ≤ i ∧ i ≤ (↑(List.length x) : Int) ∧ ∀ (e : UInt8), e ∈ List.take (Int.toNat i) x → isFig e = true) → bcase (decide (i < (↑(List.length x) : Int))) (((0 : Int) ≤ i ∧ i < (↑(List.length x) : Int)) ∧ ∀ (c : UInt8), x[Int.toNat i]? = some c → cA s_l04Figure [AV.int IntKind.u8 (↑(UInt8.toNat c) : Int)] fun x_1 y => bcase (!isFig x_1) (rA s_l05Num x [.bool false, .top]) (inR IntKind.i64 (i + (1 : Int)) ∧ eN (lTake isFig x fun (i : Int) => [((0 : Nat), .str x), ((3 : Nat), .int .i64 i)]) i [.str x, .int .i64 (i + (1 : Int))])) (cA s_l01In [.int .i64 (↑(List.length x) : Int), .int .i64 (1 : Int), .int .i64 (12 : Int)] fun x_1 y => rA s_l05Num x [.bool (inn x_1.1 x_1.2.1 x_1.2.2), .top])) (fun x => by kernel_rfl) fun (x : List UInt8) (hx : x.length < 2 ^ 62) => (by
  dsimp only [cA, eA, eN, lTake, rA, s_l01In, s_l04Figure, s_l05Num, hndL, hnd1, mvL, lnL, mvE, lnE, sndL]
  (repeat' first | (with_reducible first | rfl | exact True.intro | apply inR_i64 | apply And.intro | ((first | apply bcase_dec | apply bcase_bne | apply bcase_beq | apply bcase_not) <;> intro _)) | (apply bcase_intro <;> intro _) | apply sl_eq | refine ex_flip () ?_ ?_ | ((first | apply ex_flip10 | apply ex_flip9 | apply ex_flip8 | apply ex_flip7 | apply ex_flip6 | apply ex_flip5 | apply ex_flip4 | apply ex_flip3 | apply ex_flip2) <;> try dsimp only) | apply ex_flip | (refine Prod.forall.2 ?_; intro _; try dsimp only) | (intro _; try dsimp only)) <;> (try dsimp only at *) <;> (try simp only [i64max, List.length_cons, List.length_nil]) <;> (try omega)
  · rename_i h; simp at h
  · rename_i i hi hl c hc _ _ h; rw [sg_num, not_all hc h]; rfl
  · rename_i i hi hl c hc _ _ h e he
    rw [toNat1 hi.1] at he; exact all_take_succ hi.2.2 hc h e he
  · rename_i i hi hl _ _; rw [sg_num, all_of_take hi.2.2 (by omega)]; simp only [Bool.true_and, inn]; rw [Bool.eq_iff_iff]; simp; omega)
def s_l05Quoted  : Sig := { X := List UInt8, args := fun x => [.str x], pre := fun x => x.length < 2 ^ 62, Y := Unit, post := fun x y => True, res := fun x y => .bool (isSgn x 3), outs := fun x y => [.top], keep := false }
theorem l05Quoted_ok  : Contract G Tryz.prog 152 s_l05Quoted :=
  vcFun_okP [(80, 0, s_l04Quoted)] [] false (fun x => []) Tryz.func152 rfl (by decide) ⟨l04Quoted_ok, trivial⟩ (fun (x : List UInt8) => (∀ (y : Unit), True → True ∧ True ∧ True) ∧ bcase (decide ((↑(List.length x) : Int) > (1 : Int))) (((0 : Int) ≤ (0 : Int) ∧ (0 : Int) < (↑(List.length x) : Int)) ∧ ∀ (c : UInt8), x[(0 : Nat)]? = some c → bcase ((↑(UInt8.toNat c) : Int) == (39 : Int)) (cA s_l04Quoted [.str x, .int .i64 (0 : Int)] fun x_1 y => rA s_l05Quoted x [.bool ((↑(qlen (List.drop (Int.toNat x_1.2) x_1.1)) : Int) == (↑(List.length x) : Int)), .top]) (rA s_l05Quoted x [.bool false, .top])) (rA s_l05Quoted x [.bool false, .top])) (fun x => by kernel_rfl) fun (x : List UInt8) (hx : x.length < 2 ^ 62) => (by
  dsimp only [cA, rA, s_l04Quoted, s_l05Quoted, hndL, hnd1, mvL, lnL, mvE, lnE]
  (repeat' first | (with_reducible first | rfl | exact True.intro | apply inR_i64 | apply And.intro | ((first | apply bcase_dec | apply bcase_bne | apply bcase_beq | apply bcase_not) <;> intro _)) | (apply bcase_intro <;> intro _) | apply sl_eq | refine ex_flip () ?_ ?_ | ((first | apply ex_flip10 | apply ex_flip9 | apply ex_flip8 | apply ex_flip7 | apply ex_flip6 | apply ex_flip5 | apply ex_flip4 | apply ex_flip3 | apply ex_flip2) <;> try dsimp only) | apply ex_flip | (refine Prod.forall.2 ?_; intro _; try dsimp only) | (intro _; try dsimp only)) <;> (try dsimp only at *) <;> (try simp only [i64max, List.length_cons, List.length_nil]) <;> (try omega)
  · exact q_yes (by assumption) (by assumption) (by assumption)
  · exact q_no (by assumption) (by assumption)
  · exact q_short (by assumption))
def s_l05Note  : Sig := { X := List UInt8, args := fun x => [.str x], pre := fun x => x.length < 2 ^ 62, Y := Unit, post := fun x y => True, res := fun x y => .bool (isSgn x 5), outs := fun x y => [.top], keep := false }
theorem l05Note_ok  : Contract G Tryz.prog 153 s_l05Note :=
  vcFun_okP [(76, 0, s_l04Note), (77, 0, s_sTrim)] [] false (fun x => []) Tryz.func153 rfl (by decide) ⟨l04Note_ok, sTrim_ok, trivial⟩ (fun (x : List UInt8) => (∀ (y : Unit), True → True ∧ True ∧ True) ∧ bcase (decide ((↑(List.length x) : Int) > (1 : Int))) (cA s_l04Note [.str x, .int .i64 (0 : Int)] fun x_1 y => bcase ((↑(nlen (List.drop (Int.toNat x_1.2) x_1.1)) : Int) == (↑(List.length x) : Int)) (cA s_sTrim [.str x] fun x_2 y => rA s_l05Note x [.bool (trimR x_2 == x), .top]) (rA s_l05Note x [.bool false, .top])) (rA s_l05Note x [.bool false, .top])) (fun x => by kernel_rfl) fun (x : List UInt8) (hx : x.length < 2 ^ 62) => (by
  dsimp only [cA, rA, s_l04Note, s_l05Note, s_sTrim, hndL, hnd1, mvL, lnL, mvE, lnE]
  (repeat' first | (with_reducible first | rfl | exact True.intro | apply inR_i64 | apply And.intro | ((first | apply bcase_dec | apply bcase_bne | apply bcase_beq | apply bcase_not) <;> intro _)) | (apply bcase_intro <;> intro _) | apply sl_eq | refine ex_flip () ?_ ?_ | ((first | apply ex_flip10 | apply ex_flip9 | apply ex_flip8 | apply ex_flip7 | apply ex_flip6 | apply ex_flip5 | apply ex_flip4 | apply ex_flip3 | apply ex_flip2) <;> try dsimp only) | apply ex_flip | (refine Prod.forall.2 ?_; intro _; try dsimp only) | (intro _; try dsimp only)) <;> (try dsimp only at *) <;> (try simp only [i64max, List.length_cons, List.length_nil]) <;> (try omega)
  · exact n_yes (by assumption) (by assumption)
  · exact n_no (by assumption)
  · exact n_short (by assumption))
def s_l05Chain  : Sig := { X := List UInt8, args := fun x => [.str x], pre := fun x => x.length < 2 ^ 62, Y := Unit, post := fun x y => True, res := fun x y => .bool (chainOk x), outs := fun x y => [.top], keep := false }
theorem l05Chain_ok  : Contract G Tryz.prog 154 s_l05Chain :=
  vcFun_okP [] [] false (fun x => []) Tryz.func154 rfl (by decide) trivial (fun (x : List UInt8) => (∀ (y : Unit), True → True ∧ True ∧ True) ∧ bcase (x == #[(38 : UInt8), (38 : UInt8)].toList) (rA s_l05Chain x [.bool true, .top]) (bcase (x == #[(124 : UInt8), (124 : UInt8)].toList) (rA s_l05Chain x [.bool true, .top]) (bcase (x == #[(61 : UInt8), (61 : UInt8)].toList) (rA s_l05Chain x [.bool true, .top]) (bcase (x == #[(60 : UInt8)].toList) (rA s_l05Chain x [.bool true, .top]) (bcase (x == #[(43 : UInt8)].toList) (rA s_l05Chain x [.bool true, .top]) (bcase (x == #[(45 : UInt8)].toList) (rA s_l05Chain x [.bool true, .top]) (bcase (x == #[(42 : UInt8)].toList) (rA s_l05Chain x [.bool true, .top]) (rA s_l05Chain x [.bool false, .top])))))))) (fun x => by kernel_rfl) fun (x : List UInt8) (hx : x.length < 2 ^ 62) => (by
  dsimp only [rA, s_l05Chain, hndL, hnd1]
  (repeat' first | (with_reducible first | rfl | exact True.intro | apply inR_i64 | apply And.intro | ((first | apply bcase_dec | apply bcase_bne | apply bcase_beq | apply bcase_not) <;> intro _)) | (apply bcase_intro <;> intro _) | apply sl_eq | refine ex_flip () ?_ ?_ | ((first | apply ex_flip10 | apply ex_flip9 | apply ex_flip8 | apply ex_flip7 | apply ex_flip6 | apply ex_flip5 | apply ex_flip4 | apply ex_flip3 | apply ex_flip2) <;> try dsimp only) | apply ex_flip | (refine Prod.forall.2 ?_; intro _; try dsimp only) | (intro _; try dsimp only)) <;> (try dsimp only at *) <;> (try simp only [i64max, List.length_cons, List.length_nil]) <;> (try omega)
  all_goals simp [chainOk, *])
def s_l05Text  : Sig := { X := Int × List UInt8, args := fun x => [.int .i64 x.1, .str x.2], pre := fun x => x.2.length < 2 ^ 62, Y := Unit, post := fun x y => True, res := fun x y => .bool (textOk x.1 x.2), outs := fun x y => [.top, .top], keep := false }
theorem l05Text_ok  : Contract G Tryz.prog 116 s_l05Text :=
  vcFun_okP [(150, 0, s_l05Name), (151, 0, s_l05Num), (152, 0, s_l05Quoted), (153, 0, s_l05Note), (154, 0, s_l05Chain)] [] false (fun x => []) Tryz.func116 rfl (by decide) ⟨l05Name_ok, l05Num_ok, l05Quoted_ok, l05Note_ok, l05Chain_ok, trivial⟩ (fun (x : Int × List UInt8) => (∀ (y : Unit), True → True ∧ True ∧ True ∧ True) ∧ bcase (x.1 == (1 : Int)) (cA s_l05Name [.str x.2] fun x_1 y => rA s_l05Text x [.bool (nameOk x_1), .top, .top]) (bcase (x.1 == (6 : Int)) (cA s_l05Name [.str x.2] fun x_1 y => rA s_l05Text x [.bool (nameOk x_1), .top, .top]) (bcase (x.1 == (12 : Int)) (cA s_l05Name [.str x.2] fun x_1 y => rA s_l05Text x [.bool (nameOk x_1), .top, .top]) (bcase (x.1 == (13 : Int)) (cA s_l05Name [.str x.2] fun x_1 y => rA s_l05Text x [.bool (nameOk x_1), .top, .top]) (bcase (x.1 == (20 : Int)) (cA s_l05Name [.str x.2] fun x_1 y => rA s_l05Text x [.bool (nameOk x_1), .top, .top]) (bcase (x.1 == (21 : Int)) (cA s_l05Name [.str x.2] fun x_1 y => rA s_l05Text x [.bool (nameOk x_1), .top, .top]) (bcase (x.1 == (2 : Int)) (cA s_l05Num [.str x.2] fun x_1 y => rA s_l05Text x [.bool (isSgn x_1 (2 : Int)), .top, .top]) (bcase (x.1 == (3 : Int)) (cA s_l05Quoted [.str x.2] fun x_1 y => rA s_l05Text x [.bool (isSgn x_1 (3 : Int)), .top, .top]) (bcase (x.1 == (19 : Int)) (cA s_l05Note [.str x.2] fun x_1 y => rA s_l05Text x [.bool (isSgn x_1 (5 : Int)), .top, .top]) (bcase (x.1 == (7 : Int)) (cA s_l05Chain [.str x.2] fun x_1 y => rA s_l05Text x [.bool (chainOk x_1), .top, .top]) (rA s_l05Text x [.bool (x.2 == #[].toList), .top, .top]))))))))))) (fun x => by kernel_rfl) fun (x : Int × List UInt8) (hx : x.2.length < 2 ^ 62) => (by
  dsimp only [cA, rA, s_l05Chain, s_l05Name, s_l05Note, s_l05Num, s_l05Quoted, s_l05Text, hndL, hnd1, mvL, lnL, mvE, lnE]
  (repeat' first | (with_reducible first | rfl | exact True.intro | apply inR_i64 | apply And.intro | ((first | apply bcase_dec | apply bcase_bne | apply bcase_beq | apply bcase_not) <;> intro _)) | (apply bcase_intro <;> intro _) | apply sl_eq | refine ex_flip () ?_ ?_ | ((first | apply ex_flip10 | apply ex_flip9 | apply ex_flip8 | apply ex_flip7 | apply ex_flip6 | apply ex_flip5 | apply ex_flip4 | apply ex_flip3 | apply ex_flip2) <;> try dsimp only) | apply ex_flip | (refine Prod.forall.2 ?_; intro _; try dsimp only) | (intro _; try dsimp only)) <;> (try dsimp only at *) <;> (try simp only [i64max, List.length_cons, List.length_nil]) <;> (try omega)
  all_goals simp [textOk, *])
end Go.My
end
section
set_option linter.unusedVariables false
set_option linter.unusedSimpArgs false
namespace Go.My
open Go.Eng
def lohi (k : Int) : Int × Int :=
  if k = 4 ∨ k = 18 ∨ k = 21 ∨ k = 22 then (0, 12)
  else if k = 5 ∨ k = 9 ∨ k = 20 then (1, 12)
  else if k = 6 ∨ k = 11 ∨ k = 13 ∨ k = 14 then (1, 1)
  else if k = 7 ∨ k = 10 then (2, 12)
  else if k = 8 then (3, 3)
  else if k = 12 ∨ k = 15 then (0, 1)
  else if k = 16 then (2, 3)
  else if k = 17 then (2, 2)
  else (0, 0)
def fitKind (k n i y : Int) : Bool :=
  if k = 9 then (if i + 1 < n then isNm y else isVal y)
  else if k = 20 then (if i + 1 < n then isNm y else isBlk y)
  else if k = 10 then (if 0 < i then isCl y else isVal y)
  else if k = 16 ∨ k = 17 then (if 0 < i then isBlk y else isVal y)
  else if k = 18 then isSt y
  else if k = 21 then isMem y
  else if k = 22 then isTop y
  else isVal y
def fitK (ns : List Nd) (x : Nd) (i c : Int) : Bool :=
  fitKind x.kind x.kids.length i (kindAt ns c) && (if x.kind = 10 ∧ 0 < i then decide (kindAt ns ((ndAt ns c).kids.headD 0) = 1) else true)
def kidOkS (ns : List Nd) (x : Nd) (i c : Int) : Bool :=
  (!(decide (kindAt ns c = 5) && (decide ((ndAt ns c).kids.length = 0) || !isNd ns ((ndAt ns c).kids.headD 0)))) && fitK ns x i c
def allAt (f : Int → Int → Bool) : List Int → Int → Bool
  | [], _ => true
  | c :: l, i => f i c && allAt f l (i + 1)
theorem allAt_congr {f g : Int → Int → Bool} : ∀ {l : List Int} {i : Int}, (∀ j c, i ≤ j → j < i + l.length → c ∈ l → f j c = g j c) → allAt f l i = allAt g l i
  | [], i, h => rfl
  | c :: l, i, h => by
    simp only [allAt]
    rw [h i c (Int.le_refl i) (by simp; omega) (by simp), allAt_congr (fun j c hj hl hc => h j c (by omega) (by simp; omega) (by simp [hc]))]
theorem allAt_and {f g : Int → Int → Bool} : ∀ {l : List Int} {i : Int}, allAt (fun i c => f i c && g i c) l i = (allAt f l i && allAt g l i)
  | [], i => rfl
  | c :: l, i => by
    simp only [allAt]; rw [allAt_and]
    cases f i c <;> cases g i c <;> cases allAt f l (i + 1) <;> cases allAt g l (i + 1) <;> rfl
theorem allAt_const {f : Int → Bool} : ∀ {l : List Int} {i : Int}, allAt (fun _ c => f c) l i = l.all f
  | [], i => rfl
  | c :: l, i => by simp only [allAt, List.all_cons]; rw [allAt_const]
theorem allAt_map {f : Int → Int → Bool} {g : Int → Int} : ∀ {l : List Int} {i : Int}, allAt f (l.map g) i = allAt (fun i c => f i (g c)) l i
  | [], i => rfl
  | c :: l, i => by simp only [allAt, List.map_cons]; rw [allAt_map]
theorem allAt_append {f : Int → Int → Bool} : ∀ {l m : List Int} {i : Int}, allAt f (l ++ m) i = (allAt f l i && allAt f m (i + l.length))
  | [], m, i => by simp [allAt]
  | c :: l, m, i => by
    simp only [List.cons_append, allAt]; rw [allAt_append, Bool.and_assoc]
    congr 2; congr 1; simp; omega
theorem allAt_zip {f : Int → Int → Bool} : ∀ {l : List Int} {i : Nat}, ((l.zipIdx i).all fun p => f p.2 p.1) = allAt f l i
  | [], i => rfl
  | c :: l, i => by
    simp only [List.zipIdx_cons, List.all_cons, allAt]; rw [allAt_zip]; congr 2
theorem allAt_iff {f : Int → Int → Bool} {l : List Int} : allAt f l 0 = true ↔ ∀ (j : Nat) c, l[j]? = some c → f j c = true := by
  have : ∀ (l : List Int) (i : Nat), allAt f l i = true ↔ ∀ (j : Nat) c, l[j]? = some c → f (i + j : Nat) c = true := by
    intro l
    induction l with
    | nil => intro i; simp [allAt]
    | cons c l ih =>
      intro i
      simp only [allAt, Bool.and_eq_true]
      have := ih (i + 1)
      rw [show ((i : Int) + 1) = ((i + 1 : Nat) : Int) from by omega, this]
      constructor
      · rintro ⟨h1, h2⟩ j d hd
        cases j with
        | zero => simp at hd; subst hd; simpa using h1
        | succ j => have := h2 j d (by simpa using hd); rwa [show i + 1 + j = i + (j + 1) by omega] at this
      · intro h
        refine ⟨by simpa using h 0 c rfl, fun j d hd => ?_⟩
        have := h (j + 1) d (by simpa using hd)
        rwa [show i + (j + 1) = i + 1 + j by omega] at this
  have := this l 0
  simpa using this
theorem last_split {l : List Int} {k : Int} (h : l.getLast? = some k) : l = l.dropLast ++ [k] := by
  have hne : l ≠ [] := by intro e; rw [e] at h; cases h
  rw [List.getLast?_eq_some_getLast hne] at h
  have := List.dropLast_concat_getLast hne
  rw [Option.some.inj h] at this; exact this.symm
theorem fit_last {p : Int → Bool} {l : List Int} : (decide (1 ≤ l.length) && allAt (fun i y => if i + 1 < (l.length : Int) then isNm y else p y) l 0) = lastIs p l := by
  unfold lastIs
  cases h : l.getLast? with
  | none => have : l = [] := by simpa using h
            subst this; rfl
  | some k =>
    have e := last_split h
    generalize hd : l.dropLast = m at e ⊢
    subst e
    rw [allAt_append]
    have h1 : allAt (fun i y => if i + 1 < ((m ++ [k]).length : Int) then isNm y else p y) m 0 = m.all isNm := by
      rw [← allAt_const (i := 0)]
      exact allAt_congr fun j c h0 hj hc => if_pos (by simp; omega)
    rw [h1]
    simp only [allAt]
    have h2 : ¬ ((0 : Int) + m.length + 1 < ((m ++ [k]).length : Int)) := by simp
    rw [if_neg h2]
    have : decide (1 ≤ (m ++ [k]).length) = true := by simp
    rw [this]; simp [Bool.and_comm]
theorem fit_head {p q : Int → Bool} {c : Int} {l : List Int} : allAt (fun i y => if 0 < i then q y else p y) (c :: l) 0 = (p c && l.all q) := by
  simp only [allAt]
  have h1 : ¬ ((0 : Int) < 0) := by omega
  rw [if_neg h1]
  congr 1
  rw [← allAt_const (i := 0 + 1)]
  exact allAt_congr fun j c h0 hj hc => if_pos (by omega)
theorem kinds_bridge {k : Int} {l : List Int} (h1 : 1 ≤ k) (h2 : k ≤ 22) : (inn l.length (lohi k).1 (lohi k).2 && allAt (fun i y => fitKind k l.length i y) l 0) = (decide (l.length ≤ 12) && kindsOk k l) := by
  have hk : k = 1 ∨ k = 2 ∨ k = 3 ∨ k = 4 ∨ k = 5 ∨ k = 6 ∨ k = 7 ∨ k = 8 ∨ k = 9 ∨ k = 10 ∨ k = 11 ∨ k = 12 ∨ k = 13 ∨ k = 14 ∨ k = 15 ∨ k = 16 ∨ k = 17 ∨ k = 18 ∨ k = 19 ∨ k = 20 ∨ k = 21 ∨ k = 22 := by omega
  have len0 : ∀ {b c : Bool}, l.length = 0 → (l = []) := fun h => List.length_eq_zero_iff.1 h
  rcases hk with rfl | rfl | rfl | rfl | rfl | rfl | rfl | rfl | rfl | rfl | rfl | rfl | rfl | rfl | rfl | rfl | rfl | rfl | rfl | rfl | rfl | rfl
  all_goals simp only [lohi, fitKind, kindsOk, inn, Int.reduceEq, or_self, or_false, false_or, or_true, true_or, if_true, if_false, reduceIte]
  all_goals try (
    by_cases h : l.length = 0
    · have := List.length_eq_zero_iff.1 h; subst this; rfl
    · have e1 : decide ((l.length : Int) ≤ 0) = false := decide_eq_false (by omega)
      have e2 : decide (l.length = 0) = false := decide_eq_false h
      simp only [e1, e2, Bool.and_false, Bool.false_and]; done)
  all_goals try rw [allAt_const]
  all_goals try (
    generalize l.all _ = b
    rw [Bool.eq_iff_iff]; cases b <;> simp only [Bool.and_eq_true, decide_eq_true_eq, Bool.false_eq_true, and_false, and_true] <;> omega)
  · rw [show decide (1 ≤ (l.length : Int)) = decide (1 ≤ l.length) from decide_eq_decide.2 (by omega), show decide ((l.length : Int) ≤ 12) = decide (l.length ≤ 12) from decide_eq_decide.2 (by omega), ← fit_last (p := isVal)]
    generalize allAt _ l 0 = b
    cases decide (1 ≤ l.length) <;> cases decide (l.length ≤ 12) <;> cases b <;> rfl
  · cases l with
    | nil => rfl
    | cons c l =>
      rw [fit_head]
      simp only [List.headD_cons, List.drop_succ_cons, List.drop_zero]
      generalize isVal c = b; generalize l.all _ = d
      rw [Bool.eq_iff_iff]; cases b <;> cases d <;> simp only [Bool.and_eq_true, decide_eq_true_eq, Bool.false_eq_true, and_false, and_true] <;> omega
  · cases l with
    | nil => rfl
    | cons c l =>
      rw [fit_head]
      simp only [List.headD_cons, List.drop_succ_cons, List.drop_zero]
      generalize isVal c = b; generalize l.all _ = d
      rw [Bool.eq_iff_iff]; cases b <;> cases d <;> simp only [Bool.and_eq_true, decide_eq_true_eq, Bool.false_eq_true, and_false, and_true] <;> omega
  · match l with
    | [] => rfl
    | [c] => rfl
    | [c, d] => simp [allAt]
    | c :: d :: e :: l =>
      have e1 : decide (((c :: d :: e :: l).length : Int) ≤ 2) = false := decide_eq_false (by simp; omega)
      have e2 : decide ((c :: d :: e :: l).length = 2) = false := decide_eq_false (by simp)
      rw [e1, e2]; simp
  · rw [show decide (1 ≤ (l.length : Int)) = decide (1 ≤ l.length) from decide_eq_decide.2 (by omega), show decide ((l.length : Int) ≤ 12) = decide (l.length ≤ 12) from decide_eq_decide.2 (by omega), ← fit_last (p := isBlk)]
    generalize allAt _ l 0 = b
    cases decide (1 ≤ l.length) <;> cases decide (l.length ≤ 12) <;> cases b <;> rfl
theorem kinds_out {k : Int} {l : List Int} (h : inn k 1 22 = false) : kindsOk k l = false := by
  have h : ¬ (1 ≤ k ∧ k ≤ 22) := by intro hh; simp [inn] at h; omega
  unfold kindsOk
  have e : ∀ j : Int, 1 ≤ j → j ≤ 22 → k ≠ j := fun j h1 h2 e => h (by omega)
  simp [e]
theorem kid_bridge {ns : List Nd} {x : Nd} {i c : Int} : kidOkS ns x i c = (fitKind x.kind x.kids.length i (kindAt ns c) && callOk ns x i.toNat c) := by
  unfold kidOkS fitK callOk kindAt
  generalize hy : ndAt ns c = y
  by_cases h5 : y.kind = 5
  · simp only [h5, if_true, decide_true, Bool.true_and]
    cases hk : y.kids with
    | nil => simp
    | cons h t =>
      simp only [List.length_cons, List.headD_cons]
      have e0 : decide (t.length + 1 = 0) = false := by simp
      rw [e0]
      by_cases hx : x.kind = 10 ∧ 0 < i
      · have hi : 0 < i.toNat := by omega
        simp only [hx, and_self, if_true, decide_true, Bool.true_and, hi]
        generalize fitKind 10 _ _ _ = a; generalize isNd ns h = b
        by_cases hd : (ndAt ns h).kind = 1 <;> cases a <;> cases b <;> simp [hd]
      · rw [if_neg hx]
        have : (decide (x.kind = 10) && (decide (0 < i.toNat) && !decide ((ndAt ns h).kind = 1))) = false := by
          by_cases h1 : x.kind = 10
          · have : ¬ 0 < i.toNat := by omega
            simp [this]
          · simp [h1]
        rw [this]
        generalize fitKind _ _ _ _ = a; generalize isNd ns h = b
        cases a <;> cases b <;> rfl
  · simp only [h5, if_false, decide_false, Bool.false_and, Bool.not_false, Bool.true_and, Bool.and_true]
    by_cases hx : x.kind = 10 ∧ 0 < i
    · rw [if_pos hx]
      have : fitKind x.kind x.kids.length i y.kind = false := by
        simp [fitKind, hx, isCl, h5]
      rw [this]; rfl
    · rw [if_neg hx]; simp
theorem node_bridge {ns : List Nd} {k : Int} {x : Nd} : nodeOk1 ns k x =
    (inn x.kind 1 22 && (inn x.kids.length (lohi x.kind).1 (lohi x.kind).2 && (textOk x.kind x.text && ((mayBlank x.kind || !x.blank) && ((kidsIn x.kids k && decide x.kids.Nodup) && allAt (kidOkS ns x) x.kids 0))))) := by
  have e1 : allAt (kidOkS ns x) x.kids 0 = (allAt (fun i y => fitKind x.kind (x.kids.map (kindAt ns)).length i y) (x.kids.map (kindAt ns)) 0 && callsOk ns x) := by
    have : (kidOkS ns x) = fun i c => (fitKind x.kind x.kids.length i (kindAt ns c) && callOk ns x i.toNat c) := by
      funext i c; exact kid_bridge
    rw [this, allAt_and, allAt_map, List.length_map]
    congr 1
    unfold callsOk
    have : (fun p : Int × Nat => callOk ns x p.2 p.1) = fun p : Int × Nat => (fun (i c : Int) => callOk ns x i.toNat c) p.2 p.1 := by
      funext p; simp
    rw [this]
    exact (allAt_zip (f := fun i c => callOk ns x i.toNat c) (i := 0)).symm
  unfold nodeOk1
  by_cases h : inn x.kind 1 22 = true
  · have hb := @kinds_bridge x.kind (x.kids.map (kindAt ns)) (by simp [inn] at h; omega) (by simp [inn] at h; omega)
    rw [List.length_map] at hb
    rw [e1, List.length_map, h]
    generalize decide (x.kids.length ≤ 12) = a at hb ⊢; generalize kindsOk x.kind _ = b at hb ⊢; generalize inn _ _ _ = c at hb ⊢
    generalize allAt _ _ 0 = d at hb ⊢; generalize textOk _ _ = e; generalize mayBlank _ = f; generalize callsOk _ _ = g; generalize kidsIn _ _ = h1; generalize decide x.kids.Nodup = h2
    cases a <;> cases b <;> cases c <;> cases d <;> simp at hb <;> cases e <;> cases f <;> cases g <;> cases h1 <;> cases h2 <;> simp
  · simp only [Bool.not_eq_true] at h
    rw [kinds_out h, h]; simp
end Go.My
end
section
set_option linter.unusedVariables false
set_option linter.unusedSimpArgs false
namespace Go.My
open Go.Eng Go.Proofs
variable {G : GInv}
theorem beqI {a b : Int} : (a == b) = decide (a = b) := by rw [Bool.eq_iff_iff]; simp
theorem all_take {α : Type} {p : α → Bool} {x : List α} {n : Nat} {e : α} (he : x[n]? = some e) (hp : p e = true) (h : ∀ e ∈ x.take n, p e = true) : ∀ e ∈ x.take (n + 1), p e = true := by
  rw [takeE he]; intro d hd
  rcases List.mem_append.1 hd with hd | hd
  · exact h d hd
  · simp at hd; subst hd; exact hp
theorem all_done {α : Type} {p : α → Bool} {x : List α} {n : Nat} (h : ∀ e ∈ x.take n, p e = true) (hn : x.length ≤ n) : x.all p = true := by
  rw [List.take_of_length_le hn] at h; exact List.all_eq_true.2 h
theorem all_not {α : Type} {p : α → Bool} {x : List α} {n : Nat} {e : α} (he : x[n]? = some e) (hp : p e = false) : x.all p = false := by
  rw [Bool.eq_false_iff]; intro h
  rw [List.all_eq_true.1 h e (List.mem_of_getElem? he)] at hp; cases hp
def s_isValue  : Sig := { X := Int, args := fun x => [.int .i64 x], pre := fun x => True, Y := Unit, post := fun x y => True, res := fun x y => .bool (isVal x), outs := fun x y => [.top], keep := false }
theorem isValue_ok  : Contract G Tryz.prog 126 s_isValue :=
  vcFun_okP [(58, 0, s_inRange)] [] false (fun x => []) Tryz.func126 rfl (by decide) ⟨inRange_ok, trivial⟩ (fun (x : Int) => (∀ (y : Unit), True → True ∧ True ∧ True) ∧ cA s_inRange [.int .i64 x, .int .i64 (1 : Int), .int .i64 (11 : Int)] fun x_1 y => rA s_isValue x [.bool (inn x_1.1 x_1.2.1 x_1.2.2), .top]) (fun x => by kernel_rfl) fun (x : Int) (hx : True) => (by
  dsimp only [cA, rA, s_inRange, s_isValue, hndL, hnd1, mvL, lnL, mvE, lnE]
  (repeat' first | (with_reducible first | rfl | exact True.intro | apply inR_i64 | apply And.intro | ((first | apply bcase_dec | apply bcase_bne | apply bcase_beq | apply bcase_not) <;> intro _)) | (apply bcase_intro <;> intro _) | apply sl_eq | refine ex_flip () ?_ ?_ | ((first | apply ex_flip10 | apply ex_flip9 | apply ex_flip8 | apply ex_flip7 | apply ex_flip6 | apply ex_flip5 | apply ex_flip4 | apply ex_flip3 | apply ex_flip2) <;> try dsimp only) | apply ex_flip | (refine Prod.forall.2 ?_; intro _; try dsimp only) | (intro _; try dsimp only)) <;> (try dsimp only at *) <;> (try simp only [i64max, List.length_cons, List.length_nil]) <;> (try omega)
  all_goals simp [isVal, beqI, *])
def s_isStep  : Sig := { X := Int, args := fun x => [.int .i64 x], pre := fun x => True, Y := Unit, post := fun x y => True, res := fun x y => .bool (isStep x), outs := fun x y => [.top], keep := false }
theorem isStep_ok  : Contract G Tryz.prog 34 s_isStep :=
  vcFun_okP [(58, 0, s_inRange)] [] false (fun x => []) Tryz.func34 rfl (by decide) ⟨inRange_ok, trivial⟩ (fun (x : Int) => (∀ (y : Unit), True → True ∧ True ∧ True) ∧ cA s_inRange [.int .i64 x, .int .i64 (12 : Int), .int .i64 (17 : Int)] fun x_1 y => rA s_isStep x [.bool (inn x_1.1 x_1.2.1 x_1.2.2), .top]) (fun x => by kernel_rfl) fun (x : Int) (hx : True) => (by
  dsimp only [cA, rA, s_inRange, s_isStep, hndL, hnd1, mvL, lnL, mvE, lnE]
  (repeat' first | (with_reducible first | rfl | exact True.intro | apply inR_i64 | apply And.intro | ((first | apply bcase_dec | apply bcase_bne | apply bcase_beq | apply bcase_not) <;> intro _)) | (apply bcase_intro <;> intro _) | apply sl_eq | refine ex_flip () ?_ ?_ | ((first | apply ex_flip10 | apply ex_flip9 | apply ex_flip8 | apply ex_flip7 | apply ex_flip6 | apply ex_flip5 | apply ex_flip4 | apply ex_flip3 | apply ex_flip2) <;> try dsimp only) | apply ex_flip | (refine Prod.forall.2 ?_; intro _; try dsimp only) | (intro _; try dsimp only)) <;> (try dsimp only at *) <;> (try simp only [i64max, List.length_cons, List.length_nil]) <;> (try omega)
  all_goals simp [isStep, beqI, *])
def s_isBlock  : Sig := { X := Int, args := fun x => [.int .i64 x], pre := fun x => True, Y := Unit, post := fun x y => True, res := fun x y => .bool (isBlk x), outs := fun x y => [.top], keep := false }
theorem isBlock_ok  : Contract G Tryz.prog 129 s_isBlock :=
  vcFun_okP [] [] false (fun x => []) Tryz.func129 rfl (by decide) trivial (fun (x : Int) => (∀ (y : Unit), True → True ∧ True ∧ True) ∧ rA s_isBlock x [.bool (x == (18 : Int)), .top]) (fun x => by kernel_rfl) fun (x : Int) (hx : True) => (by
  dsimp only [rA, s_isBlock, hndL, hnd1]
  (repeat' first | (with_reducible first | rfl | exact True.intro | apply inR_i64 | apply And.intro | ((first | apply bcase_dec | apply bcase_bne | apply bcase_beq | apply bcase_not) <;> intro _)) | (apply bcase_intro <;> intro _) | apply sl_eq | refine ex_flip () ?_ ?_ | ((first | apply ex_flip10 | apply ex_flip9 | apply ex_flip8 | apply ex_flip7 | apply ex_flip6 | apply ex_flip5 | apply ex_flip4 | apply ex_flip3 | apply ex_flip2) <;> try dsimp only) | apply ex_flip | (refine Prod.forall.2 ?_; intro _; try dsimp only) | (intro _; try dsimp only)) <;> (try dsimp only at *) <;> (try simp only [i64max, List.length_cons, List.length_nil]) <;> (try omega)
  all_goals simp [isBlk, beqI, *])
def s_isMember  : Sig := { X := Int, args := fun x => [.int .i64 x], pre := fun x => True, Y := Unit, post := fun x y => True, res := fun x y => .bool (isMem x), outs := fun x y => [.top], keep := false }
theorem isMember_ok  : Contract G Tryz.prog 99 s_isMember :=
  vcFun_okP [] [] false (fun x => []) Tryz.func99 rfl (by decide) trivial (fun (x : Int) => (∀ (y : Unit), True → True ∧ True ∧ True) ∧ bcase (x == (12 : Int)) (rA s_isMember x [.bool true, .top]) (bcase (x == (20 : Int)) (rA s_isMember x [.bool true, .top]) (rA s_isMember x [.bool (x == (19 : Int)), .top]))) (fun x => by kernel_rfl) fun (x : Int) (hx : True) => (by
  dsimp only [rA, s_isMember, hndL, hnd1]
  (repeat' first | (with_reducible first | rfl | exact True.intro | apply inR_i64 | apply And.intro | ((first | apply bcase_dec | apply bcase_bne | apply bcase_beq | apply bcase_not) <;> intro _)) | (apply bcase_intro <;> intro _) | apply sl_eq | refine ex_flip () ?_ ?_ | ((first | apply ex_flip10 | apply ex_flip9 | apply ex_flip8 | apply ex_flip7 | apply ex_flip6 | apply ex_flip5 | apply ex_flip4 | apply ex_flip3 | apply ex_flip2) <;> try dsimp only) | apply ex_flip | (refine Prod.forall.2 ?_; intro _; try dsimp only) | (intro _; try dsimp only)) <;> (try dsimp only at *) <;> (try simp only [i64max, List.length_cons, List.length_nil]) <;> (try omega)
  all_goals simp [isMem, beqI, *])
def s_kf1  : Sig := { X := Int, args := fun x => [.int .i64 x], pre := fun x => True, Y := Unit, post := fun x y => True, res := fun x y => .bool (isCl x), outs := fun x y => [.top], keep := false }
theorem kf1_ok  : Contract G Tryz.prog 128 s_kf1 :=
  vcFun_okP [] [] false (fun x => []) Tryz.func128 rfl (by decide) trivial (fun (x : Int) => (∀ (y : Unit), True → True ∧ True ∧ True) ∧ rA s_kf1 x [.bool (x == (5 : Int)), .top]) (fun x => by kernel_rfl) fun (x : Int) (hx : True) => (by
  dsimp only [rA, s_kf1, hndL, hnd1]
  (repeat' first | (with_reducible first | rfl | exact True.intro | apply inR_i64 | apply And.intro | ((first | apply bcase_dec | apply bcase_bne | apply bcase_beq | apply bcase_not) <;> intro _)) | (apply bcase_intro <;> intro _) | apply sl_eq | refine ex_flip () ?_ ?_ | ((first | apply ex_flip10 | apply ex_flip9 | apply ex_flip8 | apply ex_flip7 | apply ex_flip6 | apply ex_flip5 | apply ex_flip4 | apply ex_flip3 | apply ex_flip2) <;> try dsimp only) | apply ex_flip | (refine Prod.forall.2 ?_; intro _; try dsimp only) | (intro _; try dsimp only)) <;> (try dsimp only at *) <;> (try simp only [i64max, List.length_cons, List.length_nil]) <;> (try omega)
  all_goals simp [isCl, beqI, *])
def s_kf2  : Sig := { X := Int, args := fun x => [.int .i64 x], pre := fun x => True, Y := Unit, post := fun x y => True, res := fun x y => .bool (isSt x), outs := fun x y => [.top], keep := false }
theorem kf2_ok  : Contract G Tryz.prog 130 s_kf2 :=
  vcFun_okP [(34, 0, s_isStep)] [] false (fun x => []) Tryz.func130 rfl (by decide) ⟨isStep_ok, trivial⟩ (fun (x : Int) => (∀ (y : Unit), True → True ∧ True ∧ True) ∧ cA s_isStep [.int .i64 x] fun x_1 y => bcase (isStep x_1) (rA s_kf2 x [.bool true, .top]) (rA s_kf2 x [.bool (x == (19 : Int)), .top])) (fun x => by kernel_rfl) fun (x : Int) (hx : True) => (by
  dsimp only [cA, rA, s_isStep, s_kf2, hndL, hnd1, mvL, lnL, mvE, lnE]
  (repeat' first | (with_reducible first | rfl | exact True.intro | apply inR_i64 | apply And.intro | ((first | apply bcase_dec | apply bcase_bne | apply bcase_beq | apply bcase_not) <;> intro _)) | (apply bcase_intro <;> intro _) | apply sl_eq | refine ex_flip () ?_ ?_ | ((first | apply ex_flip10 | apply ex_flip9 | apply ex_flip8 | apply ex_flip7 | apply ex_flip6 | apply ex_flip5 | apply ex_flip4 | apply ex_flip3 | apply ex_flip2) <;> try dsimp only) | apply ex_flip | (refine Prod.forall.2 ?_; intro _; try dsimp only) | (intro _; try dsimp only)) <;> (try dsimp only at *) <;> (try simp only [i64max, List.length_cons, List.length_nil]) <;> (try omega)
  all_goals simp [isSt, beqI, *])
def s_kf3  : Sig := { X := Int, args := fun x => [.int .i64 x], pre := fun x => True, Y := Unit, post := fun x y => True, res := fun x y => .bool (isTop x), outs := fun x y => [.top], keep := false }
theorem kf3_ok  : Contract G Tryz.prog 131 s_kf3 :=
  vcFun_okP [(99, 0, s_isMember)] [] false (fun x => []) Tryz.func131 rfl (by decide) ⟨isMember_ok, trivial⟩ (fun (x : Int) => (∀ (y : Unit), True → True ∧ True ∧ True) ∧ cA s_isMember [.int .i64 x] fun x_1 y => bcase (isMem x_1) (rA s_kf3 x [.bool true, .top]) (rA s_kf3 x [.bool (x == (21 : Int)), .top])) (fun x => by kernel_rfl) fun (x : Int) (hx : True) => (by
  dsimp only [cA, rA, s_isMember, s_kf3, hndL, hnd1, mvL, lnL, mvE, lnE]
  (repeat' first | (with_reducible first | rfl | exact True.intro | apply inR_i64 | apply And.intro | ((first | apply bcase_dec | apply bcase_bne | apply bcase_beq | apply bcase_not) <;> intro _)) | (apply bcase_intro <;> intro _) | apply sl_eq | refine ex_flip () ?_ ?_ | ((first | apply ex_flip10 | apply ex_flip9 | apply ex_flip8 | apply ex_flip7 | apply ex_flip6 | apply ex_flip5 | apply ex_flip4 | apply ex_flip3 | apply ex_flip2) <;> try dsimp only) | apply ex_flip | (refine Prod.forall.2 ?_; intro _; try dsimp only) | (intro _; try dsimp only)) <;> (try dsimp only at *) <;> (try simp only [i64max, List.length_cons, List.length_nil]) <;> (try omega)
  all_goals simp [isTop, beqI, *])
def s_li1  : Sig := { X := Int, args := fun x => [.int .i64 x], pre := fun x => True, Y := Unit, post := fun x y => True, res := fun x y => .bool (isNm x), outs := fun x y => [.top], keep := false }
theorem li1_ok  : Contract G Tryz.prog 161 s_li1 :=
  vcFun_okP [] [] false (fun x => []) Tryz.func161 rfl (by decide) trivial (fun (x : Int) => (∀ (y : Unit), True → True ∧ True ∧ True) ∧ rA s_li1 x [.bool (x == (1 : Int)), .top]) (fun x => by kernel_rfl) fun (x : Int) (hx : True) => (by
  dsimp only [rA, s_li1, hndL, hnd1]
  (repeat' first | (with_reducible first | rfl | exact True.intro | apply inR_i64 | apply And.intro | ((first | apply bcase_dec | apply bcase_bne | apply bcase_beq | apply bcase_not) <;> intro _)) | (apply bcase_intro <;> intro _) | apply sl_eq | refine ex_flip () ?_ ?_ | ((first | apply ex_flip10 | apply ex_flip9 | apply ex_flip8 | apply ex_flip7 | apply ex_flip6 | apply ex_flip5 | apply ex_flip4 | apply ex_flip3 | apply ex_flip2) <;> try dsimp only) | apply ex_flip | (refine Prod.forall.2 ?_; intro _; try dsimp only) | (intro _; try dsimp only)) <;> (try dsimp only at *) <;> (try simp only [i64max, List.length_cons, List.length_nil]) <;> (try omega)
  all_goals simp [isNm, beqI, *])
def allI (p : Int → Bool) (x : List Int) (i : Int) : Prop := 0 ≤ i ∧ i ≤ x.length ∧ ∀ e ∈ x.take i.toNat, p e = true
theorem allI_init {p : Int → Bool} {x : List Int} : allI p x 0 := ⟨by omega, by omega, by simp⟩
theorem allI_next {p : Int → Bool} {x : List Int} {i : Int} {e : Int} (h : allI p x i) (he : x[i.toNat]? = some e) (hp : p e = true) : allI p x (i + 1) := by
  obtain ⟨h1, h2, h3⟩ := h
  have := (getE he).1
  exact ⟨by omega, by omega, by rw [toNat1 h1]; exact all_take he hp h3⟩
theorem allI_done {p : Int → Bool} {x : List Int} {i : Int} (h : allI p x i) (hl : ¬ i < x.length) : true = x.all p := (all_done h.2.2 (by omega)).symm
def lAll (p : Int → Bool) (c : AV) (x : List Int) : LS := {
  ι := Int, inv := allI p x, regs := fun i => [(0, ints x), (1, c), (7, ints x), (8, .int .i64 x.length), (9, .int .i64 i)], als := [], meas := fun i => x.length - i.toNat }
def s_allVal  : Sig := { X := List Int, args := fun x => [ints x, .clo (.func 126) []], pre := fun x => x.length < 2 ^ 62, Y := Unit, post := fun x y => True, res := fun x y => .bool (x.all isVal), outs := fun x y => [.top, .top], keep := false }
theorem allVal_ok  : Contract G Tryz.prog 125 s_allVal :=
  vcFun_okP [(126, 0, s_isValue)] [] false (fun x => [(2, lAll isVal (.clo (.func 126) []) x)]) Tryz.func125 rfl (by decide) ⟨isValue_ok, trivial⟩ (fun (x : List Int) => (∀ (y : Unit), True → True ∧ True ∧ True ∧ True) ∧ eA (lAll isVal (AV.clo (.func 126) []) x) [ints x, AV.clo (.func 126) [], ints x, .int .i64 (↑(List.length x) : Int), .int .i64 (0 : Int)] ∧ ∀ (i : Int), allI isVal x i → bcase (decide (i < (↑(List.length x) : Int))) (((0 : Int) ≤ i ∧ i < (↑(List.length x) : Int)) ∧ ∀ (e : Int), x[Int.toNat i]? = some e → cA s_isValue [.int .i64 e] fun x_1 y => bcase (!isVal x_1) (rA s_allVal x [.bool false, .top, .top]) (inR IntKind.i64 (i + (1 : Int)) ∧ eN (lAll isVal (AV.clo (.func 126) []) x) i [ints x, AV.clo (.func 126) [], ints x, .int .i64 (↑(List.length x) : Int), .int .i64 (i + (1 : Int))])) (rA s_allVal x [.bool true, .top, .top])) (fun x => by kernel_rfl) fun (x : List Int) (hx : x.length < 2 ^ 62) => (by
  dsimp only [cA, eA, eN, ints, lAll, rA, s_allVal, s_isValue, hndL, hnd1, mvL, lnL, mvE, lnE, sndL]
  have hx : x.length < 2 ^ 62 := hx
  (repeat' first | (with_reducible first | rfl | exact True.intro | apply inR_i64 | apply And.intro | ((first | apply bcase_dec | apply bcase_bne | apply bcase_beq | apply bcase_not) <;> intro _)) | (apply bcase_intro <;> intro _) | apply sl_eq | refine ex_flip () ?_ ?_ | ((first | apply ex_flip10 | apply ex_flip9 | apply ex_flip8 | apply ex_flip7 | apply ex_flip6 | apply ex_flip5 | apply ex_flip4 | apply ex_flip3 | apply ex_flip2) <;> try dsimp only) | apply ex_flip | (refine Prod.forall.2 ?_; intro _; try dsimp only) | (intro _; try dsimp only))
  all_goals first | exact allI_init | (rename_i i hi hl e he y _ hp; exact (all_not he hp).symm) | (rename_i i hi hl e he y _ hp; exact allI_next hi he hp) | (rename_i i hi hl; exact allI_done hi hl) | (obtain ⟨_, _, _⟩ := ‹allI _ _ _›; (try simp only [i64max] at *); omega) | skip)
def s_allBlk  : Sig := { X := List Int, args := fun x => [ints x, .clo (.func 129) []], pre := fun x => x.length < 2 ^ 62, Y := Unit, post := fun x y => True, res := fun x y => .bool (x.all isBlk), outs := fun x y => [.top, .top], keep := false }
theorem allBlk_ok  : Contract G Tryz.prog 125 s_allBlk :=
  vcFun_okP [(129, 0, s_isBlock)] [] false (fun x => [(2, lAll isBlk (.clo (.func 129) []) x)]) Tryz.func125 rfl (by decide) ⟨isBlock_ok, trivial⟩ (fun (x : List Int) => (∀ (y : Unit), True → True ∧ True ∧ True ∧ True) ∧ eA (lAll isBlk (AV.clo (.func 129) []) x) [ints x, AV.clo (.func 129) [], ints x, .int .i64 (↑(List.length x) : Int), .int .i64 (0 : Int)] ∧ ∀ (i : Int), allI isBlk x i → bcase (decide (i < (↑(List.length x) : Int))) (((0 : Int) ≤ i ∧ i < (↑(List.length x) : Int)) ∧ ∀ (e : Int), x[Int.toNat i]? = some e → cA s_isBlock [.int .i64 e] fun x_1 y => bcase (!isBlk x_1) (rA s_allBlk x [.bool false, .top, .top]) (inR IntKind.i64 (i + (1 : Int)) ∧ eN (lAll isBlk (AV.clo (.func 129) []) x) i [ints x, AV.clo (.func 129) [], ints x, .int .i64 (↑(List.length x) : Int), .int .i64 (i + (1 : Int))])) (rA s_allBlk x [.bool true, .top, .top])) (fun x => by kernel_rfl) fun (x : List Int) (hx : x.length < 2 ^ 62) => (by
  dsimp only [cA, eA, eN, ints, lAll, rA, s_allBlk, s_isBlock, hndL, hnd1, mvL, lnL, mvE, lnE, sndL]
  have hx : x.length < 2 ^ 62 := hx
  (repeat' first | (with_reducible first | rfl | exact True.intro | apply inR_i64 | apply And.intro | ((first | apply bcase_dec | apply bcase_bne | apply bcase_beq | apply bcase_not) <;> intro _)) | (apply bcase_intro <;> intro _) | apply sl_eq | refine ex_flip () ?_ ?_ | ((first | apply ex_flip10 | apply ex_flip9 | apply ex_flip8 | apply ex_flip7 | apply ex_flip6 | apply ex_flip5 | apply ex_flip4 | apply ex_flip3 | apply ex_flip2) <;> try dsimp only) | apply ex_flip | (refine Prod.forall.2 ?_; intro _; try dsimp only) | (intro _; try dsimp only))
  all_goals first | exact allI_init | (rename_i i hi hl e he y _ hp; exact (all_not he hp).symm) | (rename_i i hi hl e he y _ hp; exact allI_next hi he hp) | (rename_i i hi hl; exact allI_done hi hl) | (obtain ⟨_, _, _⟩ := ‹allI _ _ _›; (try simp only [i64max] at *); omega) | skip)
def s_allMem  : Sig := { X := List Int, args := fun x => [ints x, .clo (.func 99) []], pre := fun x => x.length < 2 ^ 62, Y := Unit, post := fun x y => True, res := fun x y => .bool (x.all isMem), outs := fun x y => [.top, .top], keep := false }
theorem allMem_ok  : Contract G Tryz.prog 125 s_allMem :=
  vcFun_okP [(99, 0, s_isMember)] [] false (fun x => [(2, lAll isMem (.clo (.func 99) []) x)]) Tryz.func125 rfl (by decide) ⟨isMember_ok, trivial⟩ (fun (x : List Int) => (∀ (y : Unit), True → True ∧ True ∧ True ∧ True) ∧ eA (lAll isMem (AV.clo (.func 99) []) x) [ints x, AV.clo (.func 99) [], ints x, .int .i64 (↑(List.length x) : Int), .int .i64 (0 : Int)] ∧ ∀ (i : Int), allI isMem x i → bcase (decide (i < (↑(List.length x) : Int))) (((0 : Int) ≤ i ∧ i < (↑(List.length x) : Int)) ∧ ∀ (e : Int), x[Int.toNat i]? = some e → cA s_isMember [.int .i64 e] fun x_1 y => bcase (!isMem x_1) (rA s_allMem x [.bool false, .top, .top]) (inR IntKind.i64 (i + (1 : Int)) ∧ eN (lAll isMem (AV.clo (.func 99) []) x) i [ints x, AV.clo (.func 99) [], ints x, .int .i64 (↑(List.length x) : Int), .int .i64 (i + (1 : Int))])) (rA s_allMem x [.bool true, .top, .top])) (fun x => by kernel_rfl) fun (x : List Int) (hx : x.length < 2 ^ 62) => (by
  dsimp only [cA, eA, eN, ints, lAll, rA, s_allMem, s_isMember, hndL, hnd1, mvL, lnL, mvE, lnE, sndL]
  have hx : x.length < 2 ^ 62 := hx
  (repeat' first | (with_reducible first | rfl | exact True.intro | apply inR_i64 | apply And.intro | ((first | apply bcase_dec | apply bcase_bne | apply bcase_beq | apply bcase_not) <;> intro _)) | (apply bcase_intro <;> intro _) | apply sl_eq | refine ex_flip () ?_ ?_ | ((first | apply ex_flip10 | apply ex_flip9 | apply ex_flip8 | apply ex_flip7 | apply ex_flip6 | apply ex_flip5 | apply ex_flip4 | apply ex_flip3 | apply ex_flip2) <;> try dsimp only) | apply ex_flip | (refine Prod.forall.2 ?_; intro _; try dsimp only) | (intro _; try dsimp only))
  all_goals first | exact allI_init | (rename_i i hi hl e he y _ hp; exact (all_not he hp).symm) | (rename_i i hi hl e he y _ hp; exact allI_next hi he hp) | (rename_i i hi hl; exact allI_done hi hl) | (obtain ⟨_, _, _⟩ := ‹allI _ _ _›; (try simp only [i64max] at *); omega) | skip)
def s_allCl  : Sig := { X := List Int, args := fun x => [ints x, .clo (.func 128) []], pre := fun x => x.length < 2 ^ 62, Y := Unit, post := fun x y => True, res := fun x y => .bool (x.all isCl), outs := fun x y => [.top, .top], keep := false }
theorem allCl_ok  : Contract G Tryz.prog 125 s_allCl :=
  vcFun_okP [(128, 0, s_kf1)] [] false (fun x => [(2, lAll isCl (.clo (.func 128) []) x)]) Tryz.func125 rfl (by decide) ⟨kf1_ok, trivial⟩ (fun (x : List Int) => (∀ (y : Unit), True → True ∧ True ∧ True ∧ True) ∧ eA (lAll isCl (AV.clo (.func 128) []) x) [ints x, AV.clo (.func 128) [], ints x, .int .i64 (↑(List.length x) : Int), .int .i64 (0 : Int)] ∧ ∀ (i : Int), allI isCl x i → bcase (decide (i < (↑(List.length x) : Int))) (((0 : Int) ≤ i ∧ i < (↑(List.length x) : Int)) ∧ ∀ (e : Int), x[Int.toNat i]? = some e → cA s_kf1 [.int .i64 e] fun x_1 y => bcase (!isCl x_1) (rA s_allCl x [.bool false, .top, .top]) (inR IntKind.i64 (i + (1 : Int)) ∧ eN (lAll isCl (AV.clo (.func 128) []) x) i [ints x, AV.clo (.func 128) [], ints x, .int .i64 (↑(List.length x) : Int), .int .i64 (i + (1 : Int))])) (rA s_allCl x [.bool true, .top, .top])) (fun x => by kernel_rfl) fun (x : List Int) (hx : x.length < 2 ^ 62) => (by
  dsimp only [cA, eA, eN, ints, lAll, rA, s_allCl, s_kf1, hndL, hnd1, mvL, lnL, mvE, lnE, sndL]
  have hx : x.length < 2 ^ 62 := hx
  (repeat' first | (with_reducible first | rfl | exact True.intro | apply inR_i64 | apply And.intro | ((first | apply bcase_dec | apply bcase_bne | apply bcase_beq | apply bcase_not) <;> intro _)) | (apply bcase_intro <;> intro _) | apply sl_eq | refine ex_flip () ?_ ?_ | ((first | apply ex_flip10 | apply ex_flip9 | apply ex_flip8 | apply ex_flip7 | apply ex_flip6 | apply ex_flip5 | apply ex_flip4 | apply ex_flip3 | apply ex_flip2) <;> try dsimp only) | apply ex_flip | (refine Prod.forall.2 ?_; intro _; try dsimp only) | (intro _; try dsimp only))
  all_goals first | exact allI_init | (rename_i i hi hl e he y _ hp; exact (all_not he hp).symm) | (rename_i i hi hl e he y _ hp; exact allI_next hi he hp) | (rename_i i hi hl; exact allI_done hi hl) | (obtain ⟨_, _, _⟩ := ‹allI _ _ _›; (try simp only [i64max] at *); omega) | skip)
def s_allSt  : Sig := { X := List Int, args := fun x => [ints x, .clo (.func 130) []], pre := fun x => x.length < 2 ^ 62, Y := Unit, post := fun x y => True, res := fun x y => .bool (x.all isSt), outs := fun x y => [.top, .top], keep := false }
theorem allSt_ok  : Contract G Tryz.prog 125 s_allSt :=
  vcFun_okP [(130, 0, s_kf2)] [] false (fun x => [(2, lAll isSt (.clo (.func 130) []) x)]) Tryz.func125 rfl (by decide) ⟨kf2_ok, trivial⟩ (fun (x : List Int) => (∀ (y : Unit), True → True ∧ True ∧ True ∧ True) ∧ eA (lAll isSt (AV.clo (.func 130) []) x) [ints x, AV.clo (.func 130) [], ints x, .int .i64 (↑(List.length x) : Int), .int .i64 (0 : Int)] ∧ ∀ (i : Int), allI isSt x i → bcase (decide (i < (↑(List.length x) : Int))) (((0 : Int) ≤ i ∧ i < (↑(List.length x) : Int)) ∧ ∀ (e : Int), x[Int.toNat i]? = some e → cA s_kf2 [.int .i64 e] fun x_1 y => bcase (!isSt x_1) (rA s_allSt x [.bool false, .top, .top]) (inR IntKind.i64 (i + (1 : Int)) ∧ eN (lAll isSt (AV.clo (.func 130) []) x) i [ints x, AV.clo (.func 130) [], ints x, .int .i64 (↑(List.length x) : Int), .int .i64 (i + (1 : Int))])) (rA s_allSt x [.bool true, .top, .top])) (fun x => by kernel_rfl) fun (x : List Int) (hx : x.length < 2 ^ 62) => (by
  dsimp only [cA, eA, eN, ints, lAll, rA, s_allSt, s_kf2, hndL, hnd1, mvL, lnL, mvE, lnE, sndL]
  have hx : x.length < 2 ^ 62 := hx
  (repeat' first | (with_reducible first | rfl | exact True.intro | apply inR_i64 | apply And.intro | ((first | apply bcase_dec | apply bcase_bne | apply bcase_beq | apply bcase_not) <;> intro _)) | (apply bcase_intro <;> intro _) | apply sl_eq | refine ex_flip () ?_ ?_ | ((first | apply ex_flip10 | apply ex_flip9 | apply ex_flip8 | apply ex_flip7 | apply ex_flip6 | apply ex_flip5 | apply ex_flip4 | apply ex_flip3 | apply ex_flip2) <;> try dsimp only) | apply ex_flip | (refine Prod.forall.2 ?_; intro _; try dsimp only) | (intro _; try dsimp only))
  all_goals first | exact allI_init | (rename_i i hi hl e he y _ hp; exact (all_not he hp).symm) | (rename_i i hi hl e he y _ hp; exact allI_next hi he hp) | (rename_i i hi hl; exact allI_done hi hl) | (obtain ⟨_, _, _⟩ := ‹allI _ _ _›; (try simp only [i64max] at *); omega) | skip)
def s_allTop  : Sig := { X := List Int, args := fun x => [ints x, .clo (.func 131) []], pre := fun x => x.length < 2 ^ 62, Y := Unit, post := fun x y => True, res := fun x y => .bool (x.all isTop), outs := fun x y => [.top, .top], keep := false }
theorem allTop_ok  : Contract G Tryz.prog 125 s_allTop :=
  vcFun_okP [(131, 0, s_kf3)] [] false (fun x => [(2, lAll isTop (.clo (.func 131) []) x)]) Tryz.func125 rfl (by decide) ⟨kf3_ok, trivial⟩ (fun (x : List Int) => (∀ (y : Unit), True → True ∧ True ∧ True ∧ True) ∧ eA (lAll isTop (AV.clo (.func 131) []) x) [ints x, AV.clo (.func 131) [], ints x, .int .i64 (↑(List.length x) : Int), .int .i64 (0 : Int)] ∧ ∀ (i : Int), allI isTop x i → bcase (decide (i < (↑(List.length x) : Int))) (((0 : Int) ≤ i ∧ i < (↑(List.length x) : Int)) ∧ ∀ (e : Int), x[Int.toNat i]? = some e → cA s_kf3 [.int .i64 e] fun x_1 y => bcase (!isTop x_1) (rA s_allTop x [.bool false, .top, .top]) (inR IntKind.i64 (i + (1 : Int)) ∧ eN (lAll isTop (AV.clo (.func 131) []) x) i [ints x, AV.clo (.func 131) [], ints x, .int .i64 (↑(List.length x) : Int), .int .i64 (i + (1 : Int))])) (rA s_allTop x [.bool true, .top, .top])) (fun x => by kernel_rfl) fun (x : List Int) (hx : x.length < 2 ^ 62) => (by
  dsimp only [cA, eA, eN, ints, lAll, rA, s_allTop, s_kf3, hndL, hnd1, mvL, lnL, mvE, lnE, sndL]
  have hx : x.length < 2 ^ 62 := hx
  (repeat' first | (with_reducible first | rfl | exact True.intro | apply inR_i64 | apply And.intro | ((first | apply bcase_dec | apply bcase_bne | apply bcase_beq | apply bcase_not) <;> intro _)) | (apply bcase_intro <;> intro _) | apply sl_eq | refine ex_flip () ?_ ?_ | ((first | apply ex_flip10 | apply ex_flip9 | apply ex_flip8 | apply ex_flip7 | apply ex_flip6 | apply ex_flip5 | apply ex_flip4 | apply ex_flip3 | apply ex_flip2) <;> try dsimp only) | apply ex_flip | (refine Prod.forall.2 ?_; intro _; try dsimp only) | (intro _; try dsimp only))
  all_goals first | exact allI_init | (rename_i i hi hl e he y _ hp; exact (all_not he hp).symm) | (rename_i i hi hl e he y _ hp; exact allI_next hi he hp) | (rename_i i hi hl; exact allI_done hi hl) | (obtain ⟨_, _, _⟩ := ‹allI _ _ _›; (try simp only [i64max] at *); omega) | skip)
def s_allNm  : Sig := { X := List Int, args := fun x => [ints x, .clo (.func 161) []], pre := fun x => x.length < 2 ^ 62, Y := Unit, post := fun x y => True, res := fun x y => .bool (x.all isNm), outs := fun x y => [.top, .top], keep := false }
theorem allNm_ok  : Contract G Tryz.prog 125 s_allNm :=
  vcFun_okP [(161, 0, s_li1)] [] false (fun x => [(2, lAll isNm (.clo (.func 161) []) x)]) Tryz.func125 rfl (by decide) ⟨li1_ok, trivial⟩ (fun (x : List Int) => (∀ (y : Unit), True → True ∧ True ∧ True ∧ True) ∧ eA (lAll isNm (AV.clo (.func 161) []) x) [ints x, AV.clo (.func 161) [], ints x, .int .i64 (↑(List.length x) : Int), .int .i64 (0 : Int)] ∧ ∀ (i : Int), allI isNm x i → bcase (decide (i < (↑(List.length x) : Int))) (((0 : Int) ≤ i ∧ i < (↑(List.length x) : Int)) ∧ ∀ (e : Int), x[Int.toNat i]? = some e → cA s_li1 [.int .i64 e] fun x_1 y => bcase (!isNm x_1) (rA s_allNm x [.bool false, .top, .top]) (inR IntKind.i64 (i + (1 : Int)) ∧ eN (lAll isNm (AV.clo (.func 161) []) x) i [ints x, AV.clo (.func 161) [], ints x, .int .i64 (↑(List.length x) : Int), .int .i64 (i + (1 : Int))])) (rA s_allNm x [.bool true, .top, .top])) (fun x => by kernel_rfl) fun (x : List Int) (hx : x.length < 2 ^ 62) => (by
  dsimp only [cA, eA, eN, ints, lAll, rA, s_allNm, s_li1, hndL, hnd1, mvL, lnL, mvE, lnE, sndL]
  have hx : x.length < 2 ^ 62 := hx
  (repeat' first | (with_reducible first | rfl | exact True.intro | apply inR_i64 | apply And.intro | ((first | apply bcase_dec | apply bcase_bne | apply bcase_beq | apply bcase_not) <;> intro _)) | (apply bcase_intro <;> intro _) | apply sl_eq | refine ex_flip () ?_ ?_ | ((first | apply ex_flip10 | apply ex_flip9 | apply ex_flip8 | apply ex_flip7 | apply ex_flip6 | apply ex_flip5 | apply ex_flip4 | apply ex_flip3 | apply ex_flip2) <;> try dsimp only) | apply ex_flip | (refine Prod.forall.2 ?_; intro _; try dsimp only) | (intro _; try dsimp only))
  all_goals first | exact allI_init | (rename_i i hi hl e he y _ hp; exact (all_not he hp).symm) | (rename_i i hi hl e he y _ hp; exact allI_next hi he hp) | (rename_i i hi hl; exact allI_done hi hl) | (obtain ⟨_, _, _⟩ := ‹allI _ _ _›; (try simp only [i64max] at *); omega) | skip)
theorem lastIs_nil {p : Int → Bool} {x : List Int} (h : ¬ (0 : Int) < x.length) : false = lastIs p x := by
  obtain rfl : x = [] := List.length_eq_zero_iff.1 (by omega)
  rfl
theorem lastIs_of {p : Int → Bool} {x : List Int} {e : Int} (he : x[(x.length - 1 : Int).toNat]? = some e) : lastIs p x = (p e && (x.take (x.length - 1 : Int).toNat).all isNm) := by
  have e1 : (x.length - 1 : Int).toNat = x.length - 1 := by omega
  rw [e1] at he ⊢
  unfold lastIs
  rw [List.getLast?_eq_getElem?, he, List.dropLast_eq_take]
def s_lastVal  : Sig := { X := List Int, args := fun x => [ints x, .clo (.func 126) []], pre := fun x => x.length < 2 ^ 62, Y := Unit, post := fun x y => True, res := fun x y => .bool (lastIs isVal x), outs := fun x y => [.top, .top], keep := false }
theorem lastVal_ok  : Contract G Tryz.prog 127 s_lastVal :=
  vcFun_okP [(126, 0, s_isValue), (125, 161 + 1, s_allNm)] [] false (fun x => []) Tryz.func127 rfl (by decide) ⟨isValue_ok, allNm_ok, trivial⟩ (fun (x : List Int) => (∀ (y : Unit), True → True ∧ True ∧ True ∧ True) ∧ bcase (decide ((↑(List.length x) : Int) > (0 : Int))) (inR IntKind.i64 ((↑(List.length x) : Int) - (1 : Int)) ∧ ((0 : Int) ≤ (↑(List.length x) : Int) - (1 : Int) ∧ (↑(List.length x) : Int) - (1 : Int) < (↑(List.length x) : Int)) ∧ ∀ (e : Int), x[Int.toNat ((↑(List.length x) : Int) - (1 : Int))]? = some e → cA s_isValue [.int .i64 e] fun x_1 y => bcase (isVal x_1) (inR IntKind.i64 ((↑(List.length x) : Int) - (1 : Int)) ∧ ((0 : Int) ≤ (0 : Int) ∧ (0 : Int) ≤ (↑(List.length x) : Int) - (1 : Int) ∧ (↑(List.length x) : Int) - (1 : Int) ≤ (↑(List.length x) : Int)) ∧ cA s_allNm [ints (List.take (Int.toNat ((↑(List.length x) : Int) - (1 : Int))) x), AV.clo (Fn.func (161 : Nat)) []] fun x_2 y => rA s_lastVal x [.bool (List.all x_2 isNm), .top, .top]) (rA s_lastVal x [.bool false, .top, .top])) (rA s_lastVal x [.bool false, .top, .top])) (fun x => by kernel_rfl) fun (x : List Int) (hx : x.length < 2 ^ 62) => (by
  dsimp only [cA, ints, rA, s_allNm, s_isValue, s_lastVal, hndL, hnd1, mvL, lnL, mvE, lnE]
  have hx : x.length < 2 ^ 62 := hx
  (repeat' first | (with_reducible first | rfl | exact True.intro | apply inR_i64 | apply And.intro | ((first | apply bcase_dec | apply bcase_bne | apply bcase_beq | apply bcase_not) <;> intro _)) | (apply bcase_intro <;> intro _) | apply sl_eq | refine ex_flip () ?_ ?_ | ((first | apply ex_flip10 | apply ex_flip9 | apply ex_flip8 | apply ex_flip7 | apply ex_flip6 | apply ex_flip5 | apply ex_flip4 | apply ex_flip3 | apply ex_flip2) <;> try dsimp only) | apply ex_flip | (refine Prod.forall.2 ?_; intro _; try dsimp only) | (intro _; try dsimp only)) <;> (try dsimp only at *) <;> (try simp only [i64max, List.length_cons, List.length_nil]) <;> (try omega)
  all_goals first | exact lastIs_nil (by omega) | (rw [lastIs_of (by assumption)]; simp [*]; done) | (rw [List.length_take]; omega) | skip)
def s_lastBlk  : Sig := { X := List Int, args := fun x => [ints x, .clo (.func 129) []], pre := fun x => x.length < 2 ^ 62, Y := Unit, post := fun x y => True, res := fun x y => .bool (lastIs isBlk x), outs := fun x y => [.top, .top], keep := false }
theorem lastBlk_ok  : Contract G Tryz.prog 127 s_lastBlk :=
  vcFun_okP [(129, 0, s_isBlock), (125, 161 + 1, s_allNm)] [] false (fun x => []) Tryz.func127 rfl (by decide) ⟨isBlock_ok, allNm_ok, trivial⟩ (fun (x : List Int) => (∀ (y : Unit), True → True ∧ True ∧ True ∧ True) ∧ bcase (decide ((↑(List.length x) : Int) > (0 : Int))) (inR IntKind.i64 ((↑(List.length x) : Int) - (1 : Int)) ∧ ((0 : Int) ≤ (↑(List.length x) : Int) - (1 : Int) ∧ (↑(List.length x) : Int) - (1 : Int) < (↑(List.length x) : Int)) ∧ ∀ (e : Int), x[Int.toNat ((↑(List.length x) : Int) - (1 : Int))]? = some e → cA s_isBlock [.int .i64 e] fun x_1 y => bcase (isBlk x_1) (inR IntKind.i64 ((↑(List.length x) : Int) - (1 : Int)) ∧ ((0 : Int) ≤ (0 : Int) ∧ (0 : Int) ≤ (↑(List.length x) : Int) - (1 : Int) ∧ (↑(List.length x) : Int) - (1 : Int) ≤ (↑(List.length x) : Int)) ∧ cA s_allNm [ints (List.take (Int.toNat ((↑(List.length x) : Int) - (1 : Int))) x), AV.clo (Fn.func (161 : Nat)) []] fun x_2 y => rA s_lastBlk x [.bool (List.all x_2 isNm), .top, .top]) (rA s_lastBlk x [.bool false, .top, .top])) (rA s_lastBlk x [.bool false, .top, .top])) (fun x => by kernel_rfl) fun (x : List Int) (hx : x.length < 2 ^ 62) => (by
  dsimp only [cA, ints, rA, s_allNm, s_isBlock, s_lastBlk, hndL, hnd1, mvL, lnL, mvE, lnE]
  have hx : x.length < 2 ^ 62 := hx
  (repeat' first | (with_reducible first | rfl | exact True.intro | apply inR_i64 | apply And.intro | ((first | apply bcase_dec | apply bcase_bne | apply bcase_beq | apply bcase_not) <;> intro _)) | (apply bcase_intro <;> intro _) | apply sl_eq | refine ex_flip () ?_ ?_ | ((first | apply ex_flip10 | apply ex_flip9 | apply ex_flip8 | apply ex_flip7 | apply ex_flip6 | apply ex_flip5 | apply ex_flip4 | apply ex_flip3 | apply ex_flip2) <;> try dsimp only) | apply ex_flip | (refine Prod.forall.2 ?_; intro _; try dsimp only) | (intro _; try dsimp only)) <;> (try dsimp only at *) <;> (try simp only [i64max, List.length_cons, List.length_nil]) <;> (try omega)
  all_goals first | exact lastIs_nil (by omega) | (rw [lastIs_of (by assumption)]; simp [*]; done) | (rw [List.length_take]; omega) | skip)
def s_kindsFit  : Sig := { X := Int × List Int, args := fun x => [.int .i64 x.1, ints x.2], pre := fun x => x.2.length < 2 ^ 62, Y := Unit, post := fun x y => True, res := fun x y => .bool (kindsOk x.1 x.2), outs := fun x y => [.top, .top], keep := false }
theorem kindsFit_ok  : Contract G Tryz.prog 100 s_kindsFit :=
  vcFun_okP [(126, 0, s_isValue), (129, 0, s_isBlock), (58, 0, s_inRange), (125, 126 + 1, s_allVal), (125, 129 + 1, s_allBlk), (125, 99 + 1, s_allMem), (125, 128 + 1, s_allCl), (125, 130 + 1, s_allSt), (125, 131 + 1, s_allTop), (127, 126 + 1, s_lastVal), (127, 129 + 1, s_lastBlk)] [] false (fun x => []) Tryz.func100 rfl (by decide) ⟨isValue_ok, isBlock_ok, inRange_ok, allVal_ok, allBlk_ok, allMem_ok, allCl_ok, allSt_ok, allTop_ok, lastVal_ok, lastBlk_ok, trivial⟩ (fun (x : Int × List Int) => (∀ (y : Unit), True → True ∧ True ∧ True ∧ True) ∧ cA s_allVal [ints x.2, AV.clo (Fn.func (126 : Nat)) []] fun x_1 y => bcase (x.1 == (1 : Int)) (rA s_kindsFit x [.bool ((↑(List.length x.2) : Int) == (0 : Int)), .top, .top]) (bcase (x.1 == (2 : Int)) (rA s_kindsFit x [.bool ((↑(List.length x.2) : Int) == (0 : Int)), .top, .top]) (bcase (x.1 == (3 : Int)) (rA s_kindsFit x [.bool ((↑(List.length x.2) : Int) == (0 : Int)), .top, .top]) (bcase (x.1 == (19 : Int)) (rA s_kindsFit x [.bool ((↑(List.length x.2) : Int) == (0 : Int)), .top, .top]) (bcase (x.1 == (4 : Int)) (rA s_kindsFit x [.bool (List.all x_1 isVal), .top, .top]) (bcase (x.1 == (5 : Int)) (bcase (decide ((↑(List.length x.2) : Int) ≥ (1 : Int))) (rA s_kindsFit x [.bool (List.all x_1 isVal), .top, .top]) (rA s_kindsFit x [.bool false, .top, .top])) (bcase (x.1 == (7 : Int)) (bcase (decide ((↑(List.length x.2) : Int) ≥ (2 : Int))) (rA s_kindsFit x [.bool (List.all x_1 isVal), .top, .top]) (rA s_kindsFit x [.bool false, .top, .top])) (bcase (x.1 == (8 : Int)) (bcase ((↑(List.length x.2) : Int) == (3 : Int)) (rA s_kindsFit x [.bool (List.all x_1 isVal), .top, .top]) (rA s_kindsFit x [.bool false, .top, .top])) (bcase (x.1 == (6 : Int)) (bcase ((↑(List.length x.2) : Int) == (1 : Int)) (rA s_kindsFit x [.bool (List.all x_1 isVal), .top, .top]) (rA s_kindsFit x [.bool false, .top, .top])) (bcase (x.1 == (11 : Int)) (bcase ((↑(List.length x.2) : Int) == (1 : Int)) (rA s_kindsFit x [.bool (List.all x_1 isVal), .top, .top]) (rA s_kindsFit x [.bool false, .top, .top])) (bcase (x.1 == (13 : Int)) (bcase ((↑(List.length x.2) : Int) == (1 : Int)) (rA s_kindsFit x [.bool (List.all x_1 isVal), .top, .top]) (rA s_kindsFit x [.bool false, .top, .top])) (bcase (x.1 == (14 : Int)) (bcase ((↑(List.length x.2) : Int) == (1 : Int)) (rA s_kindsFit x [.bool (List.all x_1 isVal), .top, .top]) (rA s_kindsFit x [.bool false, .top, .top])) (bcase (x.1 == (12 : Int)) (bcase (decide ((↑(List.length x.2) : Int) ≤ (1 : Int))) (rA s_kindsFit x [.bool (List.all x_1 isVal), .top, .top]) (rA s_kindsFit x [.bool false, .top, .top])) (bcase (x.1 == (15 : Int)) (bcase (decide ((↑(List.length x.2) : Int) ≤ (1 : Int))) (rA s_kindsFit x [.bool (List.all x_1 isVal), .top, .top]) (rA s_kindsFit x [.bool false, .top, .top])) (bcase (x.1 == (9 : Int)) (cA s_lastVal [ints x.2, AV.clo (Fn.func (126 : Nat)) []] fun x_2 y => rA s_kindsFit x [.bool (lastIs isVal x_2), .top, .top]) (bcase (x.1 == (10 : Int)) (bcase (decide ((↑(List.length x.2) : Int) ≥ (2 : Int))) (((0 : Int) ≤ (0 : Int) ∧ (0 : Int) < (↑(List.length x.2) : Int)) ∧ ∀ (e : Int), x.2[(0 : Nat)]? = some e → cA s_isValue [.int .i64 e] fun x_2 y => bcase (isVal x_2) (((0 : Int) ≤ (1 : Int) ∧ (1 : Int) ≤ (↑(List.length x.2) : Int) ∧ (↑(List.length x.2) : Int) ≤ (↑(List.length x.2) : Int)) ∧ cA s_allCl [ints (List.drop (1 : Nat) x.2), AV.clo (Fn.func (128 : Nat)) []] fun x_3 y => rA s_kindsFit x [.bool (List.all x_3 isCl), .top, .top]) (rA s_kindsFit x [.bool false, .top, .top])) (rA s_kindsFit x [.bool false, .top, .top])) (bcase (x.1 == (16 : Int)) (cA s_inRange [.int .i64 (↑(List.length x.2) : Int), .int .i64 (2 : Int), .int .i64 (3 : Int)] fun x_2 y => bcase (inn x_2.1 x_2.2.1 x_2.2.2) (((0 : Int) ≤ (0 : Int) ∧ (0 : Int) < (↑(List.length x.2) : Int)) ∧ ∀ (e : Int), x.2[(0 : Nat)]? = some e → cA s_isValue [.int .i64 e] fun x_3 y => bcase (isVal x_3) (((0 : Int) ≤ (1 : Int) ∧ (1 : Int) ≤ (↑(List.length x.2) : Int) ∧ (↑(List.length x.2) : Int) ≤ (↑(List.length x.2) : Int)) ∧ cA s_allBlk [ints (List.drop (1 : Nat) x.2), AV.clo (Fn.func (129 : Nat)) []] fun x_4 y => rA s_kindsFit x [.bool (List.all x_4 isBlk), .top, .top]) (rA s_kindsFit x [.bool false, .top, .top])) (rA s_kindsFit x [.bool false, .top, .top])) (bcase (x.1 == (17 : Int)) (bcase ((↑(List.length x.2) : Int) == (2 : Int)) (((0 : Int) ≤ (0 : Int) ∧ (0 : Int) < (↑(List.length x.2) : Int)) ∧ ∀ (e : Int), x.2[(0 : Nat)]? = some e → cA s_isValue [.int .i64 e] fun x_2 y => bcase (isVal x_2) (((0 : Int) ≤ (1 : Int) ∧ (1 : Int) < (↑(List.length x.2) : Int)) ∧ ∀ (e : Int), x.2[(1 : Nat)]? = some e → cA s_isBlock [.int .i64 e] fun x_3 y => rA s_kindsFit x [.bool (isBlk x_3), .top, .top]) (rA s_kindsFit x [.bool false, .top, .top])) (rA s_kindsFit x [.bool false, .top, .top])) (bcase (x.1 == (18 : Int)) (cA s_allSt [ints x.2, AV.clo (Fn.func (130 : Nat)) []] fun x_2 y => rA s_kindsFit x [.bool (List.all x_2 isSt), .top, .top]) (bcase (x.1 == (20 : Int)) (cA s_lastBlk [ints x.2, AV.clo (Fn.func (129 : Nat)) []] fun x_2 y => rA s_kindsFit x [.bool (lastIs isBlk x_2), .top, .top]) (bcase (x.1 == (21 : Int)) (cA s_allMem [ints x.2, AV.clo (Fn.func (99 : Nat)) []] fun x_2 y => rA s_kindsFit x [.bool (List.all x_2 isMem), .top, .top]) (bcase (x.1 == (22 : Int)) (cA s_allTop [ints x.2, AV.clo (Fn.func (131 : Nat)) []] fun x_2 y => rA s_kindsFit x [.bool (List.all x_2 isTop), .top, .top]) (rA s_kindsFit x [.bool false, .top, .top]))))))))))))))))))))))) (fun x => by kernel_rfl) fun (x : Int × List Int) (hx : x.2.length < 2 ^ 62) => (by
  dsimp only [cA, ints, rA, s_allBlk, s_allCl, s_allMem, s_allSt, s_allTop, s_allVal, s_inRange, s_isBlock, s_isValue, s_kindsFit, s_lastBlk, s_lastVal, hndL, hnd1, mvL, lnL, mvE, lnE]
  have hx : x.2.length < 2 ^ 62 := hx
  obtain ⟨k, l⟩ := x
  (repeat' first | (with_reducible first | rfl | exact True.intro | apply inR_i64 | apply And.intro | ((first | apply bcase_dec | apply bcase_bne | apply bcase_beq | apply bcase_not) <;> intro _)) | (apply bcase_intro <;> intro _) | apply sl_eq | refine ex_flip () ?_ ?_ | ((first | apply ex_flip10 | apply ex_flip9 | apply ex_flip8 | apply ex_flip7 | apply ex_flip6 | apply ex_flip5 | apply ex_flip4 | apply ex_flip3 | apply ex_flip2) <;> try dsimp only) | apply ex_flip | (refine Prod.forall.2 ?_; intro _; try dsimp only) | (intro _; try dsimp only)) <;> (try dsimp only at *) <;> (try simp only [i64max, List.length_cons, List.length_nil]) <;> (try omega)
  all_goals try (simp only [List.length_drop]; omega)
  all_goals try (simp [kindsOk, beqI, *] <;> omega)
  all_goals (match l with
    | [] => simp_all [kindsOk, inn] <;> omega
    | [a] => simp_all [kindsOk, inn] <;> omega
    | [a, b] => simp_all [kindsOk, inn] <;> omega
    | [a, b, c] => simp_all [kindsOk, inn] <;> omega
    | a :: b :: c :: d :: m => simp_all [kindsOk, inn] <;> omega))
def s_isNode  : Sig := { X := List Nd × Int, args := fun x => [nds x.1, .int .i64 x.2], pre := fun x => x.1.length < 2 ^ 62, Y := Unit, post := fun x y => True, res := fun x y => .bool (isNd x.1 x.2), outs := fun x y => [.top, .top], keep := false }
theorem isNode_ok  : Contract G Tryz.prog 56 s_isNode :=
  vcFun_okP [] [] false (fun x => []) Tryz.func56 rfl (by decide) trivial (fun (x : List Nd × Int) => (∀ (y : Unit), True → True ∧ True ∧ True ∧ True) ∧ bcase (decide (x.2 ≥ (0 : Int))) (rA s_isNode x [.bool (decide (x.2 < (↑(List.length x.1) : Int))), .top, .top]) (rA s_isNode x [.bool false, .top, .top])) (fun x => by kernel_rfl) fun (x : List Nd × Int) (hx : x.1.length < 2 ^ 62) => (by
  dsimp only [ndA_e, nds, rA, s_isNode, hndL, hnd1]
  have hx : x.1.length < 2 ^ 62 := hx
  (repeat' first | (with_reducible first | rfl | exact True.intro | apply inR_i64 | apply And.intro | ((first | apply bcase_dec | apply bcase_bne | apply bcase_beq | apply bcase_not) <;> intro _)) | (apply bcase_intro <;> intro _) | apply sl_eq | refine ex_flip () ?_ ?_ | ((first | apply ex_flip10 | apply ex_flip9 | apply ex_flip8 | apply ex_flip7 | apply ex_flip6 | apply ex_flip5 | apply ex_flip4 | apply ex_flip3 | apply ex_flip2) <;> try dsimp only) | apply ex_flip | (refine Prod.forall.2 ?_; intro _; try dsimp only) | (intro _; try dsimp only)) <;> (try dsimp only at *) <;> (try simp only [i64max, List.length_cons, List.length_nil]) <;> (try omega)
  all_goals simp [isNd, *])
end Go.My
end
