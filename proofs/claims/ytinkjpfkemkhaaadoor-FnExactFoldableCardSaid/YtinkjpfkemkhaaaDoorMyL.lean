/- What is reckoned ahead, plainly. -/
import Derived.Test.YtinkjpfkemkhaaaDoorMyK
set_option linter.unusedVariables false
set_option linter.unusedSimpArgs false
namespace Go.My
open Go.Eng

def figV (s : List UInt8) : Int := s.foldl (fun n c => n * 10 + ((c.toNat : Int) - 48)) 0
def reck (t : List UInt8) (a b : Int) : Int := if t = [43] then a + b else if t = [45] then a - b else a * b
def big : Int := 1000000000
def stepV (t : List UInt8) (a b : Option Int) : Option Int := match a, b with
  | some a, some b => if inn (reck t a b) (-1000000000) 1000000000 then some (reck t a b) else none
  | _, _ => none
def chainF (t : List UInt8) : List (Option Int) → Option Int
  | [] => some 0
  | a :: l => l.foldl (stepV t) a
def opOk (t : List UInt8) : Bool := t == [43] || (t == [45] || t == [42])
def chainV (t : List UInt8) (l : List (Option Int)) : Option Int := if opOk t then chainF t l else none
def cst (ns : List Nd) : Nat → Int → Option Int
  | 0, _ => none
  | n + 1, k => if (ndAt ns k).kind = 2 then (if 9 < (ndAt ns k).text.length then none else some (figV (ndAt ns k).text))
    else if (ndAt ns k).kind = 11 then cst ns n ((ndAt ns k).kids.headD 0)
    else if (ndAt ns k).kind = 7 then chainV (ndAt ns k).text ((ndAt ns k).kids.map (cst ns n)) else none
def cV (ns : List Nd) (k : Int) : Option Int := cst ns (k.toNat + 1) k
def okUp (ns : List Nd) (k : Int) : Prop := isNd ns k = true ∧ ∀ i : Nat, (i : Int) ≤ k → nodeOk ns i = true
theorem okUp_of {ns : List Nd} {k : Int} (h : deepOf ns k ≠ 0) : okUp ns k := ⟨(deepOf_pos h).1, (deepOf_pos h).2.2⟩
theorem okUp_at {ns : List Nd} {k : Int} (h : okUp ns k) : nodeOk ns k = true := by
  have := isNd_iff.1 h.1
  have h2 := h.2 k.toNat (by omega)
  rwa [show ((k.toNat : Nat) : Int) = k by omega] at h2
theorem okUp_kid {ns : List Nd} {k c : Int} (h : okUp ns k) (hc : c ∈ (ndAt ns k).kids) : okUp ns c ∧ 0 ≤ c ∧ c < k := by
  have h1 := (nodeOk_parts (okUp_at h)).2.2.2.1 c hc
  have h2 := isNd_iff.1 h.1
  exact ⟨⟨isNd_iff.2 (by omega), fun i hi => h.2 i (by omega)⟩, h1⟩
/- what kinds want -/
theorem kinds11 {ns : List Nd} {x : Nd} (h : kindsOk x.kind (x.kids.map (kindAt ns)) = true) (hk : x.kind = 11) : ∃ c, x.kids = [c] := by
  rw [hk] at h
  simp [kindsOk] at h
  match hx : x.kids with
  | [] => rw [hx] at h; simp at h
  | [c] => exact ⟨c, rfl⟩
  | c :: d :: l => rw [hx] at h; simp at h
theorem kinds7 {ns : List Nd} {x : Nd} (h : kindsOk x.kind (x.kids.map (kindAt ns)) = true) (hk : x.kind = 7) : 2 ≤ x.kids.length := by
  rw [hk] at h
  simp [kindsOk] at h; exact h.1
theorem okUp11 {ns : List Nd} {k : Int} (h : okUp ns k) (hk : (ndAt ns k).kind = 11) : ∃ c, (ndAt ns k).kids = [c] := kinds11 (nodeOk_parts (okUp_at h)).2.2.2.2.2.1 hk
theorem okUp7 {ns : List Nd} {k : Int} (h : okUp ns k) (hk : (ndAt ns k).kind = 7) : 2 ≤ (ndAt ns k).kids.length := kinds7 (nodeOk_parts (okUp_at h)).2.2.2.2.2.1 hk
theorem sg_num_all {s : List UInt8} (h : isSgn s 2 = true) : s.all isFig = true ∧ 1 ≤ s.length ∧ s.length ≤ 12 := by
  rw [sg_num] at h
  simp only [Bool.and_eq_true, decide_eq_true_eq] at h
  exact ⟨h.1, h.2.1, h.2.2⟩
theorem okUp2 {ns : List Nd} {k : Int} (h : okUp ns k) (hk : (ndAt ns k).kind = 2) : (ndAt ns k).text.all isFig = true ∧ 1 ≤ (ndAt ns k).text.length ∧ (ndAt ns k).text.length ≤ 12 := by
  have := (nodeOk_parts (okUp_at h)).2.2.1
  rw [hk] at this
  exact sg_num_all (by simpa [textOk] using this)
theorem cst_eq {ns : List Nd} : ∀ {n m : Nat} {k : Int}, okUp ns k → k.toNat < n → k.toNat < m → cst ns n k = cst ns m k
  | 0, _, _, _, h, _ => by omega
  | _, 0, _, _, _, h => by omega
  | n + 1, m + 1, k, h, h1, h2 => by
    have hr := isNd_iff.1 h.1
    simp only [cst]
    by_cases e2 : (ndAt ns k).kind = 2
    · rw [if_pos e2, if_pos e2]
    · rw [if_neg e2, if_neg e2]
      by_cases e11 : (ndAt ns k).kind = 11
      · rw [if_pos e11, if_pos e11]
        obtain ⟨c, hc⟩ := okUp11 h e11
        obtain ⟨h3, h4⟩ := okUp_kid h (c := c) (by rw [hc]; simp)
        rw [hc]; exact cst_eq h3 (by simp; omega) (by simp; omega)
      · rw [if_neg e11, if_neg e11]
        congr 2
        apply List.map_congr_left
        intro c hc
        obtain ⟨h3, h4⟩ := okUp_kid h hc
        exact cst_eq h3 (by omega) (by omega)
theorem cV_def {ns : List Nd} {k : Int} (h : okUp ns k) : cV ns k = if (ndAt ns k).kind = 2 then (if 9 < (ndAt ns k).text.length then none else some (figV (ndAt ns k).text))
    else if (ndAt ns k).kind = 11 then cV ns ((ndAt ns k).kids.headD 0)
    else if (ndAt ns k).kind = 7 then chainV (ndAt ns k).text ((ndAt ns k).kids.map (cV ns)) else none := by
  have hr := isNd_iff.1 h.1
  rw [cV, cst]
  by_cases e2 : (ndAt ns k).kind = 2
  · rw [if_pos e2, if_pos e2]
  · rw [if_neg e2, if_neg e2]
    by_cases e11 : (ndAt ns k).kind = 11
    · rw [if_pos e11, if_pos e11]
      obtain ⟨c, hc⟩ := okUp11 h e11
      obtain ⟨h3, h4⟩ := okUp_kid h (c := c) (by rw [hc]; simp)
      rw [hc]; exact cst_eq h3 (by simp; omega) (by simp)
    · rw [if_neg e11, if_neg e11]
      congr 2
      apply List.map_congr_left
      intro c hc
      obtain ⟨h3, h4⟩ := okUp_kid h hc
      exact cst_eq h3 (by omega) (by omega)
/- bounds -/
theorem figV_snoc {s : List UInt8} {c : UInt8} : figV (s ++ [c]) = figV s * 10 + ((c.toNat : Int) - 48) := by simp [figV, List.foldl_append]
theorem figV_take {s : List UInt8} {n : Nat} {c : UInt8} (h : s[n]? = some c) : figV (s.take (n + 1)) = figV (s.take n) * 10 + ((c.toNat : Int) - 48) := by
  rw [takeE h, figV_snoc]
theorem figV_bd1 : ∀ (n : Nat) {s : List UInt8}, s.all isFig = true → s.length = n → 0 ≤ figV s ∧ figV s < 10 ^ n
  | 0, s, h, hn => by
    obtain rfl : s = [] := List.length_eq_zero_iff.1 hn
    simp [figV]
  | n + 1, s, h, hn => by
    have hne : s ≠ [] := by intro e; rw [e] at hn; simp at hn
    have e := (List.dropLast_concat_getLast hne).symm
    generalize hl : s.dropLast = l at e
    generalize s.getLast hne = c at e
    subst e
    simp only [List.all_append, Bool.and_eq_true] at h
    have ih := figV_bd1 n h.1 (by simpa using hn)
    have hc : isFig c = true := by simpa using h.2
    simp only [isFig, Bool.and_eq_true, decide_eq_true_eq] at hc
    rw [figV_snoc, Int.pow_succ]; omega
theorem figV_bd {s : List UInt8} (h : s.all isFig = true) (h9 : s.length ≤ 9) : 0 ≤ figV s ∧ figV s < 1000000000 := by
  obtain ⟨h1, h2⟩ := figV_bd1 s.length h rfl
  refine ⟨h1, ?_⟩
  have : s.length = 0 ∨ s.length = 1 ∨ s.length = 2 ∨ s.length = 3 ∨ s.length = 4 ∨ s.length = 5 ∨ s.length = 6 ∨ s.length = 7 ∨ s.length = 8 ∨ s.length = 9 := by omega
  rcases this with e | e | e | e | e | e | e | e | e | e <;> rw [e] at h2 <;> simp at h2 <;> omega
theorem mul_bd {a b : Int} (h1 : -1000000000 ≤ a) (h2 : a ≤ 1000000000) (h3 : -1000000000 ≤ b) (h4 : b ≤ 1000000000) : -1000000000000000000 ≤ a * b ∧ a * b ≤ 1000000000000000000 := by
  have k1 : (a * b).natAbs ≤ 1000000000 * 1000000000 := by
    rw [Int.natAbs_mul]
    exact Nat.mul_le_mul (by omega) (by omega)
  omega
def bdd (v : Int) : Prop := -1000000000 ≤ v ∧ v ≤ 1000000000
theorem stepV_bd {t : List UInt8} {a b : Option Int} {v : Int} (h : stepV t a b = some v) : bdd v := by
  unfold stepV at h
  split at h
  · split at h
    · rename_i hi; cases h; exact inn_iff.1 hi
    · cases h
  · cases h
theorem foldV_bd {t : List UInt8} : ∀ {l : List (Option Int)} {a : Option Int} {v : Int}, (∀ w, a = some w → bdd w) → l.foldl (stepV t) a = some v → bdd v
  | [], a, v, h, hv => h v hv
  | b :: l, a, v, h, hv => foldV_bd (l := l) (fun w hw => stepV_bd hw) hv
theorem cst_bd {ns : List Nd} : ∀ {n : Nat} {k : Int} {v : Int}, okUp ns k → k.toNat < n → cst ns n k = some v → bdd v
  | 0, _, _, _, h, _ => by omega
  | n + 1, k, v, h, h1, hv => by
    have hr := isNd_iff.1 h.1
    simp only [cst] at hv
    by_cases e2 : (ndAt ns k).kind = 2
    · rw [if_pos e2] at hv
      split at hv
      · cases hv
      · simp only [Option.some.injEq] at hv
        have := figV_bd (okUp2 h e2).1 (by omega)
        unfold bdd; omega
    · rw [if_neg e2] at hv
      by_cases e11 : (ndAt ns k).kind = 11
      · rw [if_pos e11] at hv
        obtain ⟨c, hc⟩ := okUp11 h e11
        obtain ⟨h3, h4⟩ := okUp_kid h (c := c) (by rw [hc]; simp)
        rw [hc] at hv
        exact cst_bd (k := c) h3 (by omega) hv
      · rw [if_neg e11] at hv
        by_cases e7 : (ndAt ns k).kind = 7
        · rw [if_pos e7] at hv
          unfold chainV at hv
          split at hv
          · have h2 := okUp7 h e7
            match hkk : (ndAt ns k).kids with
            | [] => rw [hkk] at h2; simp at h2
            | c :: l =>
              rw [hkk] at hv
              simp only [List.map_cons, chainF] at hv
              obtain ⟨h3, h4⟩ := okUp_kid h (c := c) (by rw [hkk]; simp)
              exact foldV_bd (fun w hw => cst_bd h3 (by omega) hw) hv
          · cases hv
        · rw [if_neg e7] at hv; cases hv
theorem cV_bd {ns : List Nd} {k v : Int} (h : okUp ns k) (hv : cV ns k = some v) : bdd v := cst_bd h (by omega) hv
def oI (o : Option Int) : Int := o.getD 0
theorem oI_bd {ns : List Nd} {k : Int} (h : okUp ns k) : bdd (oI (cV ns k)) := by
  unfold oI
  cases hv : cV ns k with
  | none => unfold bdd; simp
  | some v => exact cV_bd h hv
/- a chain, one kid more -/
theorem chainF_snoc {t : List UInt8} {l : List (Option Int)} {b : Option Int} (h : l ≠ []) : chainF t (l ++ [b]) = stepV t (chainF t l) b := by
  cases l with
  | nil => exact (h rfl).elim
  | cons a l => simp [chainF, List.foldl_append]
theorem fold_none {t : List UInt8} : ∀ {l : List (Option Int)}, l.foldl (stepV t) none = none
  | [] => rfl
  | b :: l => by simp only [List.foldl_cons]; rw [show stepV t none b = none from rfl]; exact fold_none
theorem chainF_none {t : List UInt8} {l m : List (Option Int)} (h : l ≠ []) (hn : chainF t l = none) : chainF t (l ++ m) = none := by
  cases l with
  | nil => exact (h rfl).elim
  | cons a l =>
    simp only [chainF, List.cons_append, List.foldl_append] at hn ⊢
    rw [hn]; exact fold_none
end Go.My
