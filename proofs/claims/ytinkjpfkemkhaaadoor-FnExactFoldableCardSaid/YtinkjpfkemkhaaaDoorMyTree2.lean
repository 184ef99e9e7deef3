/- Nodes, plainly: the two ways to say when one is right. -/
import Derived.Test.YtinkjpfkemkhaaaDoorMyTree
set_option linter.unusedVariables false
set_option linter.unusedSimpArgs false
namespace Go.My
open Go.Eng

def lohi (k : Int) : Int × Int :=
  if k = 4 ∨ k = 18 ∨ k = 21 ∨ k = 22 then (0, 12)
  else if k = 5 ∨ k = 9 ∨ k = 20 then (1, 12)
  else if k = 6 ∨ k = 11 ∨ k = 13 ∨ k = 14 then (1, 1)
  else if k = 7 ∨ k = 10 then (2, 12)
  else if k = 8 then (3, 3)
  else if k = 12 ∨ k = 15 then (0, 1)
  else if k = 16 then (2, 3)
  else if k = 17 then (2, 2)
  else (0, 0)
/- by its kind alone -/
def fitKind (k n i y : Int) : Bool :=
  if k = 9 then (if i + 1 < n then isNm y else isVal y)
  else if k = 20 then (if i + 1 < n then isNm y else isBlk y)
  else if k = 10 then (if 0 < i then isCl y else isVal y)
  else if k = 16 ∨ k = 17 then (if 0 < i then isBlk y else isVal y)
  else if k = 18 then isSt y
  else if k = 21 then isMem y
  else if k = 22 then isTop y
  else isVal y
def fitK (ns : List Nd) (x : Nd) (i c : Int) : Bool :=
  fitKind x.kind x.kids.length i (kindAt ns c) && (if x.kind = 10 ∧ 0 < i then decide (kindAt ns ((ndAt ns c).kids.headD 0) = 1) else true)
def kidOkS (ns : List Nd) (x : Nd) (i c : Int) : Bool :=
  (!(decide (kindAt ns c = 5) && (decide ((ndAt ns c).kids.length = 0) || !isNd ns ((ndAt ns c).kids.headD 0)))) && fitK ns x i c
def allAt (f : Int → Int → Bool) : List Int → Int → Bool
  | [], _ => true
  | c :: l, i => f i c && allAt f l (i + 1)
theorem allAt_congr {f g : Int → Int → Bool} : ∀ {l : List Int} {i : Int}, (∀ j c, i ≤ j → j < i + l.length → c ∈ l → f j c = g j c) → allAt f l i = allAt g l i
  | [], i, h => rfl
  | c :: l, i, h => by
    simp only [allAt]
    rw [h i c (Int.le_refl i) (by simp; omega) (by simp), allAt_congr (fun j c hj hl hc => h j c (by omega) (by simp; omega) (by simp [hc]))]
theorem allAt_and {f g : Int → Int → Bool} : ∀ {l : List Int} {i : Int}, allAt (fun i c => f i c && g i c) l i = (allAt f l i && allAt g l i)
  | [], i => rfl
  | c :: l, i => by
    simp only [allAt]; rw [allAt_and]
    cases f i c <;> cases g i c <;> cases allAt f l (i + 1) <;> cases allAt g l (i + 1) <;> rfl
theorem allAt_const {f : Int → Bool} : ∀ {l : List Int} {i : Int}, allAt (fun _ c => f c) l i = l.all f
  | [], i => rfl
  | c :: l, i => by simp only [allAt, List.all_cons]; rw [allAt_const]
theorem allAt_map {f : Int → Int → Bool} {g : Int → Int} : ∀ {l : List Int} {i : Int}, allAt f (l.map g) i = allAt (fun i c => f i (g c)) l i
  | [], i => rfl
  | c :: l, i => by simp only [allAt, List.map_cons]; rw [allAt_map]
theorem allAt_append {f : Int → Int → Bool} : ∀ {l m : List Int} {i : Int}, allAt f (l ++ m) i = (allAt f l i && allAt f m (i + l.length))
  | [], m, i => by simp [allAt]
  | c :: l, m, i => by
    simp only [List.cons_append, allAt]; rw [allAt_append, Bool.and_assoc]
    congr 2; congr 1; simp; omega
theorem allAt_zip {f : Int → Int → Bool} : ∀ {l : List Int} {i : Nat}, ((l.zipIdx i).all fun p => f p.2 p.1) = allAt f l i
  | [], i => rfl
  | c :: l, i => by
    simp only [List.zipIdx_cons, List.all_cons, allAt]; rw [allAt_zip]; congr 2
theorem allAt_iff {f : Int → Int → Bool} {l : List Int} : allAt f l 0 = true ↔ ∀ (j : Nat) c, l[j]? = some c → f j c = true := by
  have : ∀ (l : List Int) (i : Nat), allAt f l i = true ↔ ∀ (j : Nat) c, l[j]? = some c → f (i + j : Nat) c = true := by
    intro l
    induction l with
    | nil => intro i; simp [allAt]
    | cons c l ih =>
      intro i
      simp only [allAt, Bool.and_eq_true]
      have := ih (i + 1)
      rw [show ((i : Int) + 1) = ((i + 1 : Nat) : Int) from by omega, this]
      constructor
      · rintro ⟨h1, h2⟩ j d hd
        cases j with
        | zero => simp at hd; subst hd; simpa using h1
        | succ j => have := h2 j d (by simpa using hd); rwa [show i + 1 + j = i + (j + 1) by omega] at this
      · intro h
        refine ⟨by simpa using h 0 c rfl, fun j d hd => ?_⟩
        have := h (j + 1) d (by simpa using hd)
        rwa [show i + (j + 1) = i + 1 + j by omega] at this
  have := this l 0
  simpa using this
/- the kids' kinds, one way and the other -/
theorem last_split {l : List Int} {k : Int} (h : l.getLast? = some k) : l = l.dropLast ++ [k] := by
  have hne : l ≠ [] := by intro e; rw [e] at h; cases h
  rw [List.getLast?_eq_some_getLast hne] at h
  have := List.dropLast_concat_getLast hne
  rw [Option.some.inj h] at this; exact this.symm
theorem fit_last {p : Int → Bool} {l : List Int} : (decide (1 ≤ l.length) && allAt (fun i y => if i + 1 < (l.length : Int) then isNm y else p y) l 0) = lastIs p l := by
  unfold lastIs
  cases h : l.getLast? with
  | none => have : l = [] := by simpa using h
            subst this; rfl
  | some k =>
    have e := last_split h
    generalize hd : l.dropLast = m at e ⊢
    subst e
    rw [allAt_append]
    have h1 : allAt (fun i y => if i + 1 < ((m ++ [k]).length : Int) then isNm y else p y) m 0 = m.all isNm := by
      rw [← allAt_const (i := 0)]
      exact allAt_congr fun j c h0 hj hc => if_pos (by simp; omega)
    rw [h1]
    simp only [allAt]
    have h2 : ¬ ((0 : Int) + m.length + 1 < ((m ++ [k]).length : Int)) := by simp
    rw [if_neg h2]
    have : decide (1 ≤ (m ++ [k]).length) = true := by simp
    rw [this]; simp [Bool.and_comm]
theorem fit_head {p q : Int → Bool} {c : Int} {l : List Int} : allAt (fun i y => if 0 < i then q y else p y) (c :: l) 0 = (p c && l.all q) := by
  simp only [allAt]
  have h1 : ¬ ((0 : Int) < 0) := by omega
  rw [if_neg h1]
  congr 1
  rw [← allAt_const (i := 0 + 1)]
  exact allAt_congr fun j c h0 hj hc => if_pos (by omega)
theorem kinds_bridge {k : Int} {l : List Int} (h1 : 1 ≤ k) (h2 : k ≤ 22) : (inn l.length (lohi k).1 (lohi k).2 && allAt (fun i y => fitKind k l.length i y) l 0) = (decide (l.length ≤ 12) && kindsOk k l) := by
  have hk : k = 1 ∨ k = 2 ∨ k = 3 ∨ k = 4 ∨ k = 5 ∨ k = 6 ∨ k = 7 ∨ k = 8 ∨ k = 9 ∨ k = 10 ∨ k = 11 ∨ k = 12 ∨ k = 13 ∨ k = 14 ∨ k = 15 ∨ k = 16 ∨ k = 17 ∨ k = 18 ∨ k = 19 ∨ k = 20 ∨ k = 21 ∨ k = 22 := by omega
  have len0 : ∀ {b c : Bool}, l.length = 0 → (l = []) := fun h => List.length_eq_zero_iff.1 h
  rcases hk with rfl | rfl | rfl | rfl | rfl | rfl | rfl | rfl | rfl | rfl | rfl | rfl | rfl | rfl | rfl | rfl | rfl | rfl | rfl | rfl | rfl | rfl
  all_goals simp only [lohi, fitKind, kindsOk, inn, Int.reduceEq, or_self, or_false, false_or, or_true, true_or, if_true, if_false, reduceIte]
  -- without kids
  all_goals try (
    by_cases h : l.length = 0
    · have := List.length_eq_zero_iff.1 h; subst this; rfl
    · have e1 : decide ((l.length : Int) ≤ 0) = false := decide_eq_false (by omega)
      have e2 : decide (l.length = 0) = false := decide_eq_false h
      simp only [e1, e2, Bool.and_false, Bool.false_and]; done)
  all_goals try rw [allAt_const]
  all_goals try (
    generalize l.all _ = b
    rw [Bool.eq_iff_iff]; cases b <;> simp only [Bool.and_eq_true, decide_eq_true_eq, Bool.false_eq_true, and_false, and_true] <;> omega)
  -- 9
  · rw [show decide (1 ≤ (l.length : Int)) = decide (1 ≤ l.length) from decide_eq_decide.2 (by omega), show decide ((l.length : Int) ≤ 12) = decide (l.length ≤ 12) from decide_eq_decide.2 (by omega), ← fit_last (p := isVal)]
    generalize allAt _ l 0 = b
    cases decide (1 ≤ l.length) <;> cases decide (l.length ≤ 12) <;> cases b <;> rfl
  -- 10
  · cases l with
    | nil => rfl
    | cons c l =>
      rw [fit_head]
      simp only [List.headD_cons, List.drop_succ_cons, List.drop_zero]
      generalize isVal c = b; generalize l.all _ = d
      rw [Bool.eq_iff_iff]; cases b <;> cases d <;> simp only [Bool.and_eq_true, decide_eq_true_eq, Bool.false_eq_true, and_false, and_true] <;> omega
  -- 16
  · cases l with
    | nil => rfl
    | cons c l =>
      rw [fit_head]
      simp only [List.headD_cons, List.drop_succ_cons, List.drop_zero]
      generalize isVal c = b; generalize l.all _ = d
      rw [Bool.eq_iff_iff]; cases b <;> cases d <;> simp only [Bool.and_eq_true, decide_eq_true_eq, Bool.false_eq_true, and_false, and_true] <;> omega
  -- 17
  · match l with
    | [] => rfl
    | [c] => rfl
    | [c, d] => simp [allAt]
    | c :: d :: e :: l =>
      have e1 : decide (((c :: d :: e :: l).length : Int) ≤ 2) = false := decide_eq_false (by simp; omega)
      have e2 : decide ((c :: d :: e :: l).length = 2) = false := decide_eq_false (by simp)
      rw [e1, e2]; simp
  -- 20
  · rw [show decide (1 ≤ (l.length : Int)) = decide (1 ≤ l.length) from decide_eq_decide.2 (by omega), show decide ((l.length : Int) ≤ 12) = decide (l.length ≤ 12) from decide_eq_decide.2 (by omega), ← fit_last (p := isBlk)]
    generalize allAt _ l 0 = b
    cases decide (1 ≤ l.length) <;> cases decide (l.length ≤ 12) <;> cases b <;> rfl
theorem kinds_out {k : Int} {l : List Int} (h : inn k 1 22 = false) : kindsOk k l = false := by
  have h : ¬ (1 ≤ k ∧ k ≤ 22) := by intro hh; simp [inn] at h; omega
  unfold kindsOk
  have e : ∀ j : Int, 1 ≤ j → j ≤ 22 → k ≠ j := fun j h1 h2 e => h (by omega)
  simp [e]
/- a kid, both ways -/
theorem kid_bridge {ns : List Nd} {x : Nd} {i c : Int} : kidOkS ns x i c = (fitKind x.kind x.kids.length i (kindAt ns c) && callOk ns x i.toNat c) := by
  unfold kidOkS fitK callOk kindAt
  generalize hy : ndAt ns c = y
  by_cases h5 : y.kind = 5
  · simp only [h5, if_true, decide_true, Bool.true_and]
    cases hk : y.kids with
    | nil => simp
    | cons h t =>
      simp only [List.length_cons, List.headD_cons]
      have e0 : decide (t.length + 1 = 0) = false := by simp
      rw [e0]
      by_cases hx : x.kind = 10 ∧ 0 < i
      · have hi : 0 < i.toNat := by omega
        simp only [hx, and_self, if_true, decide_true, Bool.true_and, hi]
        generalize fitKind 10 _ _ _ = a; generalize isNd ns h = b
        by_cases hd : (ndAt ns h).kind = 1 <;> cases a <;> cases b <;> simp [hd]
      · rw [if_neg hx]
        have : (decide (x.kind = 10) && (decide (0 < i.toNat) && !decide ((ndAt ns h).kind = 1))) = false := by
          by_cases h1 : x.kind = 10
          · have : ¬ 0 < i.toNat := by omega
            simp [this]
          · simp [h1]
        rw [this]
        generalize fitKind _ _ _ _ = a; generalize isNd ns h = b
        cases a <;> cases b <;> rfl
  · simp only [h5, if_false, decide_false, Bool.false_and, Bool.not_false, Bool.true_and, Bool.and_true]
    by_cases hx : x.kind = 10 ∧ 0 < i
    · rw [if_pos hx]
      have : fitKind x.kind x.kids.length i y.kind = false := by
        simp [fitKind, hx, isCl, h5]
      rw [this]; rfl
    · rw [if_neg hx]; simp
theorem node_bridge {ns : List Nd} {k : Int} {x : Nd} : nodeOk1 ns k x =
    (inn x.kind 1 22 && (inn x.kids.length (lohi x.kind).1 (lohi x.kind).2 && (textOk x.kind x.text && ((mayBlank x.kind || !x.blank) && ((kidsIn x.kids k && decide x.kids.Nodup) && allAt (kidOkS ns x) x.kids 0))))) := by
  have e1 : allAt (kidOkS ns x) x.kids 0 = (allAt (fun i y => fitKind x.kind (x.kids.map (kindAt ns)).length i y) (x.kids.map (kindAt ns)) 0 && callsOk ns x) := by
    have : (kidOkS ns x) = fun i c => (fitKind x.kind x.kids.length i (kindAt ns c) && callOk ns x i.toNat c) := by
      funext i c; exact kid_bridge
    rw [this, allAt_and, allAt_map, List.length_map]
    congr 1
    unfold callsOk
    have : (fun p : Int × Nat => callOk ns x p.2 p.1) = fun p : Int × Nat => (fun (i c : Int) => callOk ns x i.toNat c) p.2 p.1 := by
      funext p; simp
    rw [this]
    exact (allAt_zip (f := fun i c => callOk ns x i.toNat c) (i := 0)).symm
  unfold nodeOk1
  by_cases h : inn x.kind 1 22 = true
  · have hb := @kinds_bridge x.kind (x.kids.map (kindAt ns)) (by simp [inn] at h; omega) (by simp [inn] at h; omega)
    rw [List.length_map] at hb
    rw [e1, List.length_map, h]
    generalize decide (x.kids.length ≤ 12) = a at hb ⊢; generalize kindsOk x.kind _ = b at hb ⊢; generalize inn _ _ _ = c at hb ⊢
    generalize allAt _ _ 0 = d at hb ⊢; generalize textOk _ _ = e; generalize mayBlank _ = f; generalize callsOk _ _ = g; generalize kidsIn _ _ = h1; generalize decide x.kids.Nodup = h2
    cases a <;> cases b <;> cases c <;> cases d <;> simp at hb <;> cases e <;> cases f <;> cases g <;> cases h1 <;> cases h2 <;> simp
  · simp only [Bool.not_eq_true] at h
    rw [kinds_out h, h]; simp
end Go.My
