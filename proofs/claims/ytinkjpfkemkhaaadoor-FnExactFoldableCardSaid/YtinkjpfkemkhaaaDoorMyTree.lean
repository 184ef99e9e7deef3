/- Trees, plainly. -/
import Derived.Test.YtinkjpfkemkhaaaDoorMySg
set_option linter.unusedVariables false
set_option linter.unusedSimpArgs false
namespace Go.My
open Go.Eng

def inn (x a b : Int) : Bool := decide (a ≤ x) && decide (x ≤ b)
def isNd (l : List Nd) (k : Int) : Bool := decide (0 ≤ k) && decide (k < l.length)
def isVal (k : Int) : Bool := inn k 1 11
def isStep (k : Int) : Bool := inn k 12 17
def isMem (k : Int) : Bool := decide (k = 12) || (decide (k = 20) || decide (k = 19))
def isBlk (k : Int) : Bool := decide (k = 18)
def isNm (k : Int) : Bool := decide (k = 1)
def isCl (k : Int) : Bool := decide (k = 5)
def isSt (k : Int) : Bool := isStep k || decide (k = 19)
def isTop (k : Int) : Bool := isMem k || decide (k = 21)
def lastIs (p : Int → Bool) (ks : List Int) : Bool := match ks.getLast? with
  | some k => p k && ks.dropLast.all isNm
  | none => false
def kindsOk (k : Int) (ks : List Int) : Bool :=
  if k = 1 ∨ k = 2 ∨ k = 3 ∨ k = 19 then decide (ks.length = 0)
  else if k = 4 then ks.all isVal
  else if k = 5 then decide (1 ≤ ks.length) && ks.all isVal
  else if k = 7 then decide (2 ≤ ks.length) && ks.all isVal
  else if k = 8 then decide (ks.length = 3) && ks.all isVal
  else if k = 6 ∨ k = 11 ∨ k = 13 ∨ k = 14 then decide (ks.length = 1) && ks.all isVal
  else if k = 12 ∨ k = 15 then decide (ks.length ≤ 1) && ks.all isVal
  else if k = 9 then lastIs isVal ks
  else if k = 10 then decide (2 ≤ ks.length) && (isVal (ks.headD 0) && (ks.drop 1).all isCl)
  else if k = 16 then (decide (2 ≤ ks.length) && decide (ks.length ≤ 3)) && (isVal (ks.headD 0) && (ks.drop 1).all isBlk)
  else if k = 17 then decide (ks.length = 2) && (isVal (ks.headD 0) && isBlk (ks.getD 1 0))
  else if k = 18 then ks.all isSt
  else if k = 20 then lastIs isBlk ks
  else if k = 21 then ks.all isMem
  else if k = 22 then ks.all isTop
  else false
def ndAt (ns : List Nd) (c : Int) : Nd := ns.getD c.toNat ⟨0, [], [], false⟩
def kindAt (ns : List Nd) (c : Int) : Int := (ndAt ns c).kind
/- a call among the kids -/
def callOk (ns : List Nd) (x : Nd) (i : Nat) (c : Int) : Bool :=
  let y := ndAt ns c
  if y.kind = 5 then match y.kids with
    | [] => false
    | h :: _ => isNd ns h && !(decide (x.kind = 10) && (decide (0 < i) && !decide (kindAt ns h = 1)))
  else true
def callsOk (ns : List Nd) (x : Nd) : Bool := (x.kids.zipIdx).all fun p => callOk ns x p.2 p.1
def kidsIn (l : List Int) (k : Int) : Bool := l.all fun c => decide (0 ≤ c) && decide (c < k)
def nodupB : List Int → Bool
  | [] => true
  | c :: l => nodupB l && !l.elem c
def mayBlank (k : Int) : Bool := isStep k || (isMem k || decide (k = 21))
def nodeOk1 (ns : List Nd) (k : Int) (x : Nd) : Bool :=
  decide (x.kids.length ≤ 12) && (textOk x.kind x.text && ((kidsIn x.kids k && decide x.kids.Nodup) && (kindsOk x.kind (x.kids.map (kindAt ns)) && (callsOk ns x && (mayBlank x.kind || !x.blank)))))
def nodeOk (ns : List Nd) (k : Int) : Bool := isNd ns k && nodeOk1 ns k (ndAt ns k)

/- how deep -/
def mx (ds : List Int) : List Int → Int → Int
  | [], d => d
  | c :: l, d => mx ds l (max d (ds.getD c.toNat 0))
def deeps (ns : List Nd) : Nat → Option (List Int)
  | 0 => some []
  | n + 1 => match deeps ns n with
    | none => none
    | some ds => if nodeOk ns n then (if 14 ≤ mx ds (ndAt ns n).kids 0 then none else some (ds ++ [mx ds (ndAt ns n).kids 0 + 1])) else none
def deepOf (ns : List Nd) (k : Int) : Int := if isNd ns k then match deeps ns (k.toNat + 1) with
    | none => 0
    | some ds => ds.getD k.toNat 0
  else 0
def allKids (ns : List Nd) : List Int := ns.flatMap (·.kids)
def treeOk (ns : List Nd) : Bool :=
  (decide (1 ≤ ns.length) && decide (ns.length ≤ 300)) && (decide (kindAt ns (ns.length - 1) = 22) && (!decide (deepOf ns (ns.length - 1) = 0) && ((List.range (ns.length - 1)).all fun i => decide ((allKids ns).count (i : Int) = 1))))

theorem isNd_iff {l : List Nd} {k : Int} : isNd l k = true ↔ 0 ≤ k ∧ k < l.length := by simp [isNd]
theorem ndAt_of {ns : List Nd} {c : Int} {x : Nd} (h : ns[c.toNat]? = some x) : ndAt ns c = x := by
  simp [ndAt, List.getD, h]
theorem mx_ge (ds : List Int) : ∀ (l : List Int) (d : Int), d ≤ mx ds l d
  | [], d => Int.le_refl d
  | c :: l, d => by unfold mx; have := mx_ge ds l (max d (ds.getD c.toNat 0)); omega
theorem deeps_length {ns : List Nd} : ∀ {n : Nat} {ds : List Int}, deeps ns n = some ds → ds.length = n
  | 0, ds, h => by cases h; rfl
  | n + 1, ds, h => by
    unfold deeps at h
    split at h
    · cases h
    · rename_i ds' hd
      split at h
      · split at h
        · cases h
        · simp at h; rw [← h]; simp [deeps_length hd]
      · cases h
theorem deeps_pos {ns : List Nd} : ∀ {n : Nat} {ds : List Int}, deeps ns n = some ds → ∀ d ∈ ds, 1 ≤ d ∧ d ≤ 14
  | 0, ds, h => by cases h; simp
  | n + 1, ds, h => by
    unfold deeps at h
    split at h
    · cases h
    · rename_i ds' hd
      split at h
      · split at h
        · cases h
        · simp at h; rw [← h]
          intro d hdm
          rcases List.mem_append.1 hdm with hdm | hdm
          · exact deeps_pos hd d hdm
          · simp at hdm
            have := mx_ge ds' (ndAt ns n).kids 0
            omega
      · cases h
theorem deeps_ok {ns : List Nd} : ∀ {n : Nat} {ds : List Int}, deeps ns n = some ds → ∀ i, i < n → nodeOk ns i = true
  | 0, ds, h, i, hi => by omega
  | n + 1, ds, h, i, hi => by
    unfold deeps at h
    split at h
    · cases h
    · rename_i ds' hd
      split at h
      · rename_i hok
        by_cases e : i = n
        · subst e; exact hok
        · exact deeps_ok hd i (by omega)
      · cases h
theorem deeps_none_le {ns : List Nd} {n m : Nat} (h : deeps ns n = none) (hm : n ≤ m) : deeps ns m = none := by
  induction m with
  | zero => obtain rfl : n = 0 := by omega
            exact h
  | succ m ih =>
    by_cases e : n = m + 1
    · subst e; exact h
    · unfold deeps; rw [ih (by omega)]
theorem deepOf_pos {ns : List Nd} {k : Int} (h : deepOf ns k ≠ 0) : isNd ns k = true ∧ (∃ ds, deeps ns (k.toNat + 1) = some ds) ∧ ∀ i : Nat, (i : Int) ≤ k → nodeOk ns i = true := by
  unfold deepOf at h
  split at h
  · rename_i hn
    split at h
    · exact (h rfl).elim
    · rename_i ds hd
      exact ⟨hn, ⟨ds, hd⟩, fun i hi => deeps_ok hd i (by have := isNd_iff.1 hn; omega)⟩
  · exact (h rfl).elim
theorem deepOf_nonneg {ns : List Nd} {k : Int} : 0 ≤ deepOf ns k := by
  unfold deepOf
  split
  · split
    · exact Int.le_refl 0
    · rename_i ds hd
      rw [List.getD]
      cases h : ds[k.toNat]? with
      | none => simp
      | some d => have := deeps_pos hd d (List.mem_of_getElem? h); simp; omega
  · exact Int.le_refl 0
theorem deepOf_ne {ns : List Nd} {k : Int} {ds : List Int} (hn : isNd ns k = true) (h : deeps ns (k.toNat + 1) = some ds) : deepOf ns k ≠ 0 := by
  unfold deepOf
  rw [if_pos hn, h]
  have hl := deeps_length h
  have : ds[k.toNat]? = some ds[k.toNat] := by simp
  simp only [List.getD, this, Option.getD_some]
  have := deeps_pos h ds[k.toNat] (by simp)
  omega
theorem nodeOk_parts {ns : List Nd} {k : Int} (h : nodeOk ns k = true) : (0 ≤ k ∧ k < ns.length) ∧ (ndAt ns k).kids.length ≤ 12 ∧ textOk (ndAt ns k).kind (ndAt ns k).text = true ∧
    (∀ c ∈ (ndAt ns k).kids, 0 ≤ c ∧ c < k) ∧ (ndAt ns k).kids.Nodup ∧ kindsOk (ndAt ns k).kind ((ndAt ns k).kids.map (kindAt ns)) = true ∧ callsOk ns (ndAt ns k) = true := by
  simp only [nodeOk, nodeOk1, Bool.and_eq_true, decide_eq_true_eq, kidsIn, List.all_eq_true] at h
  exact ⟨isNd_iff.1 h.1, h.2.1, h.2.2.1, h.2.2.2.1.1, h.2.2.2.1.2, h.2.2.2.2.1, h.2.2.2.2.2.1⟩
end Go.My
