/- A part of the proof: the engine and the contracts, joined. -/
import Derived.Test.YtinkjpfkemkhaaaDoorQG
section
/- Trees: the program's TreeOk. -/
set_option linter.unusedVariables false
set_option linter.unusedSimpArgs false
namespace Go.My
open Go.Eng Go.Proofs
variable {G : GInv}

def cnt (n : Nat) (l : List Int) : List Int := (List.range n).map fun (c : Nat) => (l.count (c : Int) : Int)
theorem cnt_len {n : Nat} {l : List Int} : (cnt n l).length = n := by simp [cnt]
theorem cnt_at {n : Nat} {l : List Int} {c : Nat} (h : c < n) : (cnt n l)[c]? = some (l.count (c : Int) : Int) := by
  simp [cnt, List.getElem?_map, List.getElem?_range, h]
theorem cnt_nil {n : Nat} : List.replicate n 0 = cnt n [] := by
  apply List.ext_getElem?
  intro c
  by_cases h : c < n
  · rw [cnt_at h]; simp [h]
  · rw [List.getElem?_eq_none (by simp; omega), List.getElem?_eq_none (by simp [cnt]; omega)]
theorem cnt_inc {n : Nat} {l : List Int} {c v : Int} (h0 : 0 ≤ c) (h1 : c < n) (hv : (cnt n l)[c.toNat]? = some v) : (cnt n l).set c.toNat (v + 1) = cnt n (l ++ [c]) := by
  apply List.ext_getElem?
  intro d
  rw [List.getElem?_set]
  by_cases hd : d < n
  · rw [cnt_at hd, cnt_at hd, List.count_append]
    rw [cnt_at (by omega)] at hv
    by_cases e : c.toNat = d
    · subst e
      rw [if_pos rfl, if_pos (by rw [cnt_len]; omega)]
      have e2 : ((c.toNat : Nat) : Int) = c := by omega
      rw [e2] at hv ⊢
      simp at hv ⊢; omega
    · rw [if_neg e]
      have : ¬ c = (d : Int) := by omega
      simp [List.count_cons, this]
  · rw [if_neg (by omega), List.getElem?_eq_none (by rw [cnt_len]; omega), List.getElem?_eq_none (by rw [cnt_len]; omega)]
def tk (ns : List Nd) (i j : Int) : List Int := allKids (ns.take i.toNat) ++ (ndAt ns i).kids.take j.toNat
/- a tree's nodes are right -/
def tI (ns : List Nd) : Prop := 1 ≤ ns.length ∧ ns.length ≤ 300 ∧ kindAt ns (ns.length - 1) = 22 ∧ deepOf ns (ns.length - 1) ≠ 0
theorem tI_ok {ns : List Nd} {n : Nat} {y : Nd} (h : tI ns) (hy : ns[n]? = some y) : nodeOk ns n = true := by
  exact (deepOf_pos h.2.2.2).2.2 n (by have := (getE hy).1; omega)
theorem tI_kids {ns : List Nd} {n : Nat} {y : Nd} (h : tI ns) (hy : ns[n]? = some y) : y.kids.length ≤ 12 ∧ ∀ c ∈ y.kids, 0 ≤ c ∧ c < ns.length := by
  obtain ⟨h1, h2, h3, h4, h5⟩ := nodeOk_parts (tI_ok h hy)
  rw [ndAt_of (by simpa using hy)] at h2 h4
  exact ⟨h2, fun c hc => by have := h4 c hc; omega⟩
theorem allKids_len {l : List Nd} (h : ∀ y ∈ l, y.kids.length ≤ 12) : (allKids l).length ≤ 12 * l.length := by
  induction l with
  | nil => simp [allKids]
  | cons y l ih =>
    have h1 := h y (by simp)
    have h2 := ih fun z hz => h z (by simp [hz])
    simp only [allKids, List.flatMap_cons, List.length_append, List.length_cons] at h2 ⊢; omega
theorem tk_len {ns : List Nd} {i j : Int} (h : tI ns) : (allKids (ns.take i.toNat)).length ≤ 3600 := by
  have h1 : ∀ y ∈ ns.take i.toNat, y.kids.length ≤ 12 := by
    intro y hy
    obtain ⟨n, hn⟩ := List.mem_iff_getElem?.1 (List.mem_of_mem_take hy)
    exact (tI_kids h hn).1
  have := allKids_len h1
  have h2 : (ns.take i.toNat).length ≤ 300 := by have := h.2.1; simp; omega
  omega
theorem cnt_le {n : Nat} {l : List Int} {c : Nat} {v : Int} (hv : (cnt n l)[c]? = some v) : 0 ≤ v ∧ v ≤ l.length := by
  have h : c < n := by have := (getE hv).1; rwa [cnt_len] at this
  rw [cnt_at h] at hv; cases hv
  have := List.count_le_length (a := (c : Int)) (l := l)
  omega
theorem tk_init {ns : List Nd} {i : Int} : tk ns i 0 = allKids (ns.take i.toNat) := by simp [tk]
theorem tk_next {ns : List Nd} {i j c : Int} (h0 : 0 ≤ j) (hc : (ndAt ns i).kids[j.toNat]? = some c) : tk ns i (j + 1) = tk ns i j ++ [c] := by
  rw [tk, toNat1 h0, takeE hc, tk, List.append_assoc]
theorem tk_done {ns : List Nd} {i j : Int} {y : Nd} (h0 : 0 ≤ i) (hy : ns[i.toNat]? = some y) (hl : ¬ j < (ndAt ns i).kids.length) : tk ns i j = allKids (ns.take (i + 1).toNat) := by
  rw [tk, List.take_of_length_le (l := (ndAt ns i).kids) (by omega), toNat1 h0, takeE hy, ndAt_of hy]; simp [allKids]
def tE (ns : List Nd) (i : Int) : Prop := 0 ≤ i ∧ i ≤ ns.length - 1 ∧ ∀ c : Nat, (c : Int) < i → (allKids ns).count (c : Int) = 1
theorem tE_at {ns : List Nd} {i v : Int} (hv : (((cnt ns.length (allKids ns)).take (ns.length - 1 : Int).toNat)[i.toNat]?) = some v) (h0 : 0 ≤ i) (hl : i < (ns.length - 1 : Int)) : ((allKids ns).count i : Int) = v := by
  rw [List.getElem?_take_of_lt (by omega), cnt_at (by omega)] at hv
  have e2 : ((i.toNat : Nat) : Int) = i := by omega
  rw [e2] at hv; exact Option.some.inj hv
theorem treeOk_yes {ns : List Nd} {i : Int} (h : tI ns) (he : tE ns i) (hl : ¬ i < (ns.length - 1 : Int)) : true = treeOk ns := by
  symm; unfold treeOk
  have h1 : decide (1 ≤ ns.length) = true := decide_eq_true h.1
  have h2 : decide (ns.length ≤ 300) = true := decide_eq_true h.2.1
  have h3 : decide (kindAt ns (ns.length - 1) = 22) = true := decide_eq_true h.2.2.1
  have h4 : decide (deepOf ns (ns.length - 1) = 0) = false := decide_eq_false h.2.2.2
  rw [h1, h2, h3, h4]
  simp only [Bool.and_true, Bool.not_false, Bool.true_and, List.all_eq_true, decide_eq_true_eq, List.mem_range]
  exact fun c hc => he.2.2 c (by omega)
theorem treeOk_no {ns : List Nd} {i v : Int} (hv : (allKids ns).count i = v) (h0 : 0 ≤ i) (hl : i < (ns.length - 1 : Int)) (hne : v ≠ 1) : false = treeOk ns := by
  symm; rw [Bool.eq_false_iff]; intro h
  unfold treeOk at h
  simp only [Bool.and_eq_true, List.all_eq_true, decide_eq_true_eq, List.mem_range] at h
  have := h.2.2.2 i.toNat (by omega)
  have e2 : ((i.toNat : Nat) : Int) = i := by omega
  rw [e2] at this; omega
theorem treeOk_not {ns : List Nd} (h : ¬ tI ns) : false = treeOk ns := by
  symm; rw [Bool.eq_false_iff]; intro hh
  unfold treeOk at hh
  simp only [Bool.and_eq_true, decide_eq_true_eq, Bool.not_eq_true', decide_eq_false_iff_not] at hh
  exact h ⟨hh.1.1, hh.1.2, hh.2.1, hh.2.2.1⟩
theorem tI_kid {ns : List Nd} {i j c : Int} {y : Nd} (h : tI ns) (hc : (ndAt ns i).kids[j.toNat]? = some c) (hy : ns[i.toNat]? = some y) : 0 ≤ c ∧ c < ns.length := by
  rw [ndAt_of hy] at hc; exact (tI_kids h hy).2 c (memE hc)
theorem tI_len {ns : List Nd} {i : Int} {y : Nd} (h : tI ns) (hy : ns[i.toNat]? = some y) : (ndAt ns i).kids.length ≤ 12 := by
  rw [ndAt_of hy]; exact (tI_kids h hy).1
theorem tk_len2 {ns : List Nd} {i j : Int} {y : Nd} (h : tI ns) (hy : ns[i.toNat]? = some y) : (tk ns i j).length ≤ 3612 := by
  have h1 := @tk_len ns i j h; have h2 := tI_len h hy
  rw [tk, List.length_append, List.length_take]; omega
theorem tk_v {ns : List Nd} {i j v : Int} {c : Nat} {y : Nd} (h : tI ns) (hv : (cnt ns.length (tk ns i j))[c]? = some v) (hy : ns[i.toNat]? = some y) : 0 ≤ v ∧ v ≤ 3612 := by
  have h1 := cnt_le hv; have h2 := @tk_len2 ns i j y h hy; omega
theorem inn_iff {x a b : Int} : inn x a b = true ↔ a ≤ x ∧ x ≤ b := by simp [inn]
theorem tI_of {ns : List Nd} {y : Nd} (h : inn ns.length 1 300 = true) (hy : ns[(ns.length - 1 : Int).toNat]? = some y) (hk : y.kind = 22) (hd : deepOf ns (ns.length - 1) ≠ 0) : tI ns := by
  have := inn_iff.1 h
  exact ⟨by omega, by omega, by rw [kindAt, ndAt_of hy, hk], hd⟩
theorem tI_inn {ns : List Nd} (h : inn ns.length 1 300 = false) : ¬ tI ns := by
  intro hh; have : inn ns.length 1 300 = true := inn_iff.2 ⟨by have := hh.1; omega, by have := hh.2.1; omega⟩
  rw [h] at this; cases this
theorem tI_kind {ns : List Nd} {y : Nd} (hy : ns[(ns.length - 1 : Int).toNat]? = some y) (hk : y.kind ≠ 22) : ¬ tI ns := by
  intro hh; have := hh.2.2.1; rw [kindAt, ndAt_of hy] at this; exact hk this
theorem tk_full {ns : List Nd} {i : Int} (hl : ¬ i < ns.length) : allKids (ns.take i.toNat) = allKids ns := by rw [List.take_of_length_le (by omega)]
theorem tE_next {ns : List Nd} {i v : Int} (h : tE ns i) (hl : i < (ns.length - 1 : Int)) (hv : (((cnt ns.length (allKids ns)).take (ns.length - 1 : Int).toNat)[i.toNat]?) = some v) (h1 : v = 1) : tE ns (i + 1) := by
  have := tE_at hv h.1 hl
  refine ⟨by have := h.1; omega, by omega, fun c hc => ?_⟩
  by_cases e : (c : Int) < i
  · exact h.2.2 c e
  · have := h.1
    obtain rfl : i = (c : Int) := by omega
    omega
def lTree2 (x : List Nd) (o : Int) : LS := {
  ι := Int, inv := fun j => 0 ≤ j ∧ j ≤ (ndAt x o).kids.length,
  regs := fun j => [(0, nds x), (3, .int .i64 x.length), (4, oints (cnt x.length (tk x o j))), (34, nds x), (35, .int .i64 x.length), (36, .int .i64 o), (41, ints (ndAt x o).kids), (42, .int .i64 (ndAt x o).kids.length), (43, .int .i64 j)], als := [], meas := fun j => (ndAt x o).kids.length - j.toNat }
def lTree (x : List Nd) : LS := {
  ι := Int, inv := fun i => 0 ≤ i ∧ i ≤ x.length,
  regs := fun i => [(0, nds x), (3, .int .i64 x.length), (4, oints (cnt x.length (allKids (x.take i.toNat)))), (34, nds x), (35, .int .i64 x.length), (36, .int .i64 i)], als := [], meas := fun i => x.length - i.toNat,
  sub := fun i => [(9, lTree2 x i)] }
def lTree3 (x : List Nd) : LS := {
  ι := Int, inv := tE x,
  regs := fun i => [(58, oints ((cnt x.length (allKids x)).take (x.length - 1 : Int).toNat)), (59, .int .i64 (x.length - 1)), (60, .int .i64 i)], als := [], meas := fun i => x.length - 1 - i.toNat }
def s_iTreeOk  : Sig := { X := List Nd, args := fun x => [nds x], pre := fun x => okNds x ∧ x.length ≤ 2 ^ 30, Y := Unit, post := fun x y => True, res := fun x y => .bool (treeOk x), outs := fun x y => [.top], keep := false }
theorem iTreeOk_vc (x : List Nd) : vcFun Go.Proofs.Tryd.prog (Γof [(54, 0, s_inRange), (50, 0, s_iDeepOf)]) (Eof [(39, ⟨Int,intA⟩)]) false (Lof ([(6,lTree x), (15,lTree3 x)])) Go.Proofs.Tryd.f38.ntmps Go.Proofs.Tryd.f38.results.toList (Go.Proofs.Tryd.f38.body.getD .skip) s_iTreeOk x = ((∀ (y : Unit), True → True ∧ True ∧ True) ∧ ∃ (x_1 : Int × Int × Int), True ∧ (↑(List.length x) : Int) = x_1.fst ∧ (1 : Int) = x_1.snd.fst ∧ (300 : Int) = x_1.snd.snd ∧ ∀ (y : Unit), True → bcase (!inn x_1.fst x_1.snd.fst x_1.snd.snd) (∃ (y : Unit), True ∧ false = treeOk x ∧ True) (inR IntKind.i64 ((↑(List.length x) : Int) - (1 : Int)) ∧ ((0 : Int) ≤ (↑(List.length x) : Int) - (1 : Int) ∧ (↑(List.length x) : Int) - (1 : Int) < (↑(List.length x) : Int)) ∧ ∀ (e : Nd), x[Int.toNat ((↑(List.length x) : Int) - (1 : Int))]? = some e → bcase (e.kind != (22 : Int)) (∃ (y : Unit), True ∧ false = treeOk x ∧ True) (inR IntKind.i64 ((↑(List.length x) : Int) - (1 : Int)) ∧ ∃ (x_2 : List Nd × Int), (okNds x_2.fst ∧ List.length x_2.fst ≤ (1073741824 : Nat)) ∧ AV.sl false (0 : Nat) (4 : Nat) Nd (ndA false) x = AV.sl false (0 : Nat) (4 : Nat) Nd (ndA false) x_2.fst ∧ (↑(List.length x) : Int) - (1 : Int) = x_2.snd ∧ ∀ (y : Unit), True → bcase (deepOf x_2.fst x_2.snd == (0 : Int)) (∃ (y : Unit), True ∧ false = treeOk x ∧ True) (((0 : Int) ≤ (↑(List.length x) : Int) ∧ (↑(List.length x) : Int) ≤ (↑(List.length x) : Int) ∧ (↑(8 : Nat) : Int) * (↑(List.length x) : Int) ≤ (2 : Int) ^ (46 : Nat) ∧ (↑(List.length x) : Int) ≤ (2 : Int) ^ (46 : Nat)) ∧ ∃ (x_3 : Int), (0 : Int) = x_3 ∧ (∃ (i : Int), ((0 : Int) ≤ i ∧ i ≤ (↑(List.length x) : Int)) ∧ (AV.sl false (0 : Nat) (4 : Nat) Nd (ndA false) x = AV.sl false (0 : Nat) (4 : Nat) Nd (ndA false) x ∧ (↑(List.length x) : Int) = (↑(List.length x) : Int) ∧ AV.sl true (0 : Nat) (1 : Nat) Int intA (List.replicate (Int.toNat (↑(List.length x) : Int)) x_3) = AV.sl true (0 : Nat) (1 : Nat) Int intA (cnt (List.length x) (allKids (List.take (Int.toNat i) x))) ∧ AV.sl false (0 : Nat) (4 : Nat) Nd (ndA false) x = AV.sl false (0 : Nat) (4 : Nat) Nd (ndA false) x ∧ (↑(List.length x) : Int) = (↑(List.length x) : Int) ∧ (0 : Int) = i ∧ True) ∧ True) ∧ ∀ (i : Int), (0 : Int) ≤ i ∧ i ≤ (↑(List.length x) : Int) → bcase (decide (i < (↑(List.length x) : Int))) (((0 : Int) ≤ i ∧ i < (↑(List.length x) : Int)) ∧ ∀ (e : Nd), x[Int.toNat i]? = some e → (∃ (i_1 : Int), ((0 : Int) ≤ i_1 ∧ i_1 ≤ (↑(List.length (ndAt x i).kids) : Int)) ∧ (AV.sl false (0 : Nat) (4 : Nat) Nd (ndA false) x = AV.sl false (0 : Nat) (4 : Nat) Nd (ndA false) x ∧ (↑(List.length x) : Int) = (↑(List.length x) : Int) ∧ AV.sl true (0 : Nat) (1 : Nat) Int intA (cnt (List.length x) (allKids (List.take (Int.toNat i) x))) = AV.sl true (0 : Nat) (1 : Nat) Int intA (cnt (List.length x) (tk x i i_1)) ∧ AV.sl false (0 : Nat) (4 : Nat) Nd (ndA false) x = AV.sl false (0 : Nat) (4 : Nat) Nd (ndA false) x ∧ (↑(List.length x) : Int) = (↑(List.length x) : Int) ∧ i = i ∧ AV.sl false (0 : Nat) (1 : Nat) Int intA e.kids = AV.sl false (0 : Nat) (1 : Nat) Int intA (ndAt x i).kids ∧ (↑(List.length e.kids) : Int) = (↑(List.length (ndAt x i).kids) : Int) ∧ (0 : Int) = i_1 ∧ True) ∧ True) ∧ ∀ (i_1 : Int), (0 : Int) ≤ i_1 ∧ i_1 ≤ (↑(List.length (ndAt x i).kids) : Int) → bcase (decide (i_1 < (↑(List.length (ndAt x i).kids) : Int))) (((0 : Int) ≤ i_1 ∧ i_1 < (↑(List.length (ndAt x i).kids) : Int)) ∧ ∀ (e : Int), (ndAt x i).kids[Int.toNat i_1]? = some e → ((0 : Int) ≤ e ∧ e < (↑(List.length (cnt (List.length x) (tk x i i_1))) : Int)) ∧ Int.toNat e < List.length (cnt (List.length x) (tk x i i_1)) ∧ ∀ (x_4 : Int), (cnt (List.length x) (tk x i i_1))[Int.toNat e]? = some x_4 → inR IntKind.i64 (x_4 + (1 : Int)) ∧ ((0 : Int) ≤ e ∧ e < (↑(List.length (cnt (List.length x) (tk x i i_1))) : Int)) ∧ Int.toNat e < List.length (cnt (List.length x) (tk x i i_1)) ∧ ∀ (x_5 : Int), (cnt (List.length x) (tk x i i_1))[Int.toNat e]? = some x_5 → ∃ (x' : Int), ((@List.nil AV) = [] ∧ (@List.nil AV) = []) ∧ x_4 + (1 : Int) = x' ∧ inR IntKind.i64 (i_1 + (1 : Int)) ∧ ∃ (i' : Int), ((0 : Int) ≤ i' ∧ i' ≤ (↑(List.length (ndAt x i).kids) : Int)) ∧ List.length (ndAt x i).kids - Int.toNat i' < List.length (ndAt x i).kids - Int.toNat i_1 ∧ (AV.sl false (0 : Nat) (4 : Nat) Nd (ndA false) x = AV.sl false (0 : Nat) (4 : Nat) Nd (ndA false) x ∧ (↑(List.length x) : Int) = (↑(List.length x) : Int) ∧ AV.sl true (0 : Nat) (1 : Nat) Int intA (List.set (cnt (List.length x) (tk x i i_1)) (Int.toNat e) x') = AV.sl true (0 : Nat) (1 : Nat) Int intA (cnt (List.length x) (tk x i i')) ∧ AV.sl false (0 : Nat) (4 : Nat) Nd (ndA false) x = AV.sl false (0 : Nat) (4 : Nat) Nd (ndA false) x ∧ (↑(List.length x) : Int) = (↑(List.length x) : Int) ∧ i = i ∧ AV.sl false (0 : Nat) (1 : Nat) Int intA (ndAt x i).kids = AV.sl false (0 : Nat) (1 : Nat) Int intA (ndAt x i).kids ∧ (↑(List.length (ndAt x i).kids) : Int) = (↑(List.length (ndAt x i).kids) : Int) ∧ i_1 + (1 : Int) = i' ∧ True) ∧ True) (inR IntKind.i64 (i + (1 : Int)) ∧ ∃ (i' : Int), ((0 : Int) ≤ i' ∧ i' ≤ (↑(List.length x) : Int)) ∧ List.length x - Int.toNat i' < List.length x - Int.toNat i ∧ (AV.sl false (0 : Nat) (4 : Nat) Nd (ndA false) x = AV.sl false (0 : Nat) (4 : Nat) Nd (ndA false) x ∧ (↑(List.length x) : Int) = (↑(List.length x) : Int) ∧ AV.sl true (0 : Nat) (1 : Nat) Int intA (cnt (List.length x) (tk x i i_1)) = AV.sl true (0 : Nat) (1 : Nat) Int intA (cnt (List.length x) (allKids (List.take (Int.toNat i') x))) ∧ AV.sl false (0 : Nat) (4 : Nat) Nd (ndA false) x = AV.sl false (0 : Nat) (4 : Nat) Nd (ndA false) x ∧ (↑(List.length x) : Int) = (↑(List.length x) : Int) ∧ i + (1 : Int) = i' ∧ True) ∧ True)) (inR IntKind.i64 ((↑(List.length x) : Int) - (1 : Int)) ∧ ((0 : Int) ≤ (0 : Int) ∧ (0 : Int) ≤ (↑(List.length x) : Int) - (1 : Int) ∧ (↑(List.length x) : Int) - (1 : Int) ≤ (↑(List.length (cnt (List.length x) (allKids (List.take (Int.toNat i) x)))) : Int)) ∧ (∃ (i_1 : Int), tE x i_1 ∧ (AV.sl true (0 : Nat) (1 : Nat) Int intA (List.take (Int.toNat ((↑(List.length x) : Int) - (1 : Int))) (cnt (List.length x) (allKids (List.take (Int.toNat i) x)))) = AV.sl true (0 : Nat) (1 : Nat) Int intA (List.take (Int.toNat ((↑(List.length x) : Int) - (1 : Int))) (cnt (List.length x) (allKids x))) ∧ (↑(List.length (List.take (Int.toNat ((↑(List.length x) : Int) - (1 : Int))) (cnt (List.length x) (allKids (List.take (Int.toNat i) x))))) : Int) = (↑(List.length x) : Int) - (1 : Int) ∧ (0 : Int) = i_1 ∧ True) ∧ True) ∧ ∀ (i : Int), tE x i → bcase (decide (i < (↑(List.length x) : Int) - (1 : Int))) (((0 : Int) ≤ i ∧ i < (↑(List.length (List.take (Int.toNat ((↑(List.length x) : Int) - (1 : Int))) (cnt (List.length x) (allKids x)))) : Int)) ∧ Int.toNat i < List.length (List.take (Int.toNat ((↑(List.length x) : Int) - (1 : Int))) (cnt (List.length x) (allKids x))) ∧ ∀ (x_4 : Int), (List.take (Int.toNat ((↑(List.length x) : Int) - (1 : Int))) (cnt (List.length x) (allKids x)))[Int.toNat i]? = some x_4 → bcase (x_4 != (1 : Int)) (∃ (y : Unit), True ∧ false = treeOk x ∧ True) (inR IntKind.i64 (i + (1 : Int)) ∧ ∃ (i' : Int), tE x i' ∧ List.length x - (1 : Nat) - Int.toNat i' < List.length x - (1 : Nat) - Int.toNat i ∧ (AV.sl true (0 : Nat) (1 : Nat) Int intA (List.take (Int.toNat ((↑(List.length x) : Int) - (1 : Int))) (cnt (List.length x) (allKids x))) = AV.sl true (0 : Nat) (1 : Nat) Int intA (List.take (Int.toNat ((↑(List.length x) : Int) - (1 : Int))) (cnt (List.length x) (allKids x))) ∧ (↑(List.length x) : Int) - (1 : Int) = (↑(List.length x) : Int) - (1 : Int) ∧ i + (1 : Int) = i' ∧ True) ∧ True)) (∃ (y : Unit), True ∧ true = treeOk x ∧ True)))))) := by kernel_rfl
theorem iTreeOk_ok  : Contract G Tryd.prog 38 s_iTreeOk :=
  vcFun_ok (Γ := Γof [(54, 0, s_inRange), (50, 0, s_iDeepOf)]) (E := Eof [(39, ⟨Int,intA⟩)]) (ov := false) (L := fun x => Lof ([(6,lTree x), (15,lTree3 x)])) Tryd.func38 rfl (by decide) (Γof_ok (l := [(54, 0, s_inRange), (50, 0, s_iDeepOf)]) ⟨inRange_ok, iDeepOf_ok, trivial⟩) fun (x : List Nd) (hx : okNds x ∧ x.length ≤ 2 ^ 30) => (iTreeOk_vc  x).mpr (by
  obtain ⟨h1, h2⟩ := hx; have hl := h1.1
  (repeat' first | with_reducible rfl | exact True.intro | refine inR_i64 ?_ ?_ | with_reducible refine And.intro ?_ ?_ | with_reducible refine bcase_dec (fun _ => ?_) (fun _ => ?_) | with_reducible refine bcase_bne (fun _ => ?_) (fun _ => ?_) | with_reducible refine bcase_beq (fun _ => ?_) (fun _ => ?_) | with_reducible refine bcase_not (fun _ => ?_) (fun _ => ?_) | refine bcase_intro (fun _ => ?_) (fun _ => ?_) | refine sl_eq ?_ | refine ex_flip () ?_ ?_ | (apply ex_flip6 <;> try dsimp only) | (apply ex_flip5 <;> try dsimp only) | (apply ex_flip4 <;> try dsimp only) | (apply ex_flip3 <;> try dsimp only) | (apply ex_flip2 <;> try dsimp only) | apply ex_flip | (refine Prod.forall.2 ?_; intro _; try dsimp only) | (intro _; try dsimp only))
  all_goals try (have t1 := inn_iff.1 (show inn x.length 1 300 = true by assumption))
  all_goals try (have t0 := tI_of (by assumption) (by assumption) (by assumption) (by assumption))
  all_goals first
    | rfl
    | exact treeOk_not (tI_inn (by assumption))
    | exact treeOk_not (tI_kind (by assumption) (by assumption))
    | exact treeOk_not (fun h => h.2.2.2 (by assumption))
    | exact cnt_nil
    | (rw [tk_init]; done)
    | (rw [ndAt_of (by assumption)]; done)
    | exact (tI_kid (by assumption) (by assumption) (by assumption)).1
    | (rw [cnt_len]; exact (tI_kid (by assumption) (by assumption) (by assumption)).2)
    | (have := tI_kid (by assumption) (show (ndAt x _).kids[_]? = some _ by assumption) (by assumption); rw [cnt_len]; omega)
    | (rw [tk_next (by omega) (by assumption)]; exact cnt_inc (tI_kid (by assumption) (by assumption) (by assumption)).1 (tI_kid (by assumption) (by assumption) (by assumption)).2 (by assumption))
    | (rw [tk_done (by omega) (by assumption) (by assumption)]; done)
    | (rw [tk_full (by assumption)]; done)
    | (have := tk_v (by assumption) (by assumption) (by assumption); omega)
    | (have := tI_len (by assumption) (by assumption); (try simp only [i64max] at *); omega)
    | exact treeOk_yes (by assumption) (by assumption) (by assumption)
    | exact treeOk_no (tE_at (by assumption) (‹tE _ _›.1) (by assumption)) (‹tE _ _›.1) (by assumption) (by assumption)
    | exact tE_next (by assumption) (by assumption) (by assumption) (by assumption)
    | exact ⟨by omega, by omega, fun c hc => by omega⟩
    | (rw [List.length_take, cnt_len]; omega)
    | ((try simp only [i64max, room, List.length_replicate, cnt_len] at *); omega)
    | (obtain ⟨_, _, _⟩ := ‹tE _ _›; (try rw [List.length_take, cnt_len]); (try simp only [i64max] at *); omega)
    | skip)

end Go.My
end
section
/- Nodes: the reference's functions. -/
set_option linter.unusedVariables false
set_option linter.unusedSimpArgs false
namespace Go.My
open Go.Eng Go.Proofs
variable {G : GInv}

def s_l05Value  : Sig := { X := Int, args := fun x => [.int .i64 x], pre := fun x => True, Y := Unit, post := fun x y => True, res := fun x y => .bool (isVal x), outs := fun x y => [.top], keep := false }
theorem l05Value_vc (x : Int) : vcFun Go.Proofs.Tryd.prog (Γof [(44, 0, s_l01In)]) (Eof []) false (Lof ([])) Go.Proofs.Tryd.f24.ntmps Go.Proofs.Tryd.f24.results.toList (Go.Proofs.Tryd.f24.body.getD .skip) s_l05Value x = ((∀ (y : Unit), True → True ∧ True ∧ True) ∧ ∃ (x_1 : Int × Int × Int), True ∧ x = x_1.fst ∧ (1 : Int) = x_1.snd.fst ∧ (11 : Int) = x_1.snd.snd ∧ ∀ (y : Unit), True → ∃ (y : Unit), True ∧ inn x_1.fst x_1.snd.fst x_1.snd.snd = isVal x ∧ True) := by kernel_rfl
theorem l05Value_ok  : Contract G Tryd.prog 24 s_l05Value :=
  vcFun_ok (Γ := Γof [(44, 0, s_l01In)]) (E := Eof []) (ov := false) (L := fun x => Lof ([])) Tryd.func24 rfl (by decide) (Γof_ok (l := [(44, 0, s_l01In)]) ⟨l01In_ok, trivial⟩) fun (x : Int) (hx : True) => (l05Value_vc  x).mpr (by
  (repeat' first | with_reducible rfl | exact True.intro | refine inR_i64 ?_ ?_ | with_reducible refine And.intro ?_ ?_ | with_reducible refine bcase_dec (fun _ => ?_) (fun _ => ?_) | with_reducible refine bcase_bne (fun _ => ?_) (fun _ => ?_) | with_reducible refine bcase_beq (fun _ => ?_) (fun _ => ?_) | with_reducible refine bcase_not (fun _ => ?_) (fun _ => ?_) | refine bcase_intro (fun _ => ?_) (fun _ => ?_) | refine sl_eq ?_ | refine ex_flip () ?_ ?_ | (apply ex_flip6 <;> try dsimp only) | (apply ex_flip5 <;> try dsimp only) | (apply ex_flip4 <;> try dsimp only) | (apply ex_flip3 <;> try dsimp only) | (apply ex_flip2 <;> try dsimp only) | apply ex_flip | (refine Prod.forall.2 ?_; intro _; try dsimp only) | (intro _; try dsimp only)) <;> (try dsimp only at *) <;> (try simp only [i64max, List.length_cons, List.length_nil]) <;> (try omega)
  all_goals simp [isVal, beqI, *])

def s_l05Statement  : Sig := { X := Int, args := fun x => [.int .i64 x], pre := fun x => True, Y := Unit, post := fun x y => True, res := fun x y => .bool (isSt x), outs := fun x y => [.top], keep := false }
theorem l05Statement_vc (x : Int) : vcFun Go.Proofs.Tryd.prog (Γof [(44, 0, s_l01In)]) (Eof []) false (Lof ([])) Go.Proofs.Tryd.f62.ntmps Go.Proofs.Tryd.f62.results.toList (Go.Proofs.Tryd.f62.body.getD .skip) s_l05Statement x = ((∀ (y : Unit), True → True ∧ True ∧ True) ∧ ∃ (x_1 : Int × Int × Int), True ∧ x = x_1.fst ∧ (12 : Int) = x_1.snd.fst ∧ (17 : Int) = x_1.snd.snd ∧ ∀ (y : Unit), True → bcase (inn x_1.fst x_1.snd.fst x_1.snd.snd) (∃ (y : Unit), True ∧ true = isSt x ∧ True) (∃ (y : Unit), True ∧ (x == (19 : Int)) = isSt x ∧ True)) := by kernel_rfl
theorem l05Statement_ok  : Contract G Tryd.prog 62 s_l05Statement :=
  vcFun_ok (Γ := Γof [(44, 0, s_l01In)]) (E := Eof []) (ov := false) (L := fun x => Lof ([])) Tryd.func62 rfl (by decide) (Γof_ok (l := [(44, 0, s_l01In)]) ⟨l01In_ok, trivial⟩) fun (x : Int) (hx : True) => (l05Statement_vc  x).mpr (by
  (repeat' first | with_reducible rfl | exact True.intro | refine inR_i64 ?_ ?_ | with_reducible refine And.intro ?_ ?_ | with_reducible refine bcase_dec (fun _ => ?_) (fun _ => ?_) | with_reducible refine bcase_bne (fun _ => ?_) (fun _ => ?_) | with_reducible refine bcase_beq (fun _ => ?_) (fun _ => ?_) | with_reducible refine bcase_not (fun _ => ?_) (fun _ => ?_) | refine bcase_intro (fun _ => ?_) (fun _ => ?_) | refine sl_eq ?_ | refine ex_flip () ?_ ?_ | (apply ex_flip6 <;> try dsimp only) | (apply ex_flip5 <;> try dsimp only) | (apply ex_flip4 <;> try dsimp only) | (apply ex_flip3 <;> try dsimp only) | (apply ex_flip2 <;> try dsimp only) | apply ex_flip | (refine Prod.forall.2 ?_; intro _; try dsimp only) | (intro _; try dsimp only)) <;> (try dsimp only at *) <;> (try simp only [i64max, List.length_cons, List.length_nil]) <;> (try omega)
  all_goals simp [isSt, isStep, beqI, *])

def s_l05Count  : Sig := { X := Int, args := fun x => [.int .i64 x], pre := fun x => True, Y := Unit, post := fun x y => True, res := fun x y => .tup [.int .i64 (lohi x).1, .int .i64 (lohi x).2], outs := fun x y => [.top], keep := false }
theorem l05Count_vc (x : Int) : vcFun Go.Proofs.Tryd.prog (Γof []) (Eof []) false (Lof ([])) Go.Proofs.Tryd.f60.ntmps Go.Proofs.Tryd.f60.results.toList (Go.Proofs.Tryd.f60.body.getD .skip) s_l05Count x = ((∀ (y : Unit), True → (True ∧ True ∧ True) ∧ True ∧ True) ∧ bcase (x == (4 : Int)) (∃ (y : Unit), True ∧ (0 : Int) = (lohi x).fst ∧ (12 : Int) = (lohi x).snd ∧ True) (bcase (x == (18 : Int)) (∃ (y : Unit), True ∧ (0 : Int) = (lohi x).fst ∧ (12 : Int) = (lohi x).snd ∧ True) (bcase (x == (21 : Int)) (∃ (y : Unit), True ∧ (0 : Int) = (lohi x).fst ∧ (12 : Int) = (lohi x).snd ∧ True) (bcase (x == (22 : Int)) (∃ (y : Unit), True ∧ (0 : Int) = (lohi x).fst ∧ (12 : Int) = (lohi x).snd ∧ True) (bcase (x == (5 : Int)) (∃ (y : Unit), True ∧ (1 : Int) = (lohi x).fst ∧ (12 : Int) = (lohi x).snd ∧ True) (bcase (x == (9 : Int)) (∃ (y : Unit), True ∧ (1 : Int) = (lohi x).fst ∧ (12 : Int) = (lohi x).snd ∧ True) (bcase (x == (20 : Int)) (∃ (y : Unit), True ∧ (1 : Int) = (lohi x).fst ∧ (12 : Int) = (lohi x).snd ∧ True) (bcase (x == (6 : Int)) (∃ (y : Unit), True ∧ (1 : Int) = (lohi x).fst ∧ (1 : Int) = (lohi x).snd ∧ True) (bcase (x == (11 : Int)) (∃ (y : Unit), True ∧ (1 : Int) = (lohi x).fst ∧ (1 : Int) = (lohi x).snd ∧ True) (bcase (x == (13 : Int)) (∃ (y : Unit), True ∧ (1 : Int) = (lohi x).fst ∧ (1 : Int) = (lohi x).snd ∧ True) (bcase (x == (14 : Int)) (∃ (y : Unit), True ∧ (1 : Int) = (lohi x).fst ∧ (1 : Int) = (lohi x).snd ∧ True) (bcase (x == (7 : Int)) (∃ (y : Unit), True ∧ (2 : Int) = (lohi x).fst ∧ (12 : Int) = (lohi x).snd ∧ True) (bcase (x == (10 : Int)) (∃ (y : Unit), True ∧ (2 : Int) = (lohi x).fst ∧ (12 : Int) = (lohi x).snd ∧ True) (bcase (x == (8 : Int)) (∃ (y : Unit), True ∧ (3 : Int) = (lohi x).fst ∧ (3 : Int) = (lohi x).snd ∧ True) (bcase (x == (12 : Int)) (∃ (y : Unit), True ∧ (0 : Int) = (lohi x).fst ∧ (1 : Int) = (lohi x).snd ∧ True) (bcase (x == (15 : Int)) (∃ (y : Unit), True ∧ (0 : Int) = (lohi x).fst ∧ (1 : Int) = (lohi x).snd ∧ True) (bcase (x == (16 : Int)) (∃ (y : Unit), True ∧ (2 : Int) = (lohi x).fst ∧ (3 : Int) = (lohi x).snd ∧ True) (bcase (x == (17 : Int)) (∃ (y : Unit), True ∧ (2 : Int) = (lohi x).fst ∧ (2 : Int) = (lohi x).snd ∧ True) (∃ (y : Unit), True ∧ (0 : Int) = (lohi x).fst ∧ (0 : Int) = (lohi x).snd ∧ True))))))))))))))))))) := by kernel_rfl
theorem l05Count_ok  : Contract G Tryd.prog 60 s_l05Count :=
  vcFun_ok (Γ := Γof []) (E := Eof []) (ov := false) (L := fun x => Lof ([])) Tryd.func60 rfl (by decide) (Γof_ok (l := []) trivial) fun (x : Int) (hx : True) => (l05Count_vc  x).mpr (by
  (repeat' first | with_reducible rfl | exact True.intro | refine inR_i64 ?_ ?_ | with_reducible refine And.intro ?_ ?_ | with_reducible refine bcase_dec (fun _ => ?_) (fun _ => ?_) | with_reducible refine bcase_bne (fun _ => ?_) (fun _ => ?_) | with_reducible refine bcase_beq (fun _ => ?_) (fun _ => ?_) | with_reducible refine bcase_not (fun _ => ?_) (fun _ => ?_) | refine bcase_intro (fun _ => ?_) (fun _ => ?_) | refine sl_eq ?_ | refine ex_flip () ?_ ?_ | (apply ex_flip6 <;> try dsimp only) | (apply ex_flip5 <;> try dsimp only) | (apply ex_flip4 <;> try dsimp only) | (apply ex_flip3 <;> try dsimp only) | (apply ex_flip2 <;> try dsimp only) | apply ex_flip | (refine Prod.forall.2 ?_; intro _; try dsimp only) | (intro _; try dsimp only)) <;> (try dsimp only at *) <;> (try simp only [i64max, List.length_cons, List.length_nil]) <;> (try omega)
  all_goals simp [lohi, *])

def fitsP (x : List Nd × Int × Int) : Prop := okNds x.1 ∧ isNd x.1 x.2.1 = true ∧ ((ndAt x.1 x.2.1).kind = 10 → ∀ c, (ndAt x.1 x.2.1).kids[x.2.2.toNat]? = some c → kindAt x.1 c = 5 → ∃ h t, (ndAt x.1 c).kids = h :: t ∧ isNd x.1 h = true) ∧
  (0 ≤ x.2.2 ∧ x.2.2 < (ndAt x.1 x.2.1).kids.length) ∧ ∀ c, (ndAt x.1 x.2.1).kids[x.2.2.toNat]? = some c → 0 ≤ c ∧ c < x.1.length
theorem fitsP1 {x : List Nd × Int × Int} {y : Nd} (h : fitsP x) (hy : x.1[x.2.1.toNat]? = some y) : 0 ≤ x.2.2 ∧ x.2.2 < y.kids.length := by
  have := h.2.2.2.1; rwa [ndAt_of hy] at this
theorem fitsP2 {x : List Nd × Int × Int} {y : Nd} {c : Int} (h : fitsP x) (hy : x.1[x.2.1.toNat]? = some y) (hc : y.kids[x.2.2.toNat]? = some c) : 0 ≤ c ∧ c < x.1.length := by
  have := h.2.2.2.2 c; rw [ndAt_of hy] at this; exact this hc
theorem fitsP3 {x : List Nd × Int × Int} {y z : Nd} {c : Int} (h : fitsP x) (hy : x.1[x.2.1.toNat]? = some y) (hc : y.kids[x.2.2.toNat]? = some c) (hz : x.1[c.toNat]? = some z) (hk : y.kind = 10) (hz5 : z.kind = 5) : ∃ h t, z.kids = h :: t ∧ isNd x.1 h = true := by
  have := h.2.2.1; rw [ndAt_of hy] at this
  have := this hk c hc; rw [kindAt, ndAt_of hz] at this; exact this hz5
theorem fitsP4 {x : List Nd × Int × Int} {y z : Nd} {c d : Int} (h : fitsP x) (hy : x.1[x.2.1.toNat]? = some y) (hc : y.kids[x.2.2.toNat]? = some c) (hz : x.1[c.toNat]? = some z) (hk : y.kind = 10) (hz5 : z.kind = 5) (hd : z.kids[0]? = some d) : (0 ≤ d ∧ d < x.1.length) ∧ z.kids.headD 0 = d := by
  obtain ⟨a, t, e, ha⟩ := fitsP3 h hy hc hz hk hz5
  rw [e] at hd ⊢; cases hd; exact ⟨isNd_iff.1 ha, rfl⟩
theorem fitsP5 {x : List Nd × Int × Int} {y z : Nd} {c : Int} (h : fitsP x) (hy : x.1[x.2.1.toNat]? = some y) (hc : y.kids[x.2.2.toNat]? = some c) (hz : x.1[c.toNat]? = some z) (hk : y.kind = 10) (hz5 : z.kind = 5) : 0 < z.kids.length := by
  obtain ⟨a, t, e, ha⟩ := fitsP3 h hy hc hz hk hz5
  rw [e]; simp
def fitR (x : List Nd × Int × Int) : Bool := fitK x.1 (ndAt x.1 x.2.1) x.2.2 ((ndAt x.1 x.2.1).kids.getD x.2.2.toNat 0)
theorem fitR_of {x : List Nd × Int × Int} {y z : Nd} {c : Int} (hy : x.1[x.2.1.toNat]? = some y) (hc : y.kids[x.2.2.toNat]? = some c) (hz : x.1[c.toNat]? = some z) :
    fitR x = (fitKind y.kind y.kids.length x.2.2 z.kind && (if y.kind = 10 ∧ 0 < x.2.2 then decide (kindAt x.1 (z.kids.headD 0) = 1) else true)) := by
  rw [fitR, ndAt_of hy, List.getD, hc, Option.getD_some, fitK, kindAt, ndAt_of hz]
def s_l05Fits  : Sig := { X := List Nd × Int × Int, args := fun x => [nds x.1, .int .i64 x.2.1, .int .i64 x.2.2], pre := fun x => fitsP x, Y := Unit, post := fun x y => True, res := fun x y => .bool (fitR x), outs := fun x y => [.top, .top, .top], keep := false }
theorem l05Fits_vc (x : List Nd × Int × Int) : vcFun Go.Proofs.Tryd.prog (Γof [(24, 0, s_l05Value), (62, 0, s_l05Statement)]) (Eof []) false (Lof ([])) Go.Proofs.Tryd.f63.ntmps Go.Proofs.Tryd.f63.results.toList (Go.Proofs.Tryd.f63.body.getD .skip) s_l05Fits x = ((∀ (y : Unit), True → True ∧ True ∧ True ∧ True ∧ True) ∧ ((0 : Int) ≤ x.snd.fst ∧ x.snd.fst < (↑(List.length x.fst) : Int)) ∧ ∀ (e : Nd), x.fst[Int.toNat x.snd.fst]? = some e → ((0 : Int) ≤ x.snd.snd ∧ x.snd.snd < (↑(List.length e.kids) : Int)) ∧ ∀ (e_1 : Int), e.kids[Int.toNat x.snd.snd]? = some e_1 → ((0 : Int) ≤ e_1 ∧ e_1 < (↑(List.length x.fst) : Int)) ∧ ∀ (e_2 : Nd), x.fst[Int.toNat e_1]? = some e_2 → bcase (e.kind == (9 : Int)) (inR IntKind.i64 (x.snd.snd + (1 : Int)) ∧ bcase (decide (x.snd.snd + (1 : Int) < (↑(List.length e.kids) : Int))) (∃ (y : Unit), True ∧ (e_2.kind == (1 : Int)) = fitR x ∧ True) (∃ (x_1 : Int), True ∧ e_2.kind = x_1 ∧ ∀ (y : Unit), True → ∃ (y : Unit), True ∧ isVal x_1 = fitR x ∧ True)) (bcase (e.kind == (20 : Int)) (inR IntKind.i64 (x.snd.snd + (1 : Int)) ∧ bcase (decide (x.snd.snd + (1 : Int) < (↑(List.length e.kids) : Int))) (∃ (y : Unit), True ∧ (e_2.kind == (1 : Int)) = fitR x ∧ True) (∃ (y : Unit), True ∧ (e_2.kind == (18 : Int)) = fitR x ∧ True)) (bcase (e.kind == (10 : Int)) (bcase (decide (x.snd.snd > (0 : Int))) (bcase (e_2.kind == (5 : Int)) (((0 : Int) ≤ (0 : Int) ∧ (0 : Int) < (↑(List.length e_2.kids) : Int)) ∧ ∀ (e : Int), e_2.kids[(0 : Nat)]? = some e → ((0 : Int) ≤ e ∧ e < (↑(List.length x.fst) : Int)) ∧ ∀ (e_3 : Nd), x.fst[Int.toNat e]? = some e_3 → ∃ (y : Unit), True ∧ (e_3.kind == (1 : Int)) = fitR x ∧ True) (∃ (y : Unit), True ∧ false = fitR x ∧ True)) (∃ (x_1 : Int), True ∧ e_2.kind = x_1 ∧ ∀ (y : Unit), True → ∃ (y : Unit), True ∧ isVal x_1 = fitR x ∧ True)) (bcase (e.kind == (16 : Int)) (bcase (decide (x.snd.snd > (0 : Int))) (∃ (y : Unit), True ∧ (e_2.kind == (18 : Int)) = fitR x ∧ True) (∃ (x_1 : Int), True ∧ e_2.kind = x_1 ∧ ∀ (y : Unit), True → ∃ (y : Unit), True ∧ isVal x_1 = fitR x ∧ True)) (bcase (e.kind == (17 : Int)) (bcase (decide (x.snd.snd > (0 : Int))) (∃ (y : Unit), True ∧ (e_2.kind == (18 : Int)) = fitR x ∧ True) (∃ (x_1 : Int), True ∧ e_2.kind = x_1 ∧ ∀ (y : Unit), True → ∃ (y : Unit), True ∧ isVal x_1 = fitR x ∧ True)) (bcase (e.kind == (18 : Int)) (∃ (x_1 : Int), True ∧ e_2.kind = x_1 ∧ ∀ (y : Unit), True → ∃ (y : Unit), True ∧ isSt x_1 = fitR x ∧ True) (bcase (e.kind == (21 : Int)) (bcase (e_2.kind == (12 : Int)) (∃ (y : Unit), True ∧ true = fitR x ∧ True) (bcase (e_2.kind == (20 : Int)) (∃ (y : Unit), True ∧ true = fitR x ∧ True) (∃ (y : Unit), True ∧ (e_2.kind == (19 : Int)) = fitR x ∧ True))) (bcase (e.kind == (22 : Int)) (bcase (e_2.kind == (21 : Int)) (∃ (y : Unit), True ∧ true = fitR x ∧ True) (bcase (e_2.kind == (12 : Int)) (∃ (y : Unit), True ∧ true = fitR x ∧ True) (bcase (e_2.kind == (20 : Int)) (∃ (y : Unit), True ∧ true = fitR x ∧ True) (∃ (y : Unit), True ∧ (e_2.kind == (19 : Int)) = fitR x ∧ True)))) (∃ (x_1 : Int), True ∧ e_2.kind = x_1 ∧ ∀ (y : Unit), True → ∃ (y : Unit), True ∧ isVal x_1 = fitR x ∧ True))))))))) := by kernel_rfl
theorem l05Fits_ok  : Contract G Tryd.prog 63 s_l05Fits :=
  vcFun_ok (Γ := Γof [(24, 0, s_l05Value), (62, 0, s_l05Statement)]) (E := Eof []) (ov := false) (L := fun x => Lof ([])) Tryd.func63 rfl (by decide) (Γof_ok (l := [(24, 0, s_l05Value), (62, 0, s_l05Statement)]) ⟨l05Value_ok, l05Statement_ok, trivial⟩) fun (x : List Nd × Int × Int) (hx : fitsP x) => (l05Fits_vc  x).mpr (by
  have h := hx; have h1 := h.1; have hl := h1.1; have hn := isNd_iff.1 h.2.1
  (repeat' first | with_reducible rfl | exact True.intro | refine inR_i64 ?_ ?_ | with_reducible refine And.intro ?_ ?_ | with_reducible refine bcase_dec (fun _ => ?_) (fun _ => ?_) | with_reducible refine bcase_bne (fun _ => ?_) (fun _ => ?_) | with_reducible refine bcase_beq (fun _ => ?_) (fun _ => ?_) | with_reducible refine bcase_not (fun _ => ?_) (fun _ => ?_) | refine bcase_intro (fun _ => ?_) (fun _ => ?_) | refine sl_eq ?_ | refine ex_flip () ?_ ?_ | (apply ex_flip6 <;> try dsimp only) | (apply ex_flip5 <;> try dsimp only) | (apply ex_flip4 <;> try dsimp only) | (apply ex_flip3 <;> try dsimp only) | (apply ex_flip2 <;> try dsimp only) | apply ex_flip | (refine Prod.forall.2 ?_; intro _; try dsimp only) | (intro _; try dsimp only))
  all_goals first
    | omega
    | exact (fitsP1 h (by assumption)).1
    | exact (fitsP1 h (by assumption)).2
    | exact (fitsP2 h (by assumption) (by assumption)).1
    | exact (fitsP2 h (by assumption) (by assumption)).2
    | exact fitsP5 h (by assumption) (by assumption) (by assumption) (by assumption) (by assumption)
    | (have := fitsP5 h (by assumption) (by assumption) (by assumption) (by assumption) (by assumption); omega)
    | (have := (fitsP4 h (by assumption) (by assumption) (by assumption) (by assumption) (by assumption) (by assumption)).1; omega)
    | (have hk := (h1.2 _ (memE (show x.1[x.2.1.toNat]? = some _ by assumption))).2; have := fitsP1 h (by assumption); (try simp only [i64max]); omega)
    | (rw [fitR_of (by assumption) (by assumption) (by assumption)]; simp [fitKind, isNm, isBlk, isMem, isTop, isCl, beqI, *]; done)
    | (rw [fitR_of (by assumption) (by assumption) (by assumption), (fitsP4 h (by assumption) (by assumption) (by assumption) (by assumption) (by assumption) (by assumption)).2, kindAt, ndAt_of (by assumption)]; simp [fitKind, isCl, beqI, *]; done)
    | skip)

end Go.My
end
section
/- Nodes: the reference's NodeOk, depths, TreeOk. -/
set_option linter.unusedVariables false
set_option linter.unusedSimpArgs false
namespace Go.My
open Go.Eng Go.Proofs
variable {G : GInv}

def koI (ns : List Nd) (x : Nd) (i : Int) : Prop := 0 ≤ i ∧ i ≤ x.kids.length ∧ ∀ (j : Nat) c, (j : Int) < i → x.kids[j]? = some c → kidOkS ns x j c = true
theorem koI_init {ns : List Nd} {x : Nd} : koI ns x 0 := ⟨by omega, by omega, fun j c h => by omega⟩
theorem koI_next {ns : List Nd} {x : Nd} {i c : Int} (h : koI ns x i) (hc : x.kids[i.toNat]? = some c) (hk : kidOkS ns x i c = true) : koI ns x (i + 1) := by
  obtain ⟨h1, h2, h3⟩ := h
  have := (getE hc).1
  refine ⟨by omega, by omega, fun j d hj hd => ?_⟩
  by_cases e : (j : Int) < i
  · exact h3 j d e hd
  · obtain rfl : j = i.toNat := by omega
    rw [hc] at hd; cases hd
    rwa [show ((i.toNat : Nat) : Int) = i by omega]
theorem koI_done {ns : List Nd} {x : Nd} {i : Int} (h : koI ns x i) (hl : ¬ i < x.kids.length) : allAt (kidOkS ns x) x.kids 0 = true := by
  rw [allAt_iff]; intro j c hc
  exact h.2.2 j c (by have := (getE hc).1; omega) hc
theorem ko_not {ns : List Nd} {x : Nd} {i c : Int} (h0 : 0 ≤ i) (hc : x.kids[i.toNat]? = some c) (hk : kidOkS ns x i c = false) : allAt (kidOkS ns x) x.kids 0 = false := by
  rw [Bool.eq_false_iff]; intro h
  rw [allAt_iff] at h
  have := h _ _ hc
  rw [show ((i.toNat : Nat) : Int) = i by omega, hk] at this; cases this
theorem ko1 {ns : List Nd} {x y : Nd} {i c : Int} (hy : ns[c.toNat]? = some y) (h : y.kind = 5) (h0 : (y.kids.length : Int) = 0) : kidOkS ns x i c = false := by
  have h0 := List.length_eq_zero_iff.1 (show y.kids.length = 0 by omega)
  simp [kidOkS, kindAt, ndAt_of hy, h, h0]
theorem isNd_inn {ns : List Nd} {d : Int} : inn d 0 (ns.length - 1) = isNd ns d := by
  rw [Bool.eq_iff_iff]; simp only [inn, isNd, Bool.and_eq_true, decide_eq_true_eq]; omega
theorem ko2 {ns : List Nd} {x y : Nd} {i c d : Int} (hy : ns[c.toNat]? = some y) (h : y.kind = 5) (h0 : y.kids[0]? = some d) (hd : inn d 0 (ns.length - 1) = false) : kidOkS ns x i c = false := by
  rw [isNd_inn] at hd
  match hk : y.kids with
  | [] => rw [hk] at h0; cases h0
  | e :: t => rw [hk] at h0; cases h0; simp [kidOkS, kindAt, ndAt_of hy, h, hk, hd]
theorem ko3 {ns : List Nd} {x y : Nd} {i c d : Int} (hy : ns[c.toNat]? = some y) (h : y.kind = 5) (h0 : y.kids[0]? = some d) (hd : inn d 0 (ns.length - 1) = true) : kidOkS ns x i c = fitK ns x i c := by
  rw [isNd_inn] at hd
  match hk : y.kids with
  | [] => rw [hk] at h0; cases h0
  | e :: t => rw [hk] at h0; cases h0; simp [kidOkS, kindAt, ndAt_of hy, h, hk, hd]
theorem ko4 {ns : List Nd} {x y : Nd} {i c : Int} (hy : ns[c.toNat]? = some y) (h : y.kind ≠ 5) : kidOkS ns x i c = fitK ns x i c := by
  simp [kidOkS, kindAt, ndAt_of hy, h]
theorem ko_fit {ns : List Nd} {x : Nd} {k i c : Int} {b : Bool} (hx : ns[k.toNat]? = some x) (hc : x.kids[i.toNat]? = some c) (hb : fitR (ns, k, i) = b) : fitK ns x i c = b := by
  rw [← hb, fitR, ndAt_of hx, List.getD, hc, Option.getD_some]
theorem fitsP_of1 {ns : List Nd} {x y : Nd} {k i c d : Int} (h1 : okNds ns) (hn : isNd ns k = true) (hx : ns[k.toNat]? = some x) (hin : kidsIn x.kids k = true) (hi : koI ns x i) (hc : x.kids[i.toNat]? = some c) (hy : ns[c.toNat]? = some y) (h0 : y.kids[0]? = some d) (hd : inn d 0 (ns.length - 1) = true) : fitsP (ns, k, i) := by
  have hk := isNd_iff.1 hn
  have := (getE hc).1
  unfold fitsP; simp only [ndAt_of hx]
  refine ⟨h1, hn, fun h10 c' hc' h5 => ?_, ⟨hi.1, by omega⟩, fun c' hc' => ?_⟩
  · rw [hc] at hc'; cases hc'
    rw [ndAt_of hy]
    match hkk : y.kids with
    | [] => rw [hkk] at h0; cases h0
    | e :: t => rw [hkk] at h0; cases h0; exact ⟨_, _, rfl, by rw [← isNd_inn]; exact hd⟩
  · simp only [kidsIn, List.all_eq_true, Bool.and_eq_true, decide_eq_true_eq] at hin
    have := hin c' (memE hc'); omega
theorem fitsP_of2 {ns : List Nd} {x y : Nd} {k i c : Int} (h1 : okNds ns) (hn : isNd ns k = true) (hx : ns[k.toNat]? = some x) (hin : kidsIn x.kids k = true) (hi : koI ns x i) (hc : x.kids[i.toNat]? = some c) (hy : ns[c.toNat]? = some y) (h5 : y.kind ≠ 5) : fitsP (ns, k, i) := by
  have hk := isNd_iff.1 hn
  have := (getE hc).1
  unfold fitsP; simp only [ndAt_of hx]
  refine ⟨h1, hn, fun h10 c' hc' h5' => ?_, ⟨hi.1, by omega⟩, fun c' hc' => ?_⟩
  · rw [hc] at hc'; cases hc'
    rw [kindAt, ndAt_of hy] at h5'; exact (h5 h5').elim
  · simp only [kidsIn, List.all_eq_true, Bool.and_eq_true, decide_eq_true_eq] at hin
    have := hin c' (memE hc'); omega

theorem mayBlank_eq {k : Int} : mayBlank k = (isSt k || (decide (k = 20) || decide (k = 21))) := by
  rw [Bool.eq_iff_iff]
  simp only [mayBlank, isSt, isMem, isStep, inn, Bool.or_eq_true, Bool.and_eq_true, decide_eq_true_eq]; omega
theorem sn_nd {ns : List Nd} {k : Int} (h : inn k 0 (ns.length - 1) = false) : false = nodeOk ns k := by rw [isNd_inn] at h; exact no_nd h
theorem sn_of {ns : List Nd} {k : Int} {x : Nd} (hx : ns[k.toNat]? = some x) (h : inn k 0 (ns.length - 1) = true) : nodeOk ns k = (inn x.kind 1 22 && (inn x.kids.length (lohi x.kind).1 (lohi x.kind).2 && (textOk x.kind x.text && ((mayBlank x.kind || !x.blank) && ((kidsIn x.kids k && decide x.kids.Nodup) && allAt (kidOkS ns x) x.kids 0))))) := by
  rw [isNd_inn] at h; rw [no_of hx h, node_bridge]
theorem sn_in {ns : List Nd} {k : Int} {x : Nd} (hx : ns[k.toNat]? = some x) (h : inn k 0 (ns.length - 1) = true) (h1 : kidsIn x.kids k = false) : false = nodeOk ns k := by
  rw [sn_of hx h, h1]; simp
theorem sn_dup {ns : List Nd} {k : Int} {x : Nd} (hx : ns[k.toNat]? = some x) (h : inn k 0 (ns.length - 1) = true) (h1 : ¬ x.kids.Nodup) : false = nodeOk ns k := by
  rw [sn_of hx h, decide_eq_false h1]; simp
theorem sn_kid {ns : List Nd} {k : Int} {x : Nd} (hx : ns[k.toNat]? = some x) (h : inn k 0 (ns.length - 1) = true) (h1 : allAt (kidOkS ns x) x.kids 0 = false) : false = nodeOk ns k := by
  rw [sn_of hx h, h1]; simp
theorem sn_yes {ns : List Nd} {k : Int} {x : Nd} (hx : ns[k.toNat]? = some x) (h : inn k 0 (ns.length - 1) = true) (h1 : inn x.kind 1 22 = true) (h2 : inn x.kids.length (lohi x.kind).1 (lohi x.kind).2 = true) (h3 : textOk x.kind x.text = true) (h4 : (mayBlank x.kind || !x.blank) = true)
    (h5 : kidsIn x.kids k = true ∧ x.kids.Nodup) (h6 : allAt (kidOkS ns x) x.kids 0 = true) : true = nodeOk ns k := by
  rw [sn_of hx h, h1, h2, h3, h4, h5.1, h6, decide_eq_true h5.2]; rfl
theorem in_not {k c : Int} {l : List Int} {n : Nat} (hc : l[n]? = some c) (h : inn c 0 (k - 1) = false) : kidsIn l k = false := by
  rw [Bool.eq_false_iff]; intro hh; simp only [kidsIn, List.all_eq_true, Bool.and_eq_true, decide_eq_true_eq] at hh
  have := hh c (memE hc)
  have : inn c 0 (k - 1) = true := inn_iff.2 (by omega)
  rw [h] at this; cases this
def djI (l : List Int) (i j : Int) : Prop := 0 ≤ j ∧ j ≤ i ∧ ∀ c, l[i.toNat]? = some c → (l.take j.toNat).elem c = false
theorem djI_init {l : List Int} {i : Int} (h : 0 ≤ i) : djI l i 0 := ⟨by omega, h, by simp⟩
theorem djI_next {l : List Int} {i j c d : Int} (h : djI l i j) (hl : j < i) (hc : l[i.toNat]? = some c) (hd : l[j.toNat]? = some d) (hne : c ≠ d) : djI l i (j + 1) := by
  refine ⟨by have := h.1; omega, by omega, fun c' hc' => ?_⟩
  have h3 := h.2.2 c' hc'
  rw [hc] at hc'; cases hc'
  rw [toNat1 h.1, takeE hd]
  simp at h3 ⊢
  exact ⟨h3, hne⟩
theorem djI_eq {l : List Int} {i j c d : Int} (h0 : djI l i j) (hl : j < i) (hc : l[i.toNat]? = some c) (hd : l[j.toNat]? = some d) (he : c = d) : ¬ l.Nodup := by
  refine nk_dup hc ?_
  subst he
  rw [List.elem_iff]
  rw [List.mem_take_iff_getElem]
  obtain ⟨hj, e⟩ := getE hd
  have := h0.1
  exact ⟨j.toNat, by omega, e⟩
theorem djI_done {k : Int} {l : List Int} {i j c : Int} (h : nkI k l i) (hd : djI l i j) (hl : ¬ j < i) (hc : l[i.toNat]? = some c) (hin : inn c 0 (k - 1) = true) : nkI k l (i + 1) := by
  have := inn_iff.1 hin
  have h3 := hd.2.2 c hc
  obtain rfl : j = i := by have := hd.2.1; omega
  exact nkI_next h hc (by omega) (by omega) h3
def lsNode2 (x : List Nd × Int) (i : Int) : LS := {
  ι := Int, inv := djI (ndAt x.1 x.2).kids i,
  regs := fun j => [(0, nds x.1), (1, .int .i64 x.2), (5, .box 0 (ndA false (ndAt x.1 x.2))), (8, .int .i64 i), (9, .int .i64 j)], als := [], meas := fun j => i.toNat - j.toNat }
def lsNode (x : List Nd × Int) : LS := {
  ι := Int, inv := nkI x.2 (ndAt x.1 x.2).kids,
  regs := fun i => [(0, nds x.1), (1, .int .i64 x.2), (5, .box 0 (ndA false (ndAt x.1 x.2))), (8, .int .i64 i)], als := [], meas := fun i => (ndAt x.1 x.2).kids.length - i.toNat, sub := fun i => [(15, lsNode2 x i)] }
def lsNode3 (x : List Nd × Int) : LS := {
  ι := Int, inv := koI x.1 (ndAt x.1 x.2),
  regs := fun i => [(0, nds x.1), (1, .int .i64 x.2), (5, .box 0 (ndA false (ndAt x.1 x.2))), (10, .int .i64 i)], als := [], meas := fun i => (ndAt x.1 x.2).kids.length - i.toNat }
def jI (x : Nd) : Prop := inn x.kind 1 22 = true ∧ inn x.kids.length (lohi x.kind).1 (lohi x.kind).2 = true ∧ textOk x.kind x.text = true ∧ (mayBlank x.kind || !x.blank) = true
def lsJoin (x : List Nd × Int) : LS := {
  ι := Unit, inv := fun _ => jI (ndAt x.1 x.2),
  regs := fun _ => [(0, nds x.1), (1, .int .i64 x.2), (5, .box 0 (ndA false (ndAt x.1 x.2)))], als := [], meas := fun _ => 0 }
def s_sNodeOk  : Sig := { X := List Nd × Int, args := fun x => [nds x.1, .int .i64 x.2], pre := fun x => okNds x.1, Y := Unit, post := fun x y => True, res := fun x y => .bool (nodeOk x.1 x.2), outs := fun x y => [.top, .top], keep := false }
theorem sNodeOk_vc (x : List Nd × Int) : vcFun Go.Proofs.Tryd.prog (Γof [(44, 0, s_l01In), (60, 0, s_l05Count), (61, 0, s_l05Text), (62, 0, s_l05Statement), (63, 0, s_l05Fits)]) (Eof []) false (Lof ([(10,lsNode x), (20,lsNode3 x), (200009,lsJoin x)])) Go.Proofs.Tryd.f56.ntmps Go.Proofs.Tryd.f56.results.toList (Go.Proofs.Tryd.f56.body.getD .skip) s_sNodeOk x = ((∀ (y : Unit), True → True ∧ True ∧ True ∧ True) ∧ inR IntKind.i64 ((↑(List.length x.fst) : Int) - (1 : Int)) ∧ ∃ (x_1 : Int × Int × Int), True ∧ x.snd = x_1.fst ∧ (0 : Int) = x_1.snd.fst ∧ (↑(List.length x.fst) : Int) - (1 : Int) = x_1.snd.snd ∧ ∀ (y : Unit), True → bcase (!inn x_1.fst x_1.snd.fst x_1.snd.snd) (∃ (y : Unit), True ∧ false = nodeOk x.fst x.snd ∧ True) (((0 : Int) ≤ x.snd ∧ x.snd < (↑(List.length x.fst) : Int)) ∧ ∀ (e : Nd), x.fst[Int.toNat x.snd]? = some e → ∃ (x_2 : Int × Int × Int), True ∧ e.kind = x_2.fst ∧ (1 : Int) = x_2.snd.fst ∧ (22 : Int) = x_2.snd.snd ∧ ∀ (y : Unit), True → bcase (!inn x_2.fst x_2.snd.fst x_2.snd.snd) (∃ (y : Unit), True ∧ false = nodeOk x.fst x.snd ∧ True) (((0 : Int) ≤ x.snd ∧ x.snd < (↑(List.length x.fst) : Int)) ∧ ∀ (e : Nd), x.fst[Int.toNat x.snd]? = some e → ∃ (x_3 : Int), True ∧ e.kind = x_3 ∧ ∀ (y : Unit), True → ∃ (x_4 : Int × Int × Int), True ∧ (↑(List.length e.kids) : Int) = x_4.fst ∧ (lohi x_3).fst = x_4.snd.fst ∧ (lohi x_3).snd = x_4.snd.snd ∧ ∀ (y : Unit), True → bcase (!inn x_4.fst x_4.snd.fst x_4.snd.snd) (∃ (y : Unit), True ∧ false = nodeOk x.fst x.snd ∧ True) (∃ (x_5 : Int × List UInt8), List.length x_5.snd < (4611686018427387904 : Nat) ∧ e.kind = x_5.fst ∧ e.text = x_5.snd ∧ ∀ (y : Unit), True → bcase (!textOk x_5.fst x_5.snd) (∃ (y : Unit), True ∧ false = nodeOk x.fst x.snd ∧ True) (bcase e.blank (∃ (x_6 : Int), True ∧ e.kind = x_6 ∧ ∀ (y : Unit), True → bcase (!isSt x_6) (bcase (e.kind != (20 : Int)) (bcase (e.kind != (21 : Int)) (∃ (y : Unit), True ∧ false = nodeOk x.fst x.snd ∧ True) (∃ (i : Unit), jI (ndAt x.fst x.snd) ∧ (AV.sl false (0 : Nat) (4 : Nat) Nd (ndA false) x.fst = AV.sl false (0 : Nat) (4 : Nat) Nd (ndA false) x.fst ∧ x.snd = x.snd ∧ e.kind = (ndAt x.fst x.snd).kind ∧ e.text = (ndAt x.fst x.snd).text ∧ AV.sl false (0 : Nat) (1 : Nat) Int intA e.kids = AV.sl false (0 : Nat) (1 : Nat) Int intA (ndAt x.fst x.snd).kids ∧ e.blank = (ndAt x.fst x.snd).blank ∧ True) ∧ True)) (∃ (i : Unit), jI (ndAt x.fst x.snd) ∧ (AV.sl false (0 : Nat) (4 : Nat) Nd (ndA false) x.fst = AV.sl false (0 : Nat) (4 : Nat) Nd (ndA false) x.fst ∧ x.snd = x.snd ∧ e.kind = (ndAt x.fst x.snd).kind ∧ e.text = (ndAt x.fst x.snd).text ∧ AV.sl false (0 : Nat) (1 : Nat) Int intA e.kids = AV.sl false (0 : Nat) (1 : Nat) Int intA (ndAt x.fst x.snd).kids ∧ e.blank = (ndAt x.fst x.snd).blank ∧ True) ∧ True)) (∃ (i : Unit), jI (ndAt x.fst x.snd) ∧ (AV.sl false (0 : Nat) (4 : Nat) Nd (ndA false) x.fst = AV.sl false (0 : Nat) (4 : Nat) Nd (ndA false) x.fst ∧ x.snd = x.snd ∧ e.kind = (ndAt x.fst x.snd).kind ∧ e.text = (ndAt x.fst x.snd).text ∧ AV.sl false (0 : Nat) (1 : Nat) Int intA e.kids = AV.sl false (0 : Nat) (1 : Nat) Int intA (ndAt x.fst x.snd).kids ∧ e.blank = (ndAt x.fst x.snd).blank ∧ True) ∧ True)) (∃ (i : Unit), jI (ndAt x.fst x.snd) ∧ (AV.sl false (0 : Nat) (4 : Nat) Nd (ndA false) x.fst = AV.sl false (0 : Nat) (4 : Nat) Nd (ndA false) x.fst ∧ x.snd = x.snd ∧ e.kind = (ndAt x.fst x.snd).kind ∧ e.text = (ndAt x.fst x.snd).text ∧ AV.sl false (0 : Nat) (1 : Nat) Int intA e.kids = AV.sl false (0 : Nat) (1 : Nat) Int intA (ndAt x.fst x.snd).kids ∧ e.blank = (ndAt x.fst x.snd).blank ∧ True) ∧ True) ∧ ∀ (i : Unit), jI (ndAt x.fst x.snd) → (∃ (i : Int), nkI x.snd (ndAt x.fst x.snd).kids i ∧ (AV.sl false (0 : Nat) (4 : Nat) Nd (ndA false) x.fst = AV.sl false (0 : Nat) (4 : Nat) Nd (ndA false) x.fst ∧ x.snd = x.snd ∧ (ndAt x.fst x.snd).kind = (ndAt x.fst x.snd).kind ∧ (ndAt x.fst x.snd).text = (ndAt x.fst x.snd).text ∧ AV.sl false (0 : Nat) (1 : Nat) Int intA (ndAt x.fst x.snd).kids = AV.sl false (0 : Nat) (1 : Nat) Int intA (ndAt x.fst x.snd).kids ∧ (ndAt x.fst x.snd).blank = (ndAt x.fst x.snd).blank ∧ (0 : Int) = i ∧ True) ∧ True) ∧ ∀ (i : Int), nkI x.snd (ndAt x.fst x.snd).kids i → bcase (decide (i < (↑(List.length (ndAt x.fst x.snd).kids) : Int))) (((0 : Int) ≤ i ∧ i < (↑(List.length (ndAt x.fst x.snd).kids) : Int)) ∧ ∀ (e : Int), (ndAt x.fst x.snd).kids[Int.toNat i]? = some e → inR IntKind.i64 (x.snd - (1 : Int)) ∧ ∃ (x_6 : Int × Int × Int), True ∧ e = x_6.fst ∧ (0 : Int) = x_6.snd.fst ∧ x.snd - (1 : Int) = x_6.snd.snd ∧ ∀ (y : Unit), True → bcase (!inn x_6.fst x_6.snd.fst x_6.snd.snd) (∃ (y : Unit), True ∧ false = nodeOk x.fst x.snd ∧ True) ((∃ (i_1 : Int), djI (ndAt x.fst x.snd).kids i i_1 ∧ (AV.sl false (0 : Nat) (4 : Nat) Nd (ndA false) x.fst = AV.sl false (0 : Nat) (4 : Nat) Nd (ndA false) x.fst ∧ x.snd = x.snd ∧ (ndAt x.fst x.snd).kind = (ndAt x.fst x.snd).kind ∧ (ndAt x.fst x.snd).text = (ndAt x.fst x.snd).text ∧ AV.sl false (0 : Nat) (1 : Nat) Int intA (ndAt x.fst x.snd).kids = AV.sl false (0 : Nat) (1 : Nat) Int intA (ndAt x.fst x.snd).kids ∧ (ndAt x.fst x.snd).blank = (ndAt x.fst x.snd).blank ∧ i = i ∧ (0 : Int) = i_1 ∧ True) ∧ True) ∧ ∀ (i_1 : Int), djI (ndAt x.fst x.snd).kids i i_1 → bcase (decide (i_1 < i)) (true = true ∧ true = true ∧ ((0 : Int) ≤ i ∧ i < (↑(List.length (ndAt x.fst x.snd).kids) : Int)) ∧ ∀ (e : Int), (ndAt x.fst x.snd).kids[Int.toNat i]? = some e → ((0 : Int) ≤ i_1 ∧ i_1 < (↑(List.length (ndAt x.fst x.snd).kids) : Int)) ∧ ∀ (e_1 : Int), (ndAt x.fst x.snd).kids[Int.toNat i_1]? = some e_1 → bcase (e == e_1) (∃ (y : Unit), True ∧ false = nodeOk x.fst x.snd ∧ True) (inR IntKind.i64 (i_1 + (1 : Int)) ∧ ∃ (i' : Int), djI (ndAt x.fst x.snd).kids i i' ∧ Int.toNat i - Int.toNat i' < Int.toNat i - Int.toNat i_1 ∧ (AV.sl false (0 : Nat) (4 : Nat) Nd (ndA false) x.fst = AV.sl false (0 : Nat) (4 : Nat) Nd (ndA false) x.fst ∧ x.snd = x.snd ∧ (ndAt x.fst x.snd).kind = (ndAt x.fst x.snd).kind ∧ (ndAt x.fst x.snd).text = (ndAt x.fst x.snd).text ∧ AV.sl false (0 : Nat) (1 : Nat) Int intA (ndAt x.fst x.snd).kids = AV.sl false (0 : Nat) (1 : Nat) Int intA (ndAt x.fst x.snd).kids ∧ (ndAt x.fst x.snd).blank = (ndAt x.fst x.snd).blank ∧ i = i ∧ i_1 + (1 : Int) = i' ∧ True) ∧ True)) (inR IntKind.i64 (i + (1 : Int)) ∧ ∃ (i' : Int), nkI x.snd (ndAt x.fst x.snd).kids i' ∧ List.length (ndAt x.fst x.snd).kids - Int.toNat i' < List.length (ndAt x.fst x.snd).kids - Int.toNat i ∧ (AV.sl false (0 : Nat) (4 : Nat) Nd (ndA false) x.fst = AV.sl false (0 : Nat) (4 : Nat) Nd (ndA false) x.fst ∧ x.snd = x.snd ∧ (ndAt x.fst x.snd).kind = (ndAt x.fst x.snd).kind ∧ (ndAt x.fst x.snd).text = (ndAt x.fst x.snd).text ∧ AV.sl false (0 : Nat) (1 : Nat) Int intA (ndAt x.fst x.snd).kids = AV.sl false (0 : Nat) (1 : Nat) Int intA (ndAt x.fst x.snd).kids ∧ (ndAt x.fst x.snd).blank = (ndAt x.fst x.snd).blank ∧ i + (1 : Int) = i' ∧ True) ∧ True))) ((∃ (i : Int), koI x.fst (ndAt x.fst x.snd) i ∧ (AV.sl false (0 : Nat) (4 : Nat) Nd (ndA false) x.fst = AV.sl false (0 : Nat) (4 : Nat) Nd (ndA false) x.fst ∧ x.snd = x.snd ∧ (ndAt x.fst x.snd).kind = (ndAt x.fst x.snd).kind ∧ (ndAt x.fst x.snd).text = (ndAt x.fst x.snd).text ∧ AV.sl false (0 : Nat) (1 : Nat) Int intA (ndAt x.fst x.snd).kids = AV.sl false (0 : Nat) (1 : Nat) Int intA (ndAt x.fst x.snd).kids ∧ (ndAt x.fst x.snd).blank = (ndAt x.fst x.snd).blank ∧ (0 : Int) = i ∧ True) ∧ True) ∧ ∀ (i : Int), koI x.fst (ndAt x.fst x.snd) i → bcase (decide (i < (↑(List.length (ndAt x.fst x.snd).kids) : Int))) (((0 : Int) ≤ i ∧ i < (↑(List.length (ndAt x.fst x.snd).kids) : Int)) ∧ ∀ (e : Int), (ndAt x.fst x.snd).kids[Int.toNat i]? = some e → ((0 : Int) ≤ e ∧ e < (↑(List.length x.fst) : Int)) ∧ ∀ (e_1 : Nd), x.fst[Int.toNat e]? = some e_1 → bcase (e_1.kind == (5 : Int)) (bcase ((↑(List.length e_1.kids) : Int) == (0 : Int)) (∃ (y : Unit), True ∧ false = nodeOk x.fst x.snd ∧ True) (((0 : Int) ≤ (0 : Int) ∧ (0 : Int) < (↑(List.length e_1.kids) : Int)) ∧ ∀ (e : Int), e_1.kids[(0 : Nat)]? = some e → inR IntKind.i64 ((↑(List.length x.fst) : Int) - (1 : Int)) ∧ ∃ (x_6 : Int × Int × Int), True ∧ e = x_6.fst ∧ (0 : Int) = x_6.snd.fst ∧ (↑(List.length x.fst) : Int) - (1 : Int) = x_6.snd.snd ∧ ∀ (y : Unit), True → bcase (!inn x_6.fst x_6.snd.fst x_6.snd.snd) (∃ (y : Unit), True ∧ false = nodeOk x.fst x.snd ∧ True) (∃ (x_7 : List Nd × Int × Int), fitsP x_7 ∧ AV.sl false (0 : Nat) (4 : Nat) Nd (ndA false) x.fst = AV.sl false (0 : Nat) (4 : Nat) Nd (ndA false) x_7.fst ∧ x.snd = x_7.snd.fst ∧ i = x_7.snd.snd ∧ ∀ (y : Unit), True → bcase (!fitR x_7) (∃ (y : Unit), True ∧ false = nodeOk x.fst x.snd ∧ True) (inR IntKind.i64 (i + (1 : Int)) ∧ ∃ (i' : Int), koI x.fst (ndAt x.fst x.snd) i' ∧ List.length (ndAt x.fst x.snd).kids - Int.toNat i' < List.length (ndAt x.fst x.snd).kids - Int.toNat i ∧ (AV.sl false (0 : Nat) (4 : Nat) Nd (ndA false) x.fst = AV.sl false (0 : Nat) (4 : Nat) Nd (ndA false) x.fst ∧ x.snd = x.snd ∧ (ndAt x.fst x.snd).kind = (ndAt x.fst x.snd).kind ∧ (ndAt x.fst x.snd).text = (ndAt x.fst x.snd).text ∧ AV.sl false (0 : Nat) (1 : Nat) Int intA (ndAt x.fst x.snd).kids = AV.sl false (0 : Nat) (1 : Nat) Int intA (ndAt x.fst x.snd).kids ∧ (ndAt x.fst x.snd).blank = (ndAt x.fst x.snd).blank ∧ i + (1 : Int) = i' ∧ True) ∧ True)))) (∃ (x_6 : List Nd × Int × Int), fitsP x_6 ∧ AV.sl false (0 : Nat) (4 : Nat) Nd (ndA false) x.fst = AV.sl false (0 : Nat) (4 : Nat) Nd (ndA false) x_6.fst ∧ x.snd = x_6.snd.fst ∧ i = x_6.snd.snd ∧ ∀ (y : Unit), True → bcase (!fitR x_6) (∃ (y : Unit), True ∧ false = nodeOk x.fst x.snd ∧ True) (inR IntKind.i64 (i + (1 : Int)) ∧ ∃ (i' : Int), koI x.fst (ndAt x.fst x.snd) i' ∧ List.length (ndAt x.fst x.snd).kids - Int.toNat i' < List.length (ndAt x.fst x.snd).kids - Int.toNat i ∧ (AV.sl false (0 : Nat) (4 : Nat) Nd (ndA false) x.fst = AV.sl false (0 : Nat) (4 : Nat) Nd (ndA false) x.fst ∧ x.snd = x.snd ∧ (ndAt x.fst x.snd).kind = (ndAt x.fst x.snd).kind ∧ (ndAt x.fst x.snd).text = (ndAt x.fst x.snd).text ∧ AV.sl false (0 : Nat) (1 : Nat) Int intA (ndAt x.fst x.snd).kids = AV.sl false (0 : Nat) (1 : Nat) Int intA (ndAt x.fst x.snd).kids ∧ (ndAt x.fst x.snd).blank = (ndAt x.fst x.snd).blank ∧ i + (1 : Int) = i' ∧ True) ∧ True))) (∃ (y : Unit), True ∧ true = nodeOk x.fst x.snd ∧ True))))))) := by kernel_rfl
set_option maxHeartbeats 4000000 in
theorem sNodeOk_ok  : Contract G Tryd.prog 56 s_sNodeOk :=
  vcFun_ok (Γ := Γof [(44, 0, s_l01In), (60, 0, s_l05Count), (61, 0, s_l05Text), (62, 0, s_l05Statement), (63, 0, s_l05Fits)]) (E := Eof []) (ov := false) (L := fun x => Lof ([(10,lsNode x), (20,lsNode3 x), (200009,lsJoin x)])) Tryd.func56 rfl (by decide) (Γof_ok (l := [(44, 0, s_l01In), (60, 0, s_l05Count), (61, 0, s_l05Text), (62, 0, s_l05Statement), (63, 0, s_l05Fits)]) ⟨l01In_ok, l05Count_ok, l05Text_ok, l05Statement_ok, l05Fits_ok, trivial⟩) fun (x : List Nd × Int) (hx : okNds x.1) => (sNodeOk_vc  x).mpr (by
  have h1 : okNds x.1 := hx; have hl := h1.1
  by_cases hn : isNd x.1 x.2 = true
  case neg =>
    (repeat' first | with_reducible rfl | exact True.intro | refine inR_i64 ?_ ?_ | with_reducible refine And.intro ?_ ?_ | with_reducible refine bcase_dec (fun _ => ?_) (fun _ => ?_) | with_reducible refine bcase_bne (fun _ => ?_) (fun _ => ?_) | with_reducible refine bcase_beq (fun _ => ?_) (fun _ => ?_) | with_reducible refine bcase_not (fun _ => ?_) (fun _ => ?_) | refine bcase_intro (fun _ => ?_) (fun _ => ?_) | refine sl_eq ?_ | refine ex_flip () ?_ ?_ | (apply ex_flip6 <;> try dsimp only) | (apply ex_flip5 <;> try dsimp only) | (apply ex_flip4 <;> try dsimp only) | (apply ex_flip3 <;> try dsimp only) | (apply ex_flip2 <;> try dsimp only) | apply ex_flip | (refine Prod.forall.2 ?_; intro _; try dsimp only) | (intro _; try dsimp only))
    all_goals first
      | exact sn_nd (by assumption)
      | (have hh := (show inn x.2 0 (x.1.length - 1) = true by assumption); rw [isNd_inn] at hh; exact (hn hh).elim)
      | ((try simp only [i64max]); omega)
  case pos =>
  have hr := isNd_iff.1 hn
  obtain ⟨z, hz⟩ : ∃ z, x.1[x.2.toNat]? = some z := ⟨x.1[x.2.toNat], by simp⟩
  have hzo := h1.2 _ (memE hz)
  have hi : inn x.2 0 (x.1.length - 1) = true := by rw [isNd_inn]; exact hn
  simp only [hz, Option.some.injEq, forall_eq', ndAt_of hz]
  (repeat' first | with_reducible rfl | exact True.intro | refine inR_i64 ?_ ?_ | with_reducible refine And.intro ?_ ?_ | with_reducible refine bcase_dec (fun _ => ?_) (fun _ => ?_) | with_reducible refine bcase_bne (fun _ => ?_) (fun _ => ?_) | with_reducible refine bcase_beq (fun _ => ?_) (fun _ => ?_) | with_reducible refine bcase_not (fun _ => ?_) (fun _ => ?_) | refine bcase_intro (fun _ => ?_) (fun _ => ?_) | refine sl_eq ?_ | refine ex_flip () ?_ ?_ | (apply ex_flip6 <;> try dsimp only) | (apply ex_flip5 <;> try dsimp only) | (apply ex_flip4 <;> try dsimp only) | (apply ex_flip3 <;> try dsimp only) | (apply ex_flip2 <;> try dsimp only) | apply ex_flip | (refine Prod.forall.2 ?_; intro _; try dsimp only) | (intro _; try dsimp only))
  all_goals first
    | rfl
    | assumption
    | exact nkI_init
    | exact koI_init
    | exact djI_init (‹nkI _ _ _›.1)
    | exact sn_nd (by assumption)
    | exact ⟨by assumption, by assumption, by assumption, by simp [mayBlank_eq, *]⟩
    | exact sn_in hz hi (in_not (by assumption) (by assumption))
    | exact sn_dup hz hi (djI_eq (by assumption) (by assumption) (by assumption) (by assumption) (by assumption))
    | exact djI_next (by assumption) (by assumption) (by assumption) (by assumption) (by assumption)
    | exact djI_done (by assumption) (by assumption) (by assumption) (by assumption) (by assumption)
    | exact sn_kid hz hi (ko_not (‹koI _ _ _›.1) (by assumption) (ko1 (by assumption) (by assumption) (by assumption)))
    | exact sn_kid hz hi (ko_not (‹koI _ _ _›.1) (by assumption) (ko2 (by assumption) (by assumption) (by assumption) (by assumption)))
    | exact sn_kid hz hi (ko_not (‹koI _ _ _›.1) (by assumption) ((ko4 (by assumption) (by assumption)).trans (ko_fit hz (by assumption) (by assumption))))
    | exact sn_kid hz hi (ko_not (‹koI _ _ _›.1) (by assumption) ((ko3 (by assumption) (by assumption) (by assumption) (by assumption)).trans (ko_fit hz (by assumption) (by assumption))))
    | exact koI_next (by assumption) (by assumption) ((ko4 (by assumption) (by assumption)).trans (ko_fit hz (by assumption) (by assumption)))
    | exact koI_next (by assumption) (by assumption) ((ko3 (by assumption) (by assumption) (by assumption) (by assumption)).trans (ko_fit hz (by assumption) (by assumption)))
    | exact fitsP_of1 h1 hn hz (nkI_done (by assumption) (by assumption)).1 (by assumption) (by assumption) (by assumption) (by assumption) (by assumption)
    | exact fitsP_of2 h1 hn hz (nkI_done (by assumption) (by assumption)).1 (by assumption) (by assumption) (by assumption) (by assumption)
    | exact sn_yes hz hi (‹jI _›.1) (‹jI _›.2.1) (‹jI _›.2.2.1) (‹jI _›.2.2.2) (nkI_done (by assumption) (by assumption)) (koI_done (by assumption) (by assumption))
    | (rw [sn_of hz hi]; simp [mayBlank_eq, *]; done)
    | exact hzo.1
    | (have := nkI_at (by assumption) (by assumption) hr.2 (memE (show z.kids[_]? = some _ by assumption)); omega)
    | ((try simp only [i64max]); omega)
    | (have hko := (show koI _ _ _ by assumption); have hk2 := hzo.2; have := hko.1; have := hko.2.1; (try simp only [i64max]); omega)
    | (have hko := (show djI _ _ _ by assumption); have hk1 := (show nkI _ _ _ by assumption); have hk2 := hzo.2; have := hko.1; have := hko.2.1; have := hk1.1; have := hk1.2.1; (try simp only [i64max]); omega)
    | (have hk1 := (show nkI _ _ _ by assumption); have hk2 := hzo.2; have := hk1.1; have := hk1.2.1; (try simp only [i64max]); omega)
    | skip)

end Go.My
end
section
/- Depths and trees: the reference's functions. -/
set_option linter.unusedVariables false
set_option linter.unusedSimpArgs false
namespace Go.My
open Go.Eng Go.Proofs
variable {G : GInv}

/- the reference's depths: 0 from the first wrong node on -/
def sdp (ns : List Nd) (i : Nat) (ds : List Int) : Int :=
  if nodeOk ns i = true ∧ (i = 0 ∨ ds.getD (i - 1) 0 ≠ 0) then (if 14 ≤ mx ds (ndAt ns i).kids 0 then 0 else mx ds (ndAt ns i).kids 0 + 1) else 0
def sds (ns : List Nd) : Nat → List Int
  | 0 => []
  | n + 1 => sds ns n ++ [sdp ns n (sds ns n)]
theorem sds_len {ns : List Nd} : ∀ {n : Nat}, (sds ns n).length = n
  | 0 => rfl
  | n + 1 => by rw [sds, List.length_append, sds_len]; rfl
theorem sds_deeps {ns : List Nd} : ∀ {n : Nat}, (match deeps ns n with | some ds => sds ns n = ds | none => 0 < n ∧ (sds ns n).getD (n - 1) 0 = 0)
  | 0 => by simp [deeps, sds]
  | n + 1 => by
    have ih := @sds_deeps ns n
    unfold deeps
    cases hd : deeps ns n with
    | none =>
      rw [hd] at ih
      simp only
      refine ⟨by omega, ?_⟩
      have hz : sdp ns n (sds ns n) = 0 := by
        unfold sdp; rw [if_neg]; rintro ⟨_, h | h⟩
        · omega
        · exact h ih.2
      rw [sds, hz, List.getD, List.getElem?_append_right (by rw [sds_len]; omega), sds_len]; simp
    | some ds =>
      rw [hd] at ih
      simp only at ih ⊢
      by_cases hn : nodeOk ns n = true
      · rw [if_pos hn]
        have hprev : n = 0 ∨ (sds ns n).getD (n - 1) 0 ≠ 0 := by
          by_cases e : n = 0
          · exact .inl e
          · right
            rw [ih, List.getD]
            have hl := deeps_length hd
            have : ds[n - 1]? = some ds[n - 1] := by simp
            rw [this]; have := deeps_pos hd ds[n - 1] (by simp); simp; omega
        have hs : sdp ns n (sds ns n) = if 14 ≤ mx ds (ndAt ns n).kids 0 then 0 else mx ds (ndAt ns n).kids 0 + 1 := by
          unfold sdp; rw [if_pos ⟨hn, hprev⟩, ih]
        by_cases hm : 14 ≤ mx ds (ndAt ns n).kids 0
        · rw [if_pos hm]; simp only
          refine ⟨by omega, ?_⟩
          rw [sds, hs, if_pos hm, List.getD, List.getElem?_append_right (by rw [sds_len]; omega), sds_len]; simp
        · rw [if_neg hm]; simp only
          rw [sds, hs, if_neg hm, ih]
      · rw [if_neg hn]; simp only
        refine ⟨by omega, ?_⟩
        have hz : sdp ns n (sds ns n) = 0 := by unfold sdp; rw [if_neg (fun h => hn h.1)]
        rw [sds, hz, List.getD, List.getElem?_append_right (by rw [sds_len]; omega), sds_len]; simp
theorem sds_take {ns : List Nd} {n m : Nat} (h : n ≤ m) {i : Nat} (hi : i < n) : (sds ns m)[i]? = (sds ns n)[i]? := by
  induction m with
  | zero => omega
  | succ m ih =>
    by_cases e : n = m + 1
    · subst e; rfl
    · rw [sds, List.getElem?_append_left (by rw [sds_len]; omega), ih (by omega)]
theorem sds_deepOf {ns : List Nd} {k : Int} {v : Int} (h : isNd ns k = true) (hv : (sds ns (k.toNat + 1))[k.toNat]? = some v) : v = deepOf ns k := by
  have ih := @sds_deeps ns (k.toNat + 1)
  unfold deepOf; rw [if_pos h]
  cases hd : deeps ns (k.toNat + 1) with
  | none => rw [hd] at ih; simp only at ih ⊢; have := ih.2; rw [List.getD] at this; simp [hv] at this; exact this
  | some ds => rw [hd] at ih; simp only at ih ⊢; rw [← ih, List.getD, hv]; rfl
theorem sds_rng {ns : List Nd} : ∀ {n : Nat}, ∀ d ∈ sds ns n, 0 ≤ d ∧ d ≤ 14
  | 0, d, h => by simp [sds] at h
  | n + 1, d, h => by
    rw [sds] at h
    rcases List.mem_append.1 h with h | h
    · exact sds_rng d h
    · simp at h; subst h
      have := mx_ge (sds ns n) (ndAt ns n).kids 0
      unfold sdp; split
      · split <;> omega
      · omega
def okB (ns : List Nd) (i : Int) : Bool := nodeOk ns i && (decide (i = 0) || !decide ((sds ns i.toNat).getD (i.toNat - 1) 0 = 0))
theorem sdp_of {ns : List Nd} {i : Int} (h : 0 ≤ i) : sdp ns i.toNat (sds ns i.toNat) = if okB ns i then (if 14 ≤ mx (sds ns i.toNat) (ndAt ns i).kids 0 then 0 else mx (sds ns i.toNat) (ndAt ns i).kids 0 + 1) else 0 := by
  have e : ((i.toNat : Nat) : Int) = i := by omega
  unfold sdp; rw [e]
  have hb : okB ns i = true ↔ nodeOk ns i = true ∧ (i.toNat = 0 ∨ (sds ns i.toNat).getD (i.toNat - 1) 0 ≠ 0) := by
    unfold okB
    simp only [Bool.and_eq_true, Bool.or_eq_true, decide_eq_true_eq, Bool.not_eq_true', decide_eq_false_iff_not]
    constructor
    · rintro ⟨h1, h2⟩; exact ⟨h1, h2.imp (fun h => by omega) id⟩
    · rintro ⟨h1, h2⟩; exact ⟨h1, h2.imp (fun h => by omega) id⟩
  by_cases h1 : okB ns i = true
  · rw [if_pos h1, if_pos (hb.1 h1)]
  · rw [if_neg h1, if_neg (fun h2 => h1 (hb.2 h2))]
def eI (ns : List Nd) (i j d : Int) : Prop := (okB ns i = true → j ≤ (ndAt ns i).kids.length ∧ 1 ≤ d ∧ d ≤ 15 ∧ mx (sds ns i.toNat) ((ndAt ns i).kids.drop j.toNat) (d - 1) = mx (sds ns i.toNat) (ndAt ns i).kids 0) ∧ 0 ≤ j ∧ (okB ns i = false → d = 0)
theorem eI_init {ns : List Nd} {i : Int} : eI ns i 0 (if okB ns i then 1 else 0) := by
  refine ⟨fun h => ?_, by omega, fun h => ?_⟩
  · rw [if_pos h]; refine ⟨by omega, by omega, by omega, by simp⟩
  · rw [h]; rfl
theorem eI_ok {ns : List Nd} {i j d : Int} (h : eI ns i j d) (hd : d > 0) : okB ns i = true := by
  cases hb : okB ns i
  · have := h.2.2 hb; omega
  · rfl
theorem okB_ok {ns : List Nd} {i : Int} (h : okB ns i = true) : nodeOk ns i = true := by
  simp only [okB, Bool.and_eq_true] at h; exact h.1
theorem eI_kid {ns : List Nd} {i j d c : Int} {y : Nd} (h : eI ns i j d) (hd : d > 0) (hy : ns[i.toNat]? = some y) (hc : y.kids[j.toNat]? = some c) : 0 ≤ c ∧ c < i := by
  have := (nodeOk_parts (okB_ok (eI_ok h hd))).2.2.2.1
  rw [ndAt_of hy] at this; exact this c (memE hc)
theorem eI_len {ns : List Nd} {i j d : Int} {y : Nd} (h : eI ns i j d) (hd : d > 0) (hy : ns[i.toNat]? = some y) : y.kids.length ≤ 12 := by
  have := (nodeOk_parts (okB_ok (eI_ok h hd))).2.1
  rwa [ndAt_of hy] at this
theorem eI_next {ns : List Nd} {i j d c v d' : Int} {y : Nd} (h : eI ns i j d) (hd : d > 0) (hy : ns[i.toNat]? = some y) (hc : y.kids[j.toNat]? = some c) (hv : (sds ns i.toNat)[c.toNat]? = some v) (hd' : d' - 1 = max (d - 1) v) : eI ns i (j + 1) d' := by
  have hb := eI_ok h hd
  obtain ⟨h1, h2, h3, h4⟩ := h.1 hb
  have h0 := h.2.1
  have hr := sds_rng v (memE hv)
  rw [ndAt_of hy] at h4 h1
  have := (getE hc).1
  refine ⟨fun _ => ?_, by omega, fun hh => by rw [hb] at hh; cases hh⟩
  rw [ndAt_of hy]
  refine ⟨by omega, by omega, by omega, ?_⟩
  rw [← h4, dropE hc, toNat1 h0, mx, List.getD, hv, Option.getD_some, hd']
theorem eI_v {ns : List Nd} {i : Int} {c : Nat} {v : Int} (hv : (sds ns i.toNat)[c]? = some v) : 0 ≤ v ∧ v ≤ 14 := sds_rng v (memE hv)
theorem eI_done {ns : List Nd} {i j d : Int} {y : Nd} (hi : 0 ≤ i) (h : eI ns i j d) (hd : d > 0) (hy : ns[i.toNat]? = some y) (hl : ¬ j < y.kids.length) : sds ns i.toNat ++ [if d > 14 then 0 else d] = sds ns (i + 1).toNat := by
  have hb := eI_ok h hd
  obtain ⟨h1, h2, h3, h4⟩ := h.1 hb
  rw [ndAt_of hy, List.drop_eq_nil_of_le (by omega), mx] at h4
  rw [toNat1 hi, sds, sdp_of hi, if_pos hb, ndAt_of hy, ← h4]
  congr 2
  by_cases h5 : d > 14
  · rw [if_pos h5, if_pos (by omega)]
  · rw [if_neg h5, if_neg (by omega)]; omega
theorem eI_zero {ns : List Nd} {i j d : Int} (hi : 0 ≤ i) (h : eI ns i j d) (hd : ¬ d > 0) : sds ns i.toNat ++ [d] = sds ns (i + 1).toNat := by
  have hb : okB ns i = false := by
    cases hb : okB ns i
    · rfl
    · have := (h.1 hb).2.1; omega
  rw [toNat1 hi, sds, sdp_of hi, hb, h.2.2 hb]; rfl
theorem okB0a {ns : List Nd} {i : Int} (h : nodeOk ns i = false) : 0 = if okB ns i = true then (1 : Int) else 0 := by simp [okB, h]
theorem okB0b {ns : List Nd} {i v : Int} (h : i > 0) (hv : (sds ns i.toNat)[(i - 1).toNat]? = some v) (h0 : v = 0) : 0 = if okB ns i = true then (1 : Int) else 0 := by
  have e : (i - 1).toNat = i.toNat - 1 := by omega
  rw [e] at hv; subst h0
  have : (sds ns i.toNat).getD (i.toNat - 1) 0 = 0 := by rw [List.getD, hv]; rfl
  simp only [okB, this, decide_true, Bool.not_true, Bool.or_false]
  rw [decide_eq_false (by omega)]; simp
theorem okB1a {ns : List Nd} {i : Int} (h : nodeOk ns i = true) (h0 : 0 ≤ i) (h1 : ¬ i > 0) : 1 = if okB ns i = true then (1 : Int) else 0 := by
  obtain rfl : i = 0 := by omega
  simp [okB, h]
theorem okB1b {ns : List Nd} {i v : Int} (h : nodeOk ns i = true) (h0 : i > 0) (hv : (sds ns i.toNat)[(i - 1).toNat]? = some v) (h1 : v ≠ 0) : 1 = if okB ns i = true then (1 : Int) else 0 := by
  have e : (i - 1).toNat = i.toNat - 1 := by omega
  rw [e] at hv
  have : (sds ns i.toNat).getD (i.toNat - 1) 0 ≠ 0 := by rw [List.getD, hv]; exact h1
  simp only [okB, h, this, decide_false, Bool.not_false, Bool.or_true, Bool.and_true, if_true]
def lDs2 (x : List Nd × Int) (o : Int) : LS := {
  ι := Int × Int, inv := fun i => eI x.1 o i.1 i.2,
  regs := fun i => [(0, nds x.1), (1, .int .i64 x.2), (5, oints (sds x.1 o.toNat)), (6, .int .i64 o), (7, .int .i64 i.2), (8, .int .i64 i.1)], als := [], meas := fun i => (ndAt x.1 o).kids.length - i.1.toNat }
def lDsJ (x : List Nd × Int) (o : Int) : LS := {
  ι := Unit, inv := fun _ => True,
  regs := fun i => [(0, nds x.1), (1, .int .i64 x.2), (5, oints (sds x.1 o.toNat)), (6, .int .i64 o), (7, .int .i64 (if okB x.1 o then 1 else 0))], als := [], meas := fun i => 0 }
def lDs (x : List Nd × Int) : LS := {
  ι := Int, inv := fun i => 0 ≤ i ∧ i ≤ x.2 + 1,
  regs := fun i => [(0, nds x.1), (1, .int .i64 x.2), (5, oints (sds x.1 i.toNat)), (6, .int .i64 i)], als := [], meas := fun i => (x.2 + 1 - i).toNat, sub := fun i => [(9, lDs2 x i), (200008, lDsJ x i)] }
def s_l05Deeps  : Sig := { X := List Nd × Int, args := fun x => [nds x.1, .int .i64 x.2], pre := fun x => okNds x.1 ∧ x.1.length ≤ 2 ^ 30 ∧ isNd x.1 x.2 = true, Y := Unit, post := fun x y => True, res := fun x y => oints (sds x.1 (x.2.toNat + 1)), outs := fun x y => [.top, .top], keep := false }
theorem l05Deeps_vc (x : List Nd × Int) : vcFun Go.Proofs.Tryd.prog (Γof [(56, 0, s_sNodeOk)]) (Eof [(39, ⟨Int,intA⟩)]) false (Lof ([(3,lDs x)])) Go.Proofs.Tryd.f45.ntmps Go.Proofs.Tryd.f45.results.toList (Go.Proofs.Tryd.f45.body.getD .skip) s_l05Deeps x = ((∀ (y : Unit), True → (∀ (x : Int), True ∧ True) ∧ True ∧ True ∧ True) ∧ (∃ (i : Int), ((0 : Int) ≤ i ∧ i ≤ x.snd + (1 : Int)) ∧ (AV.sl false (0 : Nat) (4 : Nat) Nd (ndA false) x.fst = AV.sl false (0 : Nat) (4 : Nat) Nd (ndA false) x.fst ∧ x.snd = x.snd ∧ AV.sl true (0 : Nat) (1 : Nat) Int intA [] = AV.sl true (0 : Nat) (1 : Nat) Int intA (sds x.fst (Int.toNat i)) ∧ (0 : Int) = i ∧ True) ∧ True) ∧ ∀ (i : Int), (0 : Int) ≤ i ∧ i ≤ x.snd + (1 : Int) → bcase (decide (i ≤ x.snd)) (bcase (decide (i < (↑(List.length x.fst) : Int))) ((∃ (x_1 : List Nd × Int), okNds x_1.fst ∧ AV.sl false (0 : Nat) (4 : Nat) Nd (ndA false) x.fst = AV.sl false (0 : Nat) (4 : Nat) Nd (ndA false) x_1.fst ∧ i = x_1.snd ∧ ∀ (y : Unit), True → bcase (!nodeOk x_1.fst x_1.snd) (∃ (i_1 : Unit), True ∧ (AV.sl false (0 : Nat) (4 : Nat) Nd (ndA false) x.fst = AV.sl false (0 : Nat) (4 : Nat) Nd (ndA false) x.fst ∧ x.snd = x.snd ∧ AV.sl true (0 : Nat) (1 : Nat) Int intA (sds x.fst (Int.toNat i)) = AV.sl true (0 : Nat) (1 : Nat) Int intA (sds x.fst (Int.toNat i)) ∧ i = i ∧ ((0 : Int) = if okB x.fst i = true then (1 : Int) else (0 : Int)) ∧ True) ∧ True) (bcase (decide (i > (0 : Int))) (inR IntKind.i64 (i - (1 : Int)) ∧ ((0 : Int) ≤ i - (1 : Int) ∧ i - (1 : Int) < (↑(List.length (sds x.fst (Int.toNat i))) : Int)) ∧ Int.toNat (i - (1 : Int)) < List.length (sds x.fst (Int.toNat i)) ∧ ∀ (x_2 : Int), (sds x.fst (Int.toNat i))[Int.toNat (i - (1 : Int))]? = some x_2 → bcase (x_2 == (0 : Int)) (∃ (i_1 : Unit), True ∧ (AV.sl false (0 : Nat) (4 : Nat) Nd (ndA false) x.fst = AV.sl false (0 : Nat) (4 : Nat) Nd (ndA false) x.fst ∧ x.snd = x.snd ∧ AV.sl true (0 : Nat) (1 : Nat) Int intA (sds x.fst (Int.toNat i)) = AV.sl true (0 : Nat) (1 : Nat) Int intA (sds x.fst (Int.toNat i)) ∧ i = i ∧ ((0 : Int) = if okB x.fst i = true then (1 : Int) else (0 : Int)) ∧ True) ∧ True) (∃ (i_1 : Unit), True ∧ (AV.sl false (0 : Nat) (4 : Nat) Nd (ndA false) x.fst = AV.sl false (0 : Nat) (4 : Nat) Nd (ndA false) x.fst ∧ x.snd = x.snd ∧ AV.sl true (0 : Nat) (1 : Nat) Int intA (sds x.fst (Int.toNat i)) = AV.sl true (0 : Nat) (1 : Nat) Int intA (sds x.fst (Int.toNat i)) ∧ i = i ∧ ((1 : Int) = if okB x.fst i = true then (1 : Int) else (0 : Int)) ∧ True) ∧ True)) (∃ (i_1 : Unit), True ∧ (AV.sl false (0 : Nat) (4 : Nat) Nd (ndA false) x.fst = AV.sl false (0 : Nat) (4 : Nat) Nd (ndA false) x.fst ∧ x.snd = x.snd ∧ AV.sl true (0 : Nat) (1 : Nat) Int intA (sds x.fst (Int.toNat i)) = AV.sl true (0 : Nat) (1 : Nat) Int intA (sds x.fst (Int.toNat i)) ∧ i = i ∧ ((1 : Int) = if okB x.fst i = true then (1 : Int) else (0 : Int)) ∧ True) ∧ True))) ∧ ∀ (i_1 : Unit), True → (∃ (i_2 : Int × Int), eI x.fst i i_2.fst i_2.snd ∧ (AV.sl false (0 : Nat) (4 : Nat) Nd (ndA false) x.fst = AV.sl false (0 : Nat) (4 : Nat) Nd (ndA false) x.fst ∧ x.snd = x.snd ∧ AV.sl true (0 : Nat) (1 : Nat) Int intA (sds x.fst (Int.toNat i)) = AV.sl true (0 : Nat) (1 : Nat) Int intA (sds x.fst (Int.toNat i)) ∧ i = i ∧ (if okB x.fst i = true then (1 : Int) else (0 : Int)) = i_2.snd ∧ (0 : Int) = i_2.fst ∧ True) ∧ True) ∧ ∀ (i_2 : Int × Int), eI x.fst i i_2.fst i_2.snd → bcase (decide (i_2.snd > (0 : Int))) (((0 : Int) ≤ i ∧ i < (↑(List.length x.fst) : Int)) ∧ ∀ (e : Nd), x.fst[Int.toNat i]? = some e → bcase (decide (i_2.fst < (↑(List.length e.kids) : Int))) (((0 : Int) ≤ i ∧ i < (↑(List.length x.fst) : Int)) ∧ ∀ (e : Nd), x.fst[Int.toNat i]? = some e → ((0 : Int) ≤ i_2.fst ∧ i_2.fst < (↑(List.length e.kids) : Int)) ∧ ∀ (e_1 : Int), e.kids[Int.toNat i_2.fst]? = some e_1 → ((0 : Int) ≤ e_1 ∧ e_1 < (↑(List.length (sds x.fst (Int.toNat i))) : Int)) ∧ Int.toNat e_1 < List.length (sds x.fst (Int.toNat i)) ∧ ∀ (x_1 : Int), (sds x.fst (Int.toNat i))[Int.toNat e_1]? = some x_1 → inR IntKind.i64 (x_1 + (1 : Int)) ∧ bcase (decide (x_1 + (1 : Int) > i_2.snd)) (((0 : Int) ≤ i ∧ i < (↑(List.length x.fst) : Int)) ∧ ∀ (e : Nd), x.fst[Int.toNat i]? = some e → ((0 : Int) ≤ i_2.fst ∧ i_2.fst < (↑(List.length e.kids) : Int)) ∧ ∀ (e_2 : Int), e.kids[Int.toNat i_2.fst]? = some e_2 → ((0 : Int) ≤ e_2 ∧ e_2 < (↑(List.length (sds x.fst (Int.toNat i))) : Int)) ∧ Int.toNat e_2 < List.length (sds x.fst (Int.toNat i)) ∧ ∀ (x_2 : Int), (sds x.fst (Int.toNat i))[Int.toNat e_2]? = some x_2 → inR IntKind.i64 (x_2 + (1 : Int)) ∧ inR IntKind.i64 (i_2.fst + (1 : Int)) ∧ ∃ (i' : Int × Int), eI x.fst i i'.fst i'.snd ∧ List.length (ndAt x.fst i).kids - Int.toNat i'.fst < List.length (ndAt x.fst i).kids - Int.toNat i_2.fst ∧ (AV.sl false (0 : Nat) (4 : Nat) Nd (ndA false) x.fst = AV.sl false (0 : Nat) (4 : Nat) Nd (ndA false) x.fst ∧ x.snd = x.snd ∧ AV.sl true (0 : Nat) (1 : Nat) Int intA (sds x.fst (Int.toNat i)) = AV.sl true (0 : Nat) (1 : Nat) Int intA (sds x.fst (Int.toNat i)) ∧ i = i ∧ x_2 + (1 : Int) = i'.snd ∧ i_2.fst + (1 : Int) = i'.fst ∧ True) ∧ True) (inR IntKind.i64 (i_2.fst + (1 : Int)) ∧ ∃ (i' : Int × Int), eI x.fst i i'.fst i'.snd ∧ List.length (ndAt x.fst i).kids - Int.toNat i'.fst < List.length (ndAt x.fst i).kids - Int.toNat i_2.fst ∧ (AV.sl false (0 : Nat) (4 : Nat) Nd (ndA false) x.fst = AV.sl false (0 : Nat) (4 : Nat) Nd (ndA false) x.fst ∧ x.snd = x.snd ∧ AV.sl true (0 : Nat) (1 : Nat) Int intA (sds x.fst (Int.toNat i)) = AV.sl true (0 : Nat) (1 : Nat) Int intA (sds x.fst (Int.toNat i)) ∧ i = i ∧ i_2.snd = i'.snd ∧ i_2.fst + (1 : Int) = i'.fst ∧ True) ∧ True)) (bcase (decide (i_2.snd > (14 : Int))) (∃ (x_1 : Int), (0 : Int) = x_1 ∧ ∃ (zs : List Int), AV.sl true (0 : Nat) (1 : Nat) Int intA [x_1] = AV.sl true (0 : Nat) (1 : Nat) Int intA zs ∧ leafy intA ∧ room (List.length (sds x.fst (Int.toNat i)) + List.length zs) (8 : Nat) ∧ inR IntKind.i64 (i + (1 : Int)) ∧ ∃ (i' : Int), ((0 : Int) ≤ i' ∧ i' ≤ x.snd + (1 : Int)) ∧ Int.toNat (x.snd + (1 : Int) - i') < Int.toNat (x.snd + (1 : Int) - i) ∧ (AV.sl false (0 : Nat) (4 : Nat) Nd (ndA false) x.fst = AV.sl false (0 : Nat) (4 : Nat) Nd (ndA false) x.fst ∧ x.snd = x.snd ∧ AV.sl true (0 : Nat) (1 : Nat) Int intA (sds x.fst (Int.toNat i) ++ zs) = AV.sl true (0 : Nat) (1 : Nat) Int intA (sds x.fst (Int.toNat i')) ∧ i + (1 : Int) = i' ∧ True) ∧ True) (∃ (x_1 : Int), i_2.snd = x_1 ∧ ∃ (zs : List Int), AV.sl true (0 : Nat) (1 : Nat) Int intA [x_1] = AV.sl true (0 : Nat) (1 : Nat) Int intA zs ∧ leafy intA ∧ room (List.length (sds x.fst (Int.toNat i)) + List.length zs) (8 : Nat) ∧ inR IntKind.i64 (i + (1 : Int)) ∧ ∃ (i' : Int), ((0 : Int) ≤ i' ∧ i' ≤ x.snd + (1 : Int)) ∧ Int.toNat (x.snd + (1 : Int) - i') < Int.toNat (x.snd + (1 : Int) - i) ∧ (AV.sl false (0 : Nat) (4 : Nat) Nd (ndA false) x.fst = AV.sl false (0 : Nat) (4 : Nat) Nd (ndA false) x.fst ∧ x.snd = x.snd ∧ AV.sl true (0 : Nat) (1 : Nat) Int intA (sds x.fst (Int.toNat i) ++ zs) = AV.sl true (0 : Nat) (1 : Nat) Int intA (sds x.fst (Int.toNat i')) ∧ i + (1 : Int) = i' ∧ True) ∧ True))) (bcase (decide (i_2.snd > (14 : Int))) (∃ (x_1 : Int), (0 : Int) = x_1 ∧ ∃ (zs : List Int), AV.sl true (0 : Nat) (1 : Nat) Int intA [x_1] = AV.sl true (0 : Nat) (1 : Nat) Int intA zs ∧ leafy intA ∧ room (List.length (sds x.fst (Int.toNat i)) + List.length zs) (8 : Nat) ∧ inR IntKind.i64 (i + (1 : Int)) ∧ ∃ (i' : Int), ((0 : Int) ≤ i' ∧ i' ≤ x.snd + (1 : Int)) ∧ Int.toNat (x.snd + (1 : Int) - i') < Int.toNat (x.snd + (1 : Int) - i) ∧ (AV.sl false (0 : Nat) (4 : Nat) Nd (ndA false) x.fst = AV.sl false (0 : Nat) (4 : Nat) Nd (ndA false) x.fst ∧ x.snd = x.snd ∧ AV.sl true (0 : Nat) (1 : Nat) Int intA (sds x.fst (Int.toNat i) ++ zs) = AV.sl true (0 : Nat) (1 : Nat) Int intA (sds x.fst (Int.toNat i')) ∧ i + (1 : Int) = i' ∧ True) ∧ True) (∃ (x_1 : Int), i_2.snd = x_1 ∧ ∃ (zs : List Int), AV.sl true (0 : Nat) (1 : Nat) Int intA [x_1] = AV.sl true (0 : Nat) (1 : Nat) Int intA zs ∧ leafy intA ∧ room (List.length (sds x.fst (Int.toNat i)) + List.length zs) (8 : Nat) ∧ inR IntKind.i64 (i + (1 : Int)) ∧ ∃ (i' : Int), ((0 : Int) ≤ i' ∧ i' ≤ x.snd + (1 : Int)) ∧ Int.toNat (x.snd + (1 : Int) - i') < Int.toNat (x.snd + (1 : Int) - i) ∧ (AV.sl false (0 : Nat) (4 : Nat) Nd (ndA false) x.fst = AV.sl false (0 : Nat) (4 : Nat) Nd (ndA false) x.fst ∧ x.snd = x.snd ∧ AV.sl true (0 : Nat) (1 : Nat) Int intA (sds x.fst (Int.toNat i) ++ zs) = AV.sl true (0 : Nat) (1 : Nat) Int intA (sds x.fst (Int.toNat i')) ∧ i + (1 : Int) = i' ∧ True) ∧ True))) (∃ (y : Unit), True ∧ AV.sl true (0 : Nat) (1 : Nat) Int intA (sds x.fst (Int.toNat i)) = AV.sl true (0 : Nat) (1 : Nat) Int intA (sds x.fst (Int.toNat x.snd + (1 : Nat))) ∧ True)) (∃ (y : Unit), True ∧ AV.sl true (0 : Nat) (1 : Nat) Int intA (sds x.fst (Int.toNat i)) = AV.sl true (0 : Nat) (1 : Nat) Int intA (sds x.fst (Int.toNat x.snd + (1 : Nat))) ∧ True)) := by kernel_rfl
theorem l05Deeps_ok  : Contract G Tryd.prog 45 s_l05Deeps :=
  vcFun_ok (Γ := Γof [(56, 0, s_sNodeOk)]) (E := Eof [(39, ⟨Int,intA⟩)]) (ov := false) (L := fun x => Lof ([(3,lDs x)])) Tryd.func45 rfl (by decide) (Γof_ok (l := [(56, 0, s_sNodeOk)]) ⟨sNodeOk_ok, trivial⟩) fun (x : List Nd × Int) (hx : okNds x.1 ∧ x.1.length ≤ 2 ^ 30 ∧ isNd x.1 x.2 = true) => (l05Deeps_vc  x).mpr (by
  obtain ⟨h1, h2, h3⟩ := hx; have hl := h1.1; have hn := isNd_iff.1 h3
  (repeat' first | with_reducible rfl | exact True.intro | refine inR_i64 ?_ ?_ | with_reducible refine And.intro ?_ ?_ | with_reducible refine bcase_dec (fun _ => ?_) (fun _ => ?_) | with_reducible refine bcase_bne (fun _ => ?_) (fun _ => ?_) | with_reducible refine bcase_beq (fun _ => ?_) (fun _ => ?_) | with_reducible refine bcase_not (fun _ => ?_) (fun _ => ?_) | refine bcase_intro (fun _ => ?_) (fun _ => ?_) | refine sl_eq ?_ | refine ex_flip () ?_ ?_ | (apply ex_flip6 <;> try dsimp only) | (apply ex_flip5 <;> try dsimp only) | (apply ex_flip4 <;> try dsimp only) | (apply ex_flip3 <;> try dsimp only) | (apply ex_flip2 <;> try dsimp only) | apply ex_flip | (refine Prod.forall.2 ?_; intro _; try dsimp only) | (intro _; try dsimp only))
  all_goals first
    | rfl
    | omega
    | exact okB0a (by assumption)
    | exact okB0b (by assumption) (by assumption) (by assumption)
    | exact okB1a (by assumption) (by omega) (by assumption)
    | exact okB1b (by assumption) (by assumption) (by assumption) (by assumption)
    | exact eI_init
    | (rw [sds_len]; omega)
    | skip
  all_goals try (repeat (rename x.1[Int.toNat _]? = some _ => hq; revert hq; rename x.1[Int.toNat _]? = some _ => hr; intro hq; rw [hr] at hq; cases hq))
  all_goals try (repeat (rename (Nd.kids _)[Int.toNat _]? = some _ => hq; revert hq; rename (Nd.kids _)[Int.toNat _]? = some _ => hr; intro hq; rw [hr] at hq; cases hq))
  all_goals try (rename (sds x.1 _)[Int.toNat _]? = some _ => hq; revert hq; rename (sds x.1 _)[Int.toNat _]? = some _ => hr2; intro hq; have hqq := hr2.symm.trans hq; simp only [Option.some.injEq] at hqq; subst hqq)
  all_goals try (have hke := eI_kid (by assumption) (by assumption) (by assumption) (by assumption))
  all_goals try (have hle := eI_len (by assumption) (by assumption) (by assumption))
  all_goals try (have hve := eI_v (by assumption))
  all_goals try (have hse := (show eI _ _ _ _ by assumption).2.1)
  all_goals first
    | omega
    | (rw [sds_len]; omega)
    | ((try simp only [i64max]); omega)
    | exact eI_next (by assumption) (by assumption) (by assumption) (by assumption) (by assumption) (by omega)
    | (rw [← eI_done (by omega) (by assumption) (by assumption) (by assumption) (by assumption)]; simp [*]; done)
    | exact eI_zero (by omega) (by assumption) (by assumption)
    | (rw [ndAt_of (by assumption)]; omega)
    | (congr 1; omega)
    | (simp only [room, sds_len, List.length_cons, List.length_nil]; omega)
    | skip)

def s_sDeepOf  : Sig := { X := List Nd × Int, args := fun x => [nds x.1, .int .i64 x.2], pre := fun x => okNds x.1 ∧ x.1.length ≤ 2 ^ 30, Y := Unit, post := fun x y => True, res := fun x y => .int .i64 (deepOf x.1 x.2), outs := fun x y => [.top, .top], keep := false }
theorem sDeepOf_vc (x : List Nd × Int) : vcFun Go.Proofs.Tryd.prog (Γof [(44, 0, s_l01In), (45, 0, s_l05Deeps)]) (Eof []) false (Lof ([])) Go.Proofs.Tryd.f23.ntmps Go.Proofs.Tryd.f23.results.toList (Go.Proofs.Tryd.f23.body.getD .skip) s_sDeepOf x = ((∀ (y : Unit), True → True ∧ True ∧ True ∧ True) ∧ inR IntKind.i64 ((↑(List.length x.fst) : Int) - (1 : Int)) ∧ ∃ (x_1 : Int × Int × Int), True ∧ x.snd = x_1.fst ∧ (0 : Int) = x_1.snd.fst ∧ (↑(List.length x.fst) : Int) - (1 : Int) = x_1.snd.snd ∧ ∀ (y : Unit), True → bcase (!inn x_1.fst x_1.snd.fst x_1.snd.snd) (∃ (y : Unit), True ∧ (0 : Int) = deepOf x.fst x.snd ∧ True) (∃ (x_2 : List Nd × Int), (okNds x_2.fst ∧ List.length x_2.fst ≤ (1073741824 : Nat) ∧ isNd x_2.fst x_2.snd = true) ∧ AV.sl false (0 : Nat) (4 : Nat) Nd (ndA false) x.fst = AV.sl false (0 : Nat) (4 : Nat) Nd (ndA false) x_2.fst ∧ x.snd = x_2.snd ∧ ∀ (y : Unit), True → ((0 : Int) ≤ x.snd ∧ x.snd < (↑(List.length (sds x_2.fst (Int.toNat x_2.snd + (1 : Nat)))) : Int)) ∧ Int.toNat x.snd < List.length (sds x_2.fst (Int.toNat x_2.snd + (1 : Nat))) ∧ ∀ (x_3 : Int), (sds x_2.fst (Int.toNat x_2.snd + (1 : Nat)))[Int.toNat x.snd]? = some x_3 → ∃ (y : Unit), True ∧ x_3 = deepOf x.fst x.snd ∧ True)) := by kernel_rfl
theorem sDeepOf_ok  : Contract G Tryd.prog 23 s_sDeepOf :=
  vcFun_ok (Γ := Γof [(44, 0, s_l01In), (45, 0, s_l05Deeps)]) (E := Eof []) (ov := false) (L := fun x => Lof ([])) Tryd.func23 rfl (by decide) (Γof_ok (l := [(44, 0, s_l01In), (45, 0, s_l05Deeps)]) ⟨l01In_ok, l05Deeps_ok, trivial⟩) fun (x : List Nd × Int) (hx : okNds x.1 ∧ x.1.length ≤ 2 ^ 30) => (sDeepOf_vc  x).mpr (by
  obtain ⟨h1, h2⟩ := hx; have hl := h1.1
  (repeat' first | with_reducible rfl | exact True.intro | refine inR_i64 ?_ ?_ | with_reducible refine And.intro ?_ ?_ | with_reducible refine bcase_dec (fun _ => ?_) (fun _ => ?_) | with_reducible refine bcase_bne (fun _ => ?_) (fun _ => ?_) | with_reducible refine bcase_beq (fun _ => ?_) (fun _ => ?_) | with_reducible refine bcase_not (fun _ => ?_) (fun _ => ?_) | refine bcase_intro (fun _ => ?_) (fun _ => ?_) | refine sl_eq ?_ | refine ex_flip () ?_ ?_ | (apply ex_flip6 <;> try dsimp only) | (apply ex_flip5 <;> try dsimp only) | (apply ex_flip4 <;> try dsimp only) | (apply ex_flip3 <;> try dsimp only) | (apply ex_flip2 <;> try dsimp only) | apply ex_flip | (refine Prod.forall.2 ?_; intro _; try dsimp only) | (intro _; try dsimp only))
  all_goals first
    | exact h1
    | exact h2
    | ((try simp only [i64max]); omega)
    | (rw [isNd_inn] at *; exact dp_no (by assumption))
    | (have hh := (show inn x.2 0 (x.1.length - 1) = true by assumption); rw [isNd_inn] at hh; have := isNd_iff.1 hh; first | exact hh | omega | exact sds_deepOf hh (by assumption) | (rw [sds_len]; omega))
    | skip)

theorem tE_at2 {ns : List Nd} {i v : Int} (hv : (cnt ns.length (allKids ns))[i.toNat]? = some v) (h0 : 0 ≤ i) : ((allKids ns).count i : Int) = v := by
  have h : i.toNat < ns.length := by have := (getE hv).1; rwa [cnt_len] at this
  rw [cnt_at h] at hv
  have e2 : ((i.toNat : Nat) : Int) = i := by omega
  rw [e2] at hv; exact Option.some.inj hv
theorem tE_next2 {ns : List Nd} {i v : Int} (h : tE ns i) (hl : i + 1 < (ns.length : Int)) (hv : (cnt ns.length (allKids ns))[i.toNat]? = some v) (h1 : v = 1) : tE ns (i + 1) := by
  have := tE_at2 hv h.1
  refine ⟨by have := h.1; omega, by omega, fun c hc => ?_⟩
  by_cases e : (c : Int) < i
  · exact h.2.2 c e
  · have := h.1
    obtain rfl : i = (c : Int) := by omega
    omega
theorem yI_kid {ns : List Nd} {i j c : Int} {y : Nd} (h : tI ns) (hy : ns[i.toNat]? = some y) (hc : y.kids[j.toNat]? = some c) : 0 ≤ c ∧ c < ns.length := (tI_kids h hy).2 c (memE hc)
theorem yI_len {ns : List Nd} {i : Int} {y : Nd} (h : tI ns) (hy : ns[i.toNat]? = some y) : y.kids.length ≤ 12 := (tI_kids h hy).1
theorem yk_next {ns : List Nd} {i j c : Int} {y : Nd} (h0 : 0 ≤ j) (hy : ns[i.toNat]? = some y) (hc : y.kids[j.toNat]? = some c) : tk ns i (j + 1) = tk ns i j ++ [c] := tk_next h0 (by rw [ndAt_of hy]; exact hc)
theorem yk_done {ns : List Nd} {i j : Int} {y : Nd} (h0 : 0 ≤ i) (hy : ns[i.toNat]? = some y) (hl : ¬ j < y.kids.length) : tk ns i j = allKids (ns.take (i + 1).toNat) := tk_done h0 hy (by rw [ndAt_of hy]; exact hl)
def lsTree2 (x : List Nd) (o : Int) : LS := {
  ι := Int, inv := fun j => 0 ≤ j ∧ j ≤ (ndAt x o).kids.length,
  regs := fun j => [(0, nds x), (3, .int .i64 x.length), (4, oints (cnt x.length (tk x o j))), (5, .int .i64 o), (6, .int .i64 j)], als := [], meas := fun j => (ndAt x o).kids.length - j.toNat }
def lsTree (x : List Nd) : LS := {
  ι := Int, inv := fun i => 0 ≤ i ∧ i ≤ x.length,
  regs := fun i => [(0, nds x), (3, .int .i64 x.length), (4, oints (cnt x.length (allKids (x.take i.toNat)))), (5, .int .i64 i)], als := [], meas := fun i => x.length - i.toNat,
  sub := fun i => [(9, lsTree2 x i)] }
def lsTree3 (x : List Nd) : LS := {
  ι := Int, inv := tE x,
  regs := fun i => [(3, .int .i64 x.length), (4, oints (cnt x.length (allKids x))), (7, .int .i64 i)], als := [], meas := fun i => x.length - i.toNat }
def s_sTreeOk  : Sig := { X := List Nd, args := fun x => [nds x], pre := fun x => okNds x ∧ x.length ≤ 2 ^ 30, Y := Unit, post := fun x y => True, res := fun x y => .bool (treeOk x), outs := fun x y => [.top], keep := false }
theorem sTreeOk_vc (x : List Nd) : vcFun Go.Proofs.Tryd.prog (Γof [(44, 0, s_l01In), (23, 0, s_sDeepOf)]) (Eof [(39, ⟨Int,intA⟩)]) false (Lof ([(6,lsTree x), (13,lsTree3 x)])) Go.Proofs.Tryd.f37.ntmps Go.Proofs.Tryd.f37.results.toList (Go.Proofs.Tryd.f37.body.getD .skip) s_sTreeOk x = ((∀ (y : Unit), True → True ∧ True ∧ True) ∧ ∃ (x_1 : Int × Int × Int), True ∧ (↑(List.length x) : Int) = x_1.fst ∧ (1 : Int) = x_1.snd.fst ∧ (300 : Int) = x_1.snd.snd ∧ ∀ (y : Unit), True → bcase (!inn x_1.fst x_1.snd.fst x_1.snd.snd) (∃ (y : Unit), True ∧ false = treeOk x ∧ True) (inR IntKind.i64 ((↑(List.length x) : Int) - (1 : Int)) ∧ ((0 : Int) ≤ (↑(List.length x) : Int) - (1 : Int) ∧ (↑(List.length x) : Int) - (1 : Int) < (↑(List.length x) : Int)) ∧ ∀ (e : Nd), x[Int.toNat ((↑(List.length x) : Int) - (1 : Int))]? = some e → bcase (e.kind != (22 : Int)) (∃ (y : Unit), True ∧ false = treeOk x ∧ True) (inR IntKind.i64 ((↑(List.length x) : Int) - (1 : Int)) ∧ ∃ (x_2 : List Nd × Int), (okNds x_2.fst ∧ List.length x_2.fst ≤ (1073741824 : Nat)) ∧ AV.sl false (0 : Nat) (4 : Nat) Nd (ndA false) x = AV.sl false (0 : Nat) (4 : Nat) Nd (ndA false) x_2.fst ∧ (↑(List.length x) : Int) - (1 : Int) = x_2.snd ∧ ∀ (y : Unit), True → bcase (deepOf x_2.fst x_2.snd == (0 : Int)) (∃ (y : Unit), True ∧ false = treeOk x ∧ True) (((0 : Int) ≤ (↑(List.length x) : Int) ∧ (↑(List.length x) : Int) ≤ (↑(List.length x) : Int) ∧ (↑(8 : Nat) : Int) * (↑(List.length x) : Int) ≤ (2 : Int) ^ (46 : Nat) ∧ (↑(List.length x) : Int) ≤ (2 : Int) ^ (46 : Nat)) ∧ ∃ (x_3 : Int), (0 : Int) = x_3 ∧ (∃ (i : Int), ((0 : Int) ≤ i ∧ i ≤ (↑(List.length x) : Int)) ∧ (AV.sl false (0 : Nat) (4 : Nat) Nd (ndA false) x = AV.sl false (0 : Nat) (4 : Nat) Nd (ndA false) x ∧ (↑(List.length x) : Int) = (↑(List.length x) : Int) ∧ AV.sl true (0 : Nat) (1 : Nat) Int intA (List.replicate (Int.toNat (↑(List.length x) : Int)) x_3) = AV.sl true (0 : Nat) (1 : Nat) Int intA (cnt (List.length x) (allKids (List.take (Int.toNat i) x))) ∧ (0 : Int) = i ∧ True) ∧ True) ∧ ∀ (i : Int), (0 : Int) ≤ i ∧ i ≤ (↑(List.length x) : Int) → bcase (decide (i < (↑(List.length x) : Int))) ((∃ (i_1 : Int), ((0 : Int) ≤ i_1 ∧ i_1 ≤ (↑(List.length (ndAt x i).kids) : Int)) ∧ (AV.sl false (0 : Nat) (4 : Nat) Nd (ndA false) x = AV.sl false (0 : Nat) (4 : Nat) Nd (ndA false) x ∧ (↑(List.length x) : Int) = (↑(List.length x) : Int) ∧ AV.sl true (0 : Nat) (1 : Nat) Int intA (cnt (List.length x) (allKids (List.take (Int.toNat i) x))) = AV.sl true (0 : Nat) (1 : Nat) Int intA (cnt (List.length x) (tk x i i_1)) ∧ i = i ∧ (0 : Int) = i_1 ∧ True) ∧ True) ∧ ∀ (i_1 : Int), (0 : Int) ≤ i_1 ∧ i_1 ≤ (↑(List.length (ndAt x i).kids) : Int) → ((0 : Int) ≤ i ∧ i < (↑(List.length x) : Int)) ∧ ∀ (e : Nd), x[Int.toNat i]? = some e → bcase (decide (i_1 < (↑(List.length e.kids) : Int))) (((0 : Int) ≤ i ∧ i < (↑(List.length x) : Int)) ∧ ∀ (e : Nd), x[Int.toNat i]? = some e → ((0 : Int) ≤ i_1 ∧ i_1 < (↑(List.length e.kids) : Int)) ∧ ∀ (e_1 : Int), e.kids[Int.toNat i_1]? = some e_1 → ((0 : Int) ≤ e_1 ∧ e_1 < (↑(List.length (cnt (List.length x) (tk x i i_1))) : Int)) ∧ Int.toNat e_1 < List.length (cnt (List.length x) (tk x i i_1)) ∧ ∀ (x_4 : Int), (cnt (List.length x) (tk x i i_1))[Int.toNat e_1]? = some x_4 → inR IntKind.i64 (x_4 + (1 : Int)) ∧ ((0 : Int) ≤ e_1 ∧ e_1 < (↑(List.length (cnt (List.length x) (tk x i i_1))) : Int)) ∧ Int.toNat e_1 < List.length (cnt (List.length x) (tk x i i_1)) ∧ ∀ (x_5 : Int), (cnt (List.length x) (tk x i i_1))[Int.toNat e_1]? = some x_5 → ∃ (x' : Int), ((@List.nil AV) = [] ∧ (@List.nil AV) = []) ∧ x_4 + (1 : Int) = x' ∧ inR IntKind.i64 (i_1 + (1 : Int)) ∧ ∃ (i' : Int), ((0 : Int) ≤ i' ∧ i' ≤ (↑(List.length (ndAt x i).kids) : Int)) ∧ List.length (ndAt x i).kids - Int.toNat i' < List.length (ndAt x i).kids - Int.toNat i_1 ∧ (AV.sl false (0 : Nat) (4 : Nat) Nd (ndA false) x = AV.sl false (0 : Nat) (4 : Nat) Nd (ndA false) x ∧ (↑(List.length x) : Int) = (↑(List.length x) : Int) ∧ AV.sl true (0 : Nat) (1 : Nat) Int intA (List.set (cnt (List.length x) (tk x i i_1)) (Int.toNat e_1) x') = AV.sl true (0 : Nat) (1 : Nat) Int intA (cnt (List.length x) (tk x i i')) ∧ i = i ∧ i_1 + (1 : Int) = i' ∧ True) ∧ True) (inR IntKind.i64 (i + (1 : Int)) ∧ ∃ (i' : Int), ((0 : Int) ≤ i' ∧ i' ≤ (↑(List.length x) : Int)) ∧ List.length x - Int.toNat i' < List.length x - Int.toNat i ∧ (AV.sl false (0 : Nat) (4 : Nat) Nd (ndA false) x = AV.sl false (0 : Nat) (4 : Nat) Nd (ndA false) x ∧ (↑(List.length x) : Int) = (↑(List.length x) : Int) ∧ AV.sl true (0 : Nat) (1 : Nat) Int intA (cnt (List.length x) (tk x i i_1)) = AV.sl true (0 : Nat) (1 : Nat) Int intA (cnt (List.length x) (allKids (List.take (Int.toNat i') x))) ∧ i + (1 : Int) = i' ∧ True) ∧ True)) ((∃ (i_1 : Int), tE x i_1 ∧ ((↑(List.length x) : Int) = (↑(List.length x) : Int) ∧ AV.sl true (0 : Nat) (1 : Nat) Int intA (cnt (List.length x) (allKids (List.take (Int.toNat i) x))) = AV.sl true (0 : Nat) (1 : Nat) Int intA (cnt (List.length x) (allKids x)) ∧ (0 : Int) = i_1 ∧ True) ∧ True) ∧ ∀ (i : Int), tE x i → inR IntKind.i64 (i + (1 : Int)) ∧ bcase (decide (i + (1 : Int) < (↑(List.length x) : Int))) (((0 : Int) ≤ i ∧ i < (↑(List.length (cnt (List.length x) (allKids x))) : Int)) ∧ Int.toNat i < List.length (cnt (List.length x) (allKids x)) ∧ ∀ (x_4 : Int), (cnt (List.length x) (allKids x))[Int.toNat i]? = some x_4 → bcase (x_4 != (1 : Int)) (∃ (y : Unit), True ∧ false = treeOk x ∧ True) (inR IntKind.i64 (i + (1 : Int)) ∧ ∃ (i' : Int), tE x i' ∧ List.length x - Int.toNat i' < List.length x - Int.toNat i ∧ ((↑(List.length x) : Int) = (↑(List.length x) : Int) ∧ AV.sl true (0 : Nat) (1 : Nat) Int intA (cnt (List.length x) (allKids x)) = AV.sl true (0 : Nat) (1 : Nat) Int intA (cnt (List.length x) (allKids x)) ∧ i + (1 : Int) = i' ∧ True) ∧ True)) (∃ (y : Unit), True ∧ true = treeOk x ∧ True)))))) := by kernel_rfl
theorem sTreeOk_ok  : Contract G Tryd.prog 37 s_sTreeOk :=
  vcFun_ok (Γ := Γof [(44, 0, s_l01In), (23, 0, s_sDeepOf)]) (E := Eof [(39, ⟨Int,intA⟩)]) (ov := false) (L := fun x => Lof ([(6,lsTree x), (13,lsTree3 x)])) Tryd.func37 rfl (by decide) (Γof_ok (l := [(44, 0, s_l01In), (23, 0, s_sDeepOf)]) ⟨l01In_ok, sDeepOf_ok, trivial⟩) fun (x : List Nd) (hx : okNds x ∧ x.length ≤ 2 ^ 30) => (sTreeOk_vc  x).mpr (by
  obtain ⟨h1, h2⟩ := hx; have hl := h1.1
  (repeat' first | with_reducible rfl | exact True.intro | refine inR_i64 ?_ ?_ | with_reducible refine And.intro ?_ ?_ | with_reducible refine bcase_dec (fun _ => ?_) (fun _ => ?_) | with_reducible refine bcase_bne (fun _ => ?_) (fun _ => ?_) | with_reducible refine bcase_beq (fun _ => ?_) (fun _ => ?_) | with_reducible refine bcase_not (fun _ => ?_) (fun _ => ?_) | refine bcase_intro (fun _ => ?_) (fun _ => ?_) | refine sl_eq ?_ | refine ex_flip () ?_ ?_ | (apply ex_flip6 <;> try dsimp only) | (apply ex_flip5 <;> try dsimp only) | (apply ex_flip4 <;> try dsimp only) | (apply ex_flip3 <;> try dsimp only) | (apply ex_flip2 <;> try dsimp only) | apply ex_flip | (refine Prod.forall.2 ?_; intro _; try dsimp only) | (intro _; try dsimp only))
  all_goals try (have t1 := inn_iff.1 (show inn x.length 1 300 = true by assumption))
  all_goals try (have t0 := tI_of (by assumption) (by assumption) (by assumption) (by assumption))
  all_goals try (repeat (rename x[Int.toNat _]? = some _ => hq; revert hq; rename x[Int.toNat _]? = some _ => hr; intro hq; rw [hr] at hq; cases hq))
  all_goals try (repeat (rename (Nd.kids _)[Int.toNat _]? = some _ => hq; revert hq; rename (Nd.kids _)[Int.toNat _]? = some _ => hr; intro hq; rw [hr] at hq; cases hq))
  all_goals try (simp only [ndAt_of (show x[Int.toNat _]? = some _ by assumption)] at *)
  all_goals first
    | rfl
    | exact treeOk_not (tI_inn (by assumption))
    | exact treeOk_not (tI_kind (by assumption) (by assumption))
    | exact treeOk_not (fun h => h.2.2.2 (by assumption))
    | exact cnt_nil
    | (rw [tk_init]; done)
    | (have := yI_kid (by assumption) (by assumption) (show (Nd.kids _)[Int.toNat _]? = some _ by assumption); (try rw [cnt_len]); omega)
    | (rw [yk_next (by omega) (by assumption) (by assumption)]; exact cnt_inc (yI_kid (by assumption) (by assumption) (by assumption)).1 (yI_kid (by assumption) (by assumption) (by assumption)).2 (by assumption))
    | (rw [yk_done (by omega) (by assumption) (by assumption)]; done)
    | (rw [tk_full (by assumption)]; done)
    | (have := tk_v (by assumption) (by assumption) (by assumption); omega)
    | exact treeOk_yes (by assumption) (by assumption) (by omega)
    | exact treeOk_no (tE_at2 (by assumption) (‹tE _ _›.1)) (‹tE _ _›.1) (by omega) (by assumption)
    | exact tE_next2 (by assumption) (by assumption) (by assumption) (by assumption)
    | exact ⟨by omega, by omega, fun c hc => by omega⟩
    | ((try simp only [i64max, room, List.length_replicate, cnt_len] at *); omega)
    | (have := yI_len (by assumption) (by assumption); (try simp only [i64max] at *); omega)
    | (have hte := (show tE x _ by assumption); have := hte.1; have := hte.2.1; (try rw [cnt_len]); (try simp only [i64max] at *); omega)
    | skip)

end Go.My
end
section
/- What is reckoned ahead, plainly. -/
set_option linter.unusedVariables false
set_option linter.unusedSimpArgs false
namespace Go.My
open Go.Eng

def figV (s : List UInt8) : Int := s.foldl (fun n c => n * 10 + ((c.toNat : Int) - 48)) 0
def reck (t : List UInt8) (a b : Int) : Int := if t = [43] then a + b else if t = [45] then a - b else a * b
def big : Int := 1000000000
def stepV (t : List UInt8) (a b : Option Int) : Option Int := match a, b with
  | some a, some b => if inn (reck t a b) (-1000000000) 1000000000 then some (reck t a b) else none
  | _, _ => none
def chainF (t : List UInt8) : List (Option Int) → Option Int
  | [] => some 0
  | a :: l => l.foldl (stepV t) a
def opOk (t : List UInt8) : Bool := t == [43] || (t == [45] || t == [42])
def chainV (t : List UInt8) (l : List (Option Int)) : Option Int := if opOk t then chainF t l else none
def cst (ns : List Nd) : Nat → Int → Option Int
  | 0, _ => none
  | n + 1, k => if (ndAt ns k).kind = 2 then (if 9 < (ndAt ns k).text.length then none else some (figV (ndAt ns k).text))
    else if (ndAt ns k).kind = 11 then cst ns n ((ndAt ns k).kids.headD 0)
    else if (ndAt ns k).kind = 7 then chainV (ndAt ns k).text ((ndAt ns k).kids.map (cst ns n)) else none
def cV (ns : List Nd) (k : Int) : Option Int := cst ns (k.toNat + 1) k
def okUp (ns : List Nd) (k : Int) : Prop := isNd ns k = true ∧ ∀ i : Nat, (i : Int) ≤ k → nodeOk ns i = true
theorem okUp_of {ns : List Nd} {k : Int} (h : deepOf ns k ≠ 0) : okUp ns k := ⟨(deepOf_pos h).1, (deepOf_pos h).2.2⟩
theorem okUp_at {ns : List Nd} {k : Int} (h : okUp ns k) : nodeOk ns k = true := by
  have := isNd_iff.1 h.1
  have h2 := h.2 k.toNat (by omega)
  rwa [show ((k.toNat : Nat) : Int) = k by omega] at h2
theorem okUp_kid {ns : List Nd} {k c : Int} (h : okUp ns k) (hc : c ∈ (ndAt ns k).kids) : okUp ns c ∧ 0 ≤ c ∧ c < k := by
  have h1 := (nodeOk_parts (okUp_at h)).2.2.2.1 c hc
  have h2 := isNd_iff.1 h.1
  exact ⟨⟨isNd_iff.2 (by omega), fun i hi => h.2 i (by omega)⟩, h1⟩
/- what kinds want -/
theorem kinds11 {ns : List Nd} {x : Nd} (h : kindsOk x.kind (x.kids.map (kindAt ns)) = true) (hk : x.kind = 11) : ∃ c, x.kids = [c] := by
  rw [hk] at h
  simp [kindsOk] at h
  match hx : x.kids with
  | [] => rw [hx] at h; simp at h
  | [c] => exact ⟨c, rfl⟩
  | c :: d :: l => rw [hx] at h; simp at h
theorem kinds7 {ns : List Nd} {x : Nd} (h : kindsOk x.kind (x.kids.map (kindAt ns)) = true) (hk : x.kind = 7) : 2 ≤ x.kids.length := by
  rw [hk] at h
  simp [kindsOk] at h; exact h.1
theorem okUp11 {ns : List Nd} {k : Int} (h : okUp ns k) (hk : (ndAt ns k).kind = 11) : ∃ c, (ndAt ns k).kids = [c] := kinds11 (nodeOk_parts (okUp_at h)).2.2.2.2.2.1 hk
theorem okUp7 {ns : List Nd} {k : Int} (h : okUp ns k) (hk : (ndAt ns k).kind = 7) : 2 ≤ (ndAt ns k).kids.length := kinds7 (nodeOk_parts (okUp_at h)).2.2.2.2.2.1 hk
theorem sg_num_all {s : List UInt8} (h : isSgn s 2 = true) : s.all isFig = true ∧ 1 ≤ s.length ∧ s.length ≤ 12 := by
  rw [sg_num] at h
  simp only [Bool.and_eq_true, decide_eq_true_eq] at h
  exact ⟨h.1, h.2.1, h.2.2⟩
theorem okUp2 {ns : List Nd} {k : Int} (h : okUp ns k) (hk : (ndAt ns k).kind = 2) : (ndAt ns k).text.all isFig = true ∧ 1 ≤ (ndAt ns k).text.length ∧ (ndAt ns k).text.length ≤ 12 := by
  have := (nodeOk_parts (okUp_at h)).2.2.1
  rw [hk] at this
  exact sg_num_all (by simpa [textOk] using this)
theorem cst_eq {ns : List Nd} : ∀ {n m : Nat} {k : Int}, okUp ns k → k.toNat < n → k.toNat < m → cst ns n k = cst ns m k
  | 0, _, _, _, h, _ => by omega
  | _, 0, _, _, _, h => by omega
  | n + 1, m + 1, k, h, h1, h2 => by
    have hr := isNd_iff.1 h.1
    simp only [cst]
    by_cases e2 : (ndAt ns k).kind = 2
    · rw [if_pos e2, if_pos e2]
    · rw [if_neg e2, if_neg e2]
      by_cases e11 : (ndAt ns k).kind = 11
      · rw [if_pos e11, if_pos e11]
        obtain ⟨c, hc⟩ := okUp11 h e11
        obtain ⟨h3, h4⟩ := okUp_kid h (c := c) (by rw [hc]; simp)
        rw [hc]; exact cst_eq h3 (by simp; omega) (by simp; omega)
      · rw [if_neg e11, if_neg e11]
        congr 2
        apply List.map_congr_left
        intro c hc
        obtain ⟨h3, h4⟩ := okUp_kid h hc
        exact cst_eq h3 (by omega) (by omega)
theorem cV_def {ns : List Nd} {k : Int} (h : okUp ns k) : cV ns k = if (ndAt ns k).kind = 2 then (if 9 < (ndAt ns k).text.length then none else some (figV (ndAt ns k).text))
    else if (ndAt ns k).kind = 11 then cV ns ((ndAt ns k).kids.headD 0)
    else if (ndAt ns k).kind = 7 then chainV (ndAt ns k).text ((ndAt ns k).kids.map (cV ns)) else none := by
  have hr := isNd_iff.1 h.1
  rw [cV, cst]
  by_cases e2 : (ndAt ns k).kind = 2
  · rw [if_pos e2, if_pos e2]
  · rw [if_neg e2, if_neg e2]
    by_cases e11 : (ndAt ns k).kind = 11
    · rw [if_pos e11, if_pos e11]
      obtain ⟨c, hc⟩ := okUp11 h e11
      obtain ⟨h3, h4⟩ := okUp_kid h (c := c) (by rw [hc]; simp)
      rw [hc]; exact cst_eq h3 (by simp; omega) (by simp)
    · rw [if_neg e11, if_neg e11]
      congr 2
      apply List.map_congr_left
      intro c hc
      obtain ⟨h3, h4⟩ := okUp_kid h hc
      exact cst_eq h3 (by omega) (by omega)
/- bounds -/
theorem figV_snoc {s : List UInt8} {c : UInt8} : figV (s ++ [c]) = figV s * 10 + ((c.toNat : Int) - 48) := by simp [figV, List.foldl_append]
theorem figV_take {s : List UInt8} {n : Nat} {c : UInt8} (h : s[n]? = some c) : figV (s.take (n + 1)) = figV (s.take n) * 10 + ((c.toNat : Int) - 48) := by
  rw [takeE h, figV_snoc]
theorem figV_bd1 : ∀ (n : Nat) {s : List UInt8}, s.all isFig = true → s.length = n → 0 ≤ figV s ∧ figV s < 10 ^ n
  | 0, s, h, hn => by
    obtain rfl : s = [] := List.length_eq_zero_iff.1 hn
    simp [figV]
  | n + 1, s, h, hn => by
    have hne : s ≠ [] := by intro e; rw [e] at hn; simp at hn
    have e := (List.dropLast_concat_getLast hne).symm
    generalize hl : s.dropLast = l at e
    generalize s.getLast hne = c at e
    subst e
    simp only [List.all_append, Bool.and_eq_true] at h
    have ih := figV_bd1 n h.1 (by simpa using hn)
    have hc : isFig c = true := by simpa using h.2
    simp only [isFig, Bool.and_eq_true, decide_eq_true_eq] at hc
    rw [figV_snoc, Int.pow_succ]; omega
theorem figV_bd {s : List UInt8} (h : s.all isFig = true) (h9 : s.length ≤ 9) : 0 ≤ figV s ∧ figV s < 1000000000 := by
  obtain ⟨h1, h2⟩ := figV_bd1 s.length h rfl
  refine ⟨h1, ?_⟩
  have : s.length = 0 ∨ s.length = 1 ∨ s.length = 2 ∨ s.length = 3 ∨ s.length = 4 ∨ s.length = 5 ∨ s.length = 6 ∨ s.length = 7 ∨ s.length = 8 ∨ s.length = 9 := by omega
  rcases this with e | e | e | e | e | e | e | e | e | e <;> rw [e] at h2 <;> simp at h2 <;> omega
theorem mul_bd {a b : Int} (h1 : -1000000000 ≤ a) (h2 : a ≤ 1000000000) (h3 : -1000000000 ≤ b) (h4 : b ≤ 1000000000) : -1000000000000000000 ≤ a * b ∧ a * b ≤ 1000000000000000000 := by
  have k1 : (a * b).natAbs ≤ 1000000000 * 1000000000 := by
    rw [Int.natAbs_mul]
    exact Nat.mul_le_mul (by omega) (by omega)
  omega
def bdd (v : Int) : Prop := -1000000000 ≤ v ∧ v ≤ 1000000000
theorem stepV_bd {t : List UInt8} {a b : Option Int} {v : Int} (h : stepV t a b = some v) : bdd v := by
  unfold stepV at h
  split at h
  · split at h
    · rename_i hi; cases h; exact inn_iff.1 hi
    · cases h
  · cases h
theorem foldV_bd {t : List UInt8} : ∀ {l : List (Option Int)} {a : Option Int} {v : Int}, (∀ w, a = some w → bdd w) → l.foldl (stepV t) a = some v → bdd v
  | [], a, v, h, hv => h v hv
  | b :: l, a, v, h, hv => foldV_bd (l := l) (fun w hw => stepV_bd hw) hv
theorem cst_bd {ns : List Nd} : ∀ {n : Nat} {k : Int} {v : Int}, okUp ns k → k.toNat < n → cst ns n k = some v → bdd v
  | 0, _, _, _, h, _ => by omega
  | n + 1, k, v, h, h1, hv => by
    have hr := isNd_iff.1 h.1
    simp only [cst] at hv
    by_cases e2 : (ndAt ns k).kind = 2
    · rw [if_pos e2] at hv
      split at hv
      · cases hv
      · simp only [Option.some.injEq] at hv
        have := figV_bd (okUp2 h e2).1 (by omega)
        unfold bdd; omega
    · rw [if_neg e2] at hv
      by_cases e11 : (ndAt ns k).kind = 11
      · rw [if_pos e11] at hv
        obtain ⟨c, hc⟩ := okUp11 h e11
        obtain ⟨h3, h4⟩ := okUp_kid h (c := c) (by rw [hc]; simp)
        rw [hc] at hv
        exact cst_bd (k := c) h3 (by omega) hv
      · rw [if_neg e11] at hv
        by_cases e7 : (ndAt ns k).kind = 7
        · rw [if_pos e7] at hv
          unfold chainV at hv
          split at hv
          · have h2 := okUp7 h e7
            match hkk : (ndAt ns k).kids with
            | [] => rw [hkk] at h2; simp at h2
            | c :: l =>
              rw [hkk] at hv
              simp only [List.map_cons, chainF] at hv
              obtain ⟨h3, h4⟩ := okUp_kid h (c := c) (by rw [hkk]; simp)
              exact foldV_bd (fun w hw => cst_bd h3 (by omega) hw) hv
          · cases hv
        · rw [if_neg e7] at hv; cases hv
theorem cV_bd {ns : List Nd} {k v : Int} (h : okUp ns k) (hv : cV ns k = some v) : bdd v := cst_bd h (by omega) hv
def oI (o : Option Int) : Int := o.getD 0
theorem oI_bd {ns : List Nd} {k : Int} (h : okUp ns k) : bdd (oI (cV ns k)) := by
  unfold oI
  cases hv : cV ns k with
  | none => unfold bdd; simp
  | some v => exact cV_bd h hv
/- a chain, one kid more -/
theorem chainF_snoc {t : List UInt8} {l : List (Option Int)} {b : Option Int} (h : l ≠ []) : chainF t (l ++ [b]) = stepV t (chainF t l) b := by
  cases l with
  | nil => exact (h rfl).elim
  | cons a l => simp [chainF, List.foldl_append]
theorem fold_none {t : List UInt8} : ∀ {l : List (Option Int)}, l.foldl (stepV t) none = none
  | [] => rfl
  | b :: l => by simp only [List.foldl_cons]; rw [show stepV t none b = none from rfl]; exact fold_none
theorem chainF_none {t : List UInt8} {l m : List (Option Int)} (h : l ≠ []) (hn : chainF t l = none) : chainF t (l ++ m) = none := by
  cases l with
  | nil => exact (h rfl).elim
  | cons a l =>
    simp only [chainF, List.cons_append, List.foldl_append] at hn ⊢
    rw [hn]; exact fold_none
end Go.My
end
