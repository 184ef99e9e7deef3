/- Trees: the program's TreeOk. -/
import Derived.Test.YtinkjpfkemkhaaaDoorMyG
set_option linter.unusedVariables false
set_option linter.unusedSimpArgs false
namespace Go.My
open Go.Eng Go.Proofs

def cnt (n : Nat) (l : List Int) : List Int := (List.range n).map fun (c : Nat) => (l.count (c : Int) : Int)
theorem cnt_len {n : Nat} {l : List Int} : (cnt n l).length = n := by simp [cnt]
theorem cnt_at {n : Nat} {l : List Int} {c : Nat} (h : c < n) : (cnt n l)[c]? = some (l.count (c : Int) : Int) := by
  simp [cnt, List.getElem?_map, List.getElem?_range, h]
theorem cnt_nil {n : Nat} : List.replicate n 0 = cnt n [] := by
  apply List.ext_getElem?
  intro c
  by_cases h : c < n
  · rw [cnt_at h]; simp [h]
  · rw [List.getElem?_eq_none (by simp; omega), List.getElem?_eq_none (by simp [cnt]; omega)]
theorem cnt_inc {n : Nat} {l : List Int} {c v : Int} (h0 : 0 ≤ c) (h1 : c < n) (hv : (cnt n l)[c.toNat]? = some v) : (cnt n l).set c.toNat (v + 1) = cnt n (l ++ [c]) := by
  apply List.ext_getElem?
  intro d
  rw [List.getElem?_set]
  by_cases hd : d < n
  · rw [cnt_at hd, cnt_at hd, List.count_append]
    rw [cnt_at (by omega)] at hv
    by_cases e : c.toNat = d
    · subst e
      rw [if_pos rfl, if_pos (by rw [cnt_len]; omega)]
      have e2 : ((c.toNat : Nat) : Int) = c := by omega
      rw [e2] at hv ⊢
      simp at hv ⊢; omega
    · rw [if_neg e]
      have : ¬ c = (d : Int) := by omega
      simp [List.count_cons, this]
  · rw [if_neg (by omega), List.getElem?_eq_none (by rw [cnt_len]; omega), List.getElem?_eq_none (by rw [cnt_len]; omega)]
def tk (ns : List Nd) (i j : Int) : List Int := allKids (ns.take i.toNat) ++ (ndAt ns i).kids.take j.toNat
/- a tree's nodes are right -/
def tI (ns : List Nd) : Prop := 1 ≤ ns.length ∧ ns.length ≤ 300 ∧ kindAt ns (ns.length - 1) = 22 ∧ deepOf ns (ns.length - 1) ≠ 0
theorem tI_ok {ns : List Nd} {n : Nat} {y : Nd} (h : tI ns) (hy : ns[n]? = some y) : nodeOk ns n = true := by
  exact (deepOf_pos h.2.2.2).2.2 n (by have := (getE hy).1; omega)
theorem tI_kids {ns : List Nd} {n : Nat} {y : Nd} (h : tI ns) (hy : ns[n]? = some y) : y.kids.length ≤ 12 ∧ ∀ c ∈ y.kids, 0 ≤ c ∧ c < ns.length := by
  obtain ⟨h1, h2, h3, h4, h5⟩ := nodeOk_parts (tI_ok h hy)
  rw [ndAt_of (by simpa using hy)] at h2 h4
  exact ⟨h2, fun c hc => by have := h4 c hc; omega⟩
theorem allKids_len {l : List Nd} (h : ∀ y ∈ l, y.kids.length ≤ 12) : (allKids l).length ≤ 12 * l.length := by
  induction l with
  | nil => simp [allKids]
  | cons y l ih =>
    have h1 := h y (by simp)
    have h2 := ih fun z hz => h z (by simp [hz])
    simp only [allKids, List.flatMap_cons, List.length_append, List.length_cons] at h2 ⊢; omega
theorem tk_len {ns : List Nd} {i j : Int} (h : tI ns) : (allKids (ns.take i.toNat)).length ≤ 3600 := by
  have h1 : ∀ y ∈ ns.take i.toNat, y.kids.length ≤ 12 := by
    intro y hy
    obtain ⟨n, hn⟩ := List.mem_iff_getElem?.1 (List.mem_of_mem_take hy)
    exact (tI_kids h hn).1
  have := allKids_len h1
  have h2 : (ns.take i.toNat).length ≤ 300 := by have := h.2.1; simp; omega
  omega
theorem cnt_le {n : Nat} {l : List Int} {c : Nat} {v : Int} (hv : (cnt n l)[c]? = some v) : 0 ≤ v ∧ v ≤ l.length := by
  have h : c < n := by have := (getE hv).1; rwa [cnt_len] at this
  rw [cnt_at h] at hv; cases hv
  have := List.count_le_length (a := (c : Int)) (l := l)
  omega
theorem tk_init {ns : List Nd} {i : Int} : tk ns i 0 = allKids (ns.take i.toNat) := by simp [tk]
theorem tk_next {ns : List Nd} {i j c : Int} (h0 : 0 ≤ j) (hc : (ndAt ns i).kids[j.toNat]? = some c) : tk ns i (j + 1) = tk ns i j ++ [c] := by
  rw [tk, toNat1 h0, takeE hc, tk, List.append_assoc]
theorem tk_done {ns : List Nd} {i j : Int} {y : Nd} (h0 : 0 ≤ i) (hy : ns[i.toNat]? = some y) (hl : ¬ j < (ndAt ns i).kids.length) : tk ns i j = allKids (ns.take (i + 1).toNat) := by
  rw [tk, List.take_of_length_le (l := (ndAt ns i).kids) (by omega), toNat1 h0, takeE hy, ndAt_of hy]; simp [allKids]
def tE (ns : List Nd) (i : Int) : Prop := 0 ≤ i ∧ i ≤ ns.length - 1 ∧ ∀ c : Nat, (c : Int) < i → (allKids ns).count (c : Int) = 1
theorem tE_at {ns : List Nd} {i v : Int} (hv : (((cnt ns.length (allKids ns)).take (ns.length - 1 : Int).toNat)[i.toNat]?) = some v) (h0 : 0 ≤ i) (hl : i < (ns.length - 1 : Int)) : ((allKids ns).count i : Int) = v := by
  rw [List.getElem?_take_of_lt (by omega), cnt_at (by omega)] at hv
  have e2 : ((i.toNat : Nat) : Int) = i := by omega
  rw [e2] at hv; exact Option.some.inj hv
theorem treeOk_yes {ns : List Nd} {i : Int} (h : tI ns) (he : tE ns i) (hl : ¬ i < (ns.length - 1 : Int)) : true = treeOk ns := by
  symm; unfold treeOk
  have h1 : decide (1 ≤ ns.length) = true := decide_eq_true h.1
  have h2 : decide (ns.length ≤ 300) = true := decide_eq_true h.2.1
  have h3 : decide (kindAt ns (ns.length - 1) = 22) = true := decide_eq_true h.2.2.1
  have h4 : decide (deepOf ns (ns.length - 1) = 0) = false := decide_eq_false h.2.2.2
  rw [h1, h2, h3, h4]
  simp only [Bool.and_true, Bool.not_false, Bool.true_and, List.all_eq_true, decide_eq_true_eq, List.mem_range]
  exact fun c hc => he.2.2 c (by omega)
theorem treeOk_no {ns : List Nd} {i v : Int} (hv : (allKids ns).count i = v) (h0 : 0 ≤ i) (hl : i < (ns.length - 1 : Int)) (hne : v ≠ 1) : false = treeOk ns := by
  symm; rw [Bool.eq_false_iff]; intro h
  unfold treeOk at h
  simp only [Bool.and_eq_true, List.all_eq_true, decide_eq_true_eq, List.mem_range] at h
  have := h.2.2.2 i.toNat (by omega)
  have e2 : ((i.toNat : Nat) : Int) = i := by omega
  rw [e2] at this; omega
theorem treeOk_not {ns : List Nd} (h : ¬ tI ns) : false = treeOk ns := by
  symm; rw [Bool.eq_false_iff]; intro hh
  unfold treeOk at hh
  simp only [Bool.and_eq_true, decide_eq_true_eq, Bool.not_eq_true', decide_eq_false_iff_not] at hh
  exact h ⟨hh.1.1, hh.1.2, hh.2.1, hh.2.2.1⟩
theorem tI_kid {ns : List Nd} {i j c : Int} {y : Nd} (h : tI ns) (hc : (ndAt ns i).kids[j.toNat]? = some c) (hy : ns[i.toNat]? = some y) : 0 ≤ c ∧ c < ns.length := by
  rw [ndAt_of hy] at hc; exact (tI_kids h hy).2 c (memE hc)
theorem tI_len {ns : List Nd} {i : Int} {y : Nd} (h : tI ns) (hy : ns[i.toNat]? = some y) : (ndAt ns i).kids.length ≤ 12 := by
  rw [ndAt_of hy]; exact (tI_kids h hy).1
theorem tk_len2 {ns : List Nd} {i j : Int} {y : Nd} (h : tI ns) (hy : ns[i.toNat]? = some y) : (tk ns i j).length ≤ 3612 := by
  have h1 := @tk_len ns i j h; have h2 := tI_len h hy
  rw [tk, List.length_append, List.length_take]; omega
theorem tk_v {ns : List Nd} {i j v : Int} {c : Nat} {y : Nd} (h : tI ns) (hv : (cnt ns.length (tk ns i j))[c]? = some v) (hy : ns[i.toNat]? = some y) : 0 ≤ v ∧ v ≤ 3612 := by
  have h1 := cnt_le hv; have h2 := @tk_len2 ns i j y h hy; omega
theorem inn_iff {x a b : Int} : inn x a b = true ↔ a ≤ x ∧ x ≤ b := by simp [inn]
theorem tI_of {ns : List Nd} {y : Nd} (h : inn ns.length 1 300 = true) (hy : ns[(ns.length - 1 : Int).toNat]? = some y) (hk : y.kind = 22) (hd : deepOf ns (ns.length - 1) ≠ 0) : tI ns := by
  have := inn_iff.1 h
  exact ⟨by omega, by omega, by rw [kindAt, ndAt_of hy, hk], hd⟩
theorem tI_inn {ns : List Nd} (h : inn ns.length 1 300 = false) : ¬ tI ns := by
  intro hh; have : inn ns.length 1 300 = true := inn_iff.2 ⟨by have := hh.1; omega, by have := hh.2.1; omega⟩
  rw [h] at this; cases this
theorem tI_kind {ns : List Nd} {y : Nd} (hy : ns[(ns.length - 1 : Int).toNat]? = some y) (hk : y.kind ≠ 22) : ¬ tI ns := by
  intro hh; have := hh.2.2.1; rw [kindAt, ndAt_of hy] at this; exact hk this
theorem tk_full {ns : List Nd} {i : Int} (hl : ¬ i < ns.length) : allKids (ns.take i.toNat) = allKids ns := by rw [List.take_of_length_le (by omega)]
theorem tE_next {ns : List Nd} {i v : Int} (h : tE ns i) (hl : i < (ns.length - 1 : Int)) (hv : (((cnt ns.length (allKids ns)).take (ns.length - 1 : Int).toNat)[i.toNat]?) = some v) (h1 : v = 1) : tE ns (i + 1) := by
  have := tE_at hv h.1 hl
  refine ⟨by have := h.1; omega, by omega, fun c hc => ?_⟩
  by_cases e : (c : Int) < i
  · exact h.2.2 c e
  · have := h.1
    obtain rfl : i = (c : Int) := by omega
    omega
def lTree2 (x : List Nd) (o : Int) : LS := {
  ι := Int, inv := fun j => 0 ≤ j ∧ j ≤ (ndAt x o).kids.length,
  regs := fun j => [(0, nds x), (3, .int .i64 x.length), (4, oints (cnt x.length (tk x o j))), (34, nds x), (35, .int .i64 x.length), (36, .int .i64 o), (41, ints (ndAt x o).kids), (42, .int .i64 (ndAt x o).kids.length), (43, .int .i64 j)], als := [], meas := fun j => (ndAt x o).kids.length - j.toNat }
def lTree (x : List Nd) : LS := {
  ι := Int, inv := fun i => 0 ≤ i ∧ i ≤ x.length,
  regs := fun i => [(0, nds x), (3, .int .i64 x.length), (4, oints (cnt x.length (allKids (x.take i.toNat)))), (34, nds x), (35, .int .i64 x.length), (36, .int .i64 i)], als := [], meas := fun i => x.length - i.toNat,
  sub := fun i => [(9, lTree2 x i)] }
def lTree3 (x : List Nd) : LS := {
  ι := Int, inv := tE x,
  regs := fun i => [(58, oints ((cnt x.length (allKids x)).take (x.length - 1 : Int).toNat)), (59, .int .i64 (x.length - 1)), (60, .int .i64 i)], als := [], meas := fun i => x.length - 1 - i.toNat }
def s_iTreeOk  : Sig := { X := List Nd, args := fun x => [nds x], pre := fun x => okNds x ∧ x.length ≤ 2 ^ 30, Y := Unit, post := fun x y => True, res := fun x y => .bool (treeOk x), outs := fun x y => [.top], keep := false }
theorem iTreeOk_vc (x : List Nd) : vcFun Go.Proofs.Tryd.prog (Γof [(54, 0, s_inRange), (50, 0, s_iDeepOf)]) (Eof [(39, ⟨Int,intA⟩)]) false (Lof ([(6,lTree x), (15,lTree3 x)])) Go.Proofs.Tryd.f38.ntmps Go.Proofs.Tryd.f38.results.toList (Go.Proofs.Tryd.f38.body.getD .skip) s_iTreeOk x = ((∀ (y : Unit), True → True ∧ True ∧ True) ∧ ∃ (x_1 : Int × Int × Int), True ∧ (↑(List.length x) : Int) = x_1.fst ∧ (1 : Int) = x_1.snd.fst ∧ (300 : Int) = x_1.snd.snd ∧ ∀ (y : Unit), True → bcase (!inn x_1.fst x_1.snd.fst x_1.snd.snd) (∃ (y : Unit), True ∧ false = treeOk x ∧ True) (inR IntKind.i64 ((↑(List.length x) : Int) - (1 : Int)) ∧ ((0 : Int) ≤ (↑(List.length x) : Int) - (1 : Int) ∧ (↑(List.length x) : Int) - (1 : Int) < (↑(List.length x) : Int)) ∧ ∀ (e : Nd), x[Int.toNat ((↑(List.length x) : Int) - (1 : Int))]? = some e → bcase (e.kind != (22 : Int)) (∃ (y : Unit), True ∧ false = treeOk x ∧ True) (inR IntKind.i64 ((↑(List.length x) : Int) - (1 : Int)) ∧ ∃ (x_2 : List Nd × Int), (okNds x_2.fst ∧ List.length x_2.fst ≤ (1073741824 : Nat)) ∧ AV.sl false (0 : Nat) (4 : Nat) Nd (ndA false) x = AV.sl false (0 : Nat) (4 : Nat) Nd (ndA false) x_2.fst ∧ (↑(List.length x) : Int) - (1 : Int) = x_2.snd ∧ ∀ (y : Unit), True → bcase (deepOf x_2.fst x_2.snd == (0 : Int)) (∃ (y : Unit), True ∧ false = treeOk x ∧ True) (((0 : Int) ≤ (↑(List.length x) : Int) ∧ (↑(List.length x) : Int) ≤ (↑(List.length x) : Int) ∧ (↑(8 : Nat) : Int) * (↑(List.length x) : Int) ≤ (2 : Int) ^ (46 : Nat) ∧ (↑(List.length x) : Int) ≤ (2 : Int) ^ (46 : Nat)) ∧ ∃ (x_3 : Int), (0 : Int) = x_3 ∧ (∃ (i : Int), ((0 : Int) ≤ i ∧ i ≤ (↑(List.length x) : Int)) ∧ (AV.sl false (0 : Nat) (4 : Nat) Nd (ndA false) x = AV.sl false (0 : Nat) (4 : Nat) Nd (ndA false) x ∧ (↑(List.length x) : Int) = (↑(List.length x) : Int) ∧ AV.sl true (0 : Nat) (1 : Nat) Int intA (List.replicate (Int.toNat (↑(List.length x) : Int)) x_3) = AV.sl true (0 : Nat) (1 : Nat) Int intA (cnt (List.length x) (allKids (List.take (Int.toNat i) x))) ∧ AV.sl false (0 : Nat) (4 : Nat) Nd (ndA false) x = AV.sl false (0 : Nat) (4 : Nat) Nd (ndA false) x ∧ (↑(List.length x) : Int) = (↑(List.length x) : Int) ∧ (0 : Int) = i ∧ True) ∧ True) ∧ ∀ (i : Int), (0 : Int) ≤ i ∧ i ≤ (↑(List.length x) : Int) → bcase (decide (i < (↑(List.length x) : Int))) (((0 : Int) ≤ i ∧ i < (↑(List.length x) : Int)) ∧ ∀ (e : Nd), x[Int.toNat i]? = some e → (∃ (i_1 : Int), ((0 : Int) ≤ i_1 ∧ i_1 ≤ (↑(List.length (ndAt x i).kids) : Int)) ∧ (AV.sl false (0 : Nat) (4 : Nat) Nd (ndA false) x = AV.sl false (0 : Nat) (4 : Nat) Nd (ndA false) x ∧ (↑(List.length x) : Int) = (↑(List.length x) : Int) ∧ AV.sl true (0 : Nat) (1 : Nat) Int intA (cnt (List.length x) (allKids (List.take (Int.toNat i) x))) = AV.sl true (0 : Nat) (1 : Nat) Int intA (cnt (List.length x) (tk x i i_1)) ∧ AV.sl false (0 : Nat) (4 : Nat) Nd (ndA false) x = AV.sl false (0 : Nat) (4 : Nat) Nd (ndA false) x ∧ (↑(List.length x) : Int) = (↑(List.length x) : Int) ∧ i = i ∧ AV.sl false (0 : Nat) (1 : Nat) Int intA e.kids = AV.sl false (0 : Nat) (1 : Nat) Int intA (ndAt x i).kids ∧ (↑(List.length e.kids) : Int) = (↑(List.length (ndAt x i).kids) : Int) ∧ (0 : Int) = i_1 ∧ True) ∧ True) ∧ ∀ (i_1 : Int), (0 : Int) ≤ i_1 ∧ i_1 ≤ (↑(List.length (ndAt x i).kids) : Int) → bcase (decide (i_1 < (↑(List.length (ndAt x i).kids) : Int))) (((0 : Int) ≤ i_1 ∧ i_1 < (↑(List.length (ndAt x i).kids) : Int)) ∧ ∀ (e : Int), (ndAt x i).kids[Int.toNat i_1]? = some e → ((0 : Int) ≤ e ∧ e < (↑(List.length (cnt (List.length x) (tk x i i_1))) : Int)) ∧ Int.toNat e < List.length (cnt (List.length x) (tk x i i_1)) ∧ ∀ (x_4 : Int), (cnt (List.length x) (tk x i i_1))[Int.toNat e]? = some x_4 → inR IntKind.i64 (x_4 + (1 : Int)) ∧ ((0 : Int) ≤ e ∧ e < (↑(List.length (cnt (List.length x) (tk x i i_1))) : Int)) ∧ Int.toNat e < List.length (cnt (List.length x) (tk x i i_1)) ∧ ∀ (x_5 : Int), (cnt (List.length x) (tk x i i_1))[Int.toNat e]? = some x_5 → ∃ (x' : Int), ((@List.nil AV) = [] ∧ (@List.nil AV) = []) ∧ x_4 + (1 : Int) = x' ∧ inR IntKind.i64 (i_1 + (1 : Int)) ∧ ∃ (i' : Int), ((0 : Int) ≤ i' ∧ i' ≤ (↑(List.length (ndAt x i).kids) : Int)) ∧ List.length (ndAt x i).kids - Int.toNat i' < List.length (ndAt x i).kids - Int.toNat i_1 ∧ (AV.sl false (0 : Nat) (4 : Nat) Nd (ndA false) x = AV.sl false (0 : Nat) (4 : Nat) Nd (ndA false) x ∧ (↑(List.length x) : Int) = (↑(List.length x) : Int) ∧ AV.sl true (0 : Nat) (1 : Nat) Int intA (List.set (cnt (List.length x) (tk x i i_1)) (Int.toNat e) x') = AV.sl true (0 : Nat) (1 : Nat) Int intA (cnt (List.length x) (tk x i i')) ∧ AV.sl false (0 : Nat) (4 : Nat) Nd (ndA false) x = AV.sl false (0 : Nat) (4 : Nat) Nd (ndA false) x ∧ (↑(List.length x) : Int) = (↑(List.length x) : Int) ∧ i = i ∧ AV.sl false (0 : Nat) (1 : Nat) Int intA (ndAt x i).kids = AV.sl false (0 : Nat) (1 : Nat) Int intA (ndAt x i).kids ∧ (↑(List.length (ndAt x i).kids) : Int) = (↑(List.length (ndAt x i).kids) : Int) ∧ i_1 + (1 : Int) = i' ∧ True) ∧ True) (inR IntKind.i64 (i + (1 : Int)) ∧ ∃ (i' : Int), ((0 : Int) ≤ i' ∧ i' ≤ (↑(List.length x) : Int)) ∧ List.length x - Int.toNat i' < List.length x - Int.toNat i ∧ (AV.sl false (0 : Nat) (4 : Nat) Nd (ndA false) x = AV.sl false (0 : Nat) (4 : Nat) Nd (ndA false) x ∧ (↑(List.length x) : Int) = (↑(List.length x) : Int) ∧ AV.sl true (0 : Nat) (1 : Nat) Int intA (cnt (List.length x) (tk x i i_1)) = AV.sl true (0 : Nat) (1 : Nat) Int intA (cnt (List.length x) (allKids (List.take (Int.toNat i') x))) ∧ AV.sl false (0 : Nat) (4 : Nat) Nd (ndA false) x = AV.sl false (0 : Nat) (4 : Nat) Nd (ndA false) x ∧ (↑(List.length x) : Int) = (↑(List.length x) : Int) ∧ i + (1 : Int) = i' ∧ True) ∧ True)) (inR IntKind.i64 ((↑(List.length x) : Int) - (1 : Int)) ∧ ((0 : Int) ≤ (0 : Int) ∧ (0 : Int) ≤ (↑(List.length x) : Int) - (1 : Int) ∧ (↑(List.length x) : Int) - (1 : Int) ≤ (↑(List.length (cnt (List.length x) (allKids (List.take (Int.toNat i) x)))) : Int)) ∧ (∃ (i_1 : Int), tE x i_1 ∧ (AV.sl true (0 : Nat) (1 : Nat) Int intA (List.take (Int.toNat ((↑(List.length x) : Int) - (1 : Int))) (cnt (List.length x) (allKids (List.take (Int.toNat i) x)))) = AV.sl true (0 : Nat) (1 : Nat) Int intA (List.take (Int.toNat ((↑(List.length x) : Int) - (1 : Int))) (cnt (List.length x) (allKids x))) ∧ (↑(List.length (List.take (Int.toNat ((↑(List.length x) : Int) - (1 : Int))) (cnt (List.length x) (allKids (List.take (Int.toNat i) x))))) : Int) = (↑(List.length x) : Int) - (1 : Int) ∧ (0 : Int) = i_1 ∧ True) ∧ True) ∧ ∀ (i : Int), tE x i → bcase (decide (i < (↑(List.length x) : Int) - (1 : Int))) (((0 : Int) ≤ i ∧ i < (↑(List.length (List.take (Int.toNat ((↑(List.length x) : Int) - (1 : Int))) (cnt (List.length x) (allKids x)))) : Int)) ∧ Int.toNat i < List.length (List.take (Int.toNat ((↑(List.length x) : Int) - (1 : Int))) (cnt (List.length x) (allKids x))) ∧ ∀ (x_4 : Int), (List.take (Int.toNat ((↑(List.length x) : Int) - (1 : Int))) (cnt (List.length x) (allKids x)))[Int.toNat i]? = some x_4 → bcase (x_4 != (1 : Int)) (∃ (y : Unit), True ∧ false = treeOk x ∧ True) (inR IntKind.i64 (i + (1 : Int)) ∧ ∃ (i' : Int), tE x i' ∧ List.length x - (1 : Nat) - Int.toNat i' < List.length x - (1 : Nat) - Int.toNat i ∧ (AV.sl true (0 : Nat) (1 : Nat) Int intA (List.take (Int.toNat ((↑(List.length x) : Int) - (1 : Int))) (cnt (List.length x) (allKids x))) = AV.sl true (0 : Nat) (1 : Nat) Int intA (List.take (Int.toNat ((↑(List.length x) : Int) - (1 : Int))) (cnt (List.length x) (allKids x))) ∧ (↑(List.length x) : Int) - (1 : Int) = (↑(List.length x) : Int) - (1 : Int) ∧ i + (1 : Int) = i' ∧ True) ∧ True)) (∃ (y : Unit), True ∧ true = treeOk x ∧ True)))))) := by kernel_rfl
theorem iTreeOk_ok  : Contract Tryd.prog 38 s_iTreeOk :=
  vcFun_ok (Γ := Γof [(54, 0, s_inRange), (50, 0, s_iDeepOf)]) (E := Eof [(39, ⟨Int,intA⟩)]) (ov := false) (L := fun x => Lof ([(6,lTree x), (15,lTree3 x)])) Tryd.func38 rfl (by decide) (Γof_ok (l := [(54, 0, s_inRange), (50, 0, s_iDeepOf)]) ⟨inRange_ok, iDeepOf_ok, trivial⟩) fun (x : List Nd) (hx : okNds x ∧ x.length ≤ 2 ^ 30) => (iTreeOk_vc  x).mpr (by
  obtain ⟨h1, h2⟩ := hx; have hl := h1.1
  (repeat' first | with_reducible rfl | exact True.intro | refine inR_i64 ?_ ?_ | with_reducible refine And.intro ?_ ?_ | with_reducible refine bcase_dec (fun _ => ?_) (fun _ => ?_) | with_reducible refine bcase_bne (fun _ => ?_) (fun _ => ?_) | with_reducible refine bcase_beq (fun _ => ?_) (fun _ => ?_) | with_reducible refine bcase_not (fun _ => ?_) (fun _ => ?_) | refine bcase_intro (fun _ => ?_) (fun _ => ?_) | refine sl_eq ?_ | refine ex_flip () ?_ ?_ | (apply ex_flip6 <;> try dsimp only) | (apply ex_flip5 <;> try dsimp only) | (apply ex_flip4 <;> try dsimp only) | (apply ex_flip3 <;> try dsimp only) | (apply ex_flip2 <;> try dsimp only) | apply ex_flip | (refine Prod.forall.2 ?_; intro _; try dsimp only) | (intro _; try dsimp only))
  all_goals try (have t1 := inn_iff.1 (show inn x.length 1 300 = true by assumption))
  all_goals try (have t0 := tI_of (by assumption) (by assumption) (by assumption) (by assumption))
  all_goals first
    | rfl
    | exact treeOk_not (tI_inn (by assumption))
    | exact treeOk_not (tI_kind (by assumption) (by assumption))
    | exact treeOk_not (fun h => h.2.2.2 (by assumption))
    | exact cnt_nil
    | (rw [tk_init]; done)
    | (rw [ndAt_of (by assumption)]; done)
    | exact (tI_kid (by assumption) (by assumption) (by assumption)).1
    | (rw [cnt_len]; exact (tI_kid (by assumption) (by assumption) (by assumption)).2)
    | (have := tI_kid (by assumption) (show (ndAt x _).kids[_]? = some _ by assumption) (by assumption); rw [cnt_len]; omega)
    | (rw [tk_next (by omega) (by assumption)]; exact cnt_inc (tI_kid (by assumption) (by assumption) (by assumption)).1 (tI_kid (by assumption) (by assumption) (by assumption)).2 (by assumption))
    | (rw [tk_done (by omega) (by assumption) (by assumption)]; done)
    | (rw [tk_full (by assumption)]; done)
    | (have := tk_v (by assumption) (by assumption) (by assumption); omega)
    | (have := tI_len (by assumption) (by assumption); (try simp only [i64max] at *); omega)
    | exact treeOk_yes (by assumption) (by assumption) (by assumption)
    | exact treeOk_no (tE_at (by assumption) (‹tE _ _›.1) (by assumption)) (‹tE _ _›.1) (by assumption) (by assumption)
    | exact tE_next (by assumption) (by assumption) (by assumption) (by assumption)
    | exact ⟨by omega, by omega, fun c hc => by omega⟩
    | (rw [List.length_take, cnt_len]; omega)
    | ((try simp only [i64max, room, List.length_replicate, cnt_len] at *); omega)
    | (obtain ⟨_, _, _⟩ := ‹tE _ _›; (try rw [List.length_take, cnt_len]); (try simp only [i64max] at *); omega)
    | skip)

end Go.My
