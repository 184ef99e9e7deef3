/- Nodes: the reference's NodeOk, depths, TreeOk. -/
import Derived.Test.YtinkjpfkemkhaaaDoorMyI
set_option linter.unusedVariables false
set_option linter.unusedSimpArgs false
namespace Go.My
open Go.Eng Go.Proofs

def koI (ns : List Nd) (x : Nd) (i : Int) : Prop := 0 ≤ i ∧ i ≤ x.kids.length ∧ ∀ (j : Nat) c, (j : Int) < i → x.kids[j]? = some c → kidOkS ns x j c = true
theorem koI_init {ns : List Nd} {x : Nd} : koI ns x 0 := ⟨by omega, by omega, fun j c h => by omega⟩
theorem koI_next {ns : List Nd} {x : Nd} {i c : Int} (h : koI ns x i) (hc : x.kids[i.toNat]? = some c) (hk : kidOkS ns x i c = true) : koI ns x (i + 1) := by
  obtain ⟨h1, h2, h3⟩ := h
  have := (getE hc).1
  refine ⟨by omega, by omega, fun j d hj hd => ?_⟩
  by_cases e : (j : Int) < i
  · exact h3 j d e hd
  · obtain rfl : j = i.toNat := by omega
    rw [hc] at hd; cases hd
    rwa [show ((i.toNat : Nat) : Int) = i by omega]
theorem koI_done {ns : List Nd} {x : Nd} {i : Int} (h : koI ns x i) (hl : ¬ i < x.kids.length) : allAt (kidOkS ns x) x.kids 0 = true := by
  rw [allAt_iff]; intro j c hc
  exact h.2.2 j c (by have := (getE hc).1; omega) hc
theorem ko_not {ns : List Nd} {x : Nd} {i c : Int} (h0 : 0 ≤ i) (hc : x.kids[i.toNat]? = some c) (hk : kidOkS ns x i c = false) : allAt (kidOkS ns x) x.kids 0 = false := by
  rw [Bool.eq_false_iff]; intro h
  rw [allAt_iff] at h
  have := h _ _ hc
  rw [show ((i.toNat : Nat) : Int) = i by omega, hk] at this; cases this
theorem ko1 {ns : List Nd} {x y : Nd} {i c : Int} (hy : ns[c.toNat]? = some y) (h : y.kind = 5) (h0 : (y.kids.length : Int) = 0) : kidOkS ns x i c = false := by
  have h0 := List.length_eq_zero_iff.1 (show y.kids.length = 0 by omega)
  simp [kidOkS, kindAt, ndAt_of hy, h, h0]
theorem isNd_inn {ns : List Nd} {d : Int} : inn d 0 (ns.length - 1) = isNd ns d := by
  rw [Bool.eq_iff_iff]; simp only [inn, isNd, Bool.and_eq_true, decide_eq_true_eq]; omega
theorem ko2 {ns : List Nd} {x y : Nd} {i c d : Int} (hy : ns[c.toNat]? = some y) (h : y.kind = 5) (h0 : y.kids[0]? = some d) (hd : inn d 0 (ns.length - 1) = false) : kidOkS ns x i c = false := by
  rw [isNd_inn] at hd
  match hk : y.kids with
  | [] => rw [hk] at h0; cases h0
  | e :: t => rw [hk] at h0; cases h0; simp [kidOkS, kindAt, ndAt_of hy, h, hk, hd]
theorem ko3 {ns : List Nd} {x y : Nd} {i c d : Int} (hy : ns[c.toNat]? = some y) (h : y.kind = 5) (h0 : y.kids[0]? = some d) (hd : inn d 0 (ns.length - 1) = true) : kidOkS ns x i c = fitK ns x i c := by
  rw [isNd_inn] at hd
  match hk : y.kids with
  | [] => rw [hk] at h0; cases h0
  | e :: t => rw [hk] at h0; cases h0; simp [kidOkS, kindAt, ndAt_of hy, h, hk, hd]
theorem ko4 {ns : List Nd} {x y : Nd} {i c : Int} (hy : ns[c.toNat]? = some y) (h : y.kind ≠ 5) : kidOkS ns x i c = fitK ns x i c := by
  simp [kidOkS, kindAt, ndAt_of hy, h]
theorem ko_fit {ns : List Nd} {x : Nd} {k i c : Int} {b : Bool} (hx : ns[k.toNat]? = some x) (hc : x.kids[i.toNat]? = some c) (hb : fitR (ns, k, i) = b) : fitK ns x i c = b := by
  rw [← hb, fitR, ndAt_of hx, List.getD, hc, Option.getD_some]
theorem fitsP_of1 {ns : List Nd} {x y : Nd} {k i c d : Int} (h1 : okNds ns) (hn : isNd ns k = true) (hx : ns[k.toNat]? = some x) (hin : kidsIn x.kids k = true) (hi : koI ns x i) (hc : x.kids[i.toNat]? = some c) (hy : ns[c.toNat]? = some y) (h0 : y.kids[0]? = some d) (hd : inn d 0 (ns.length - 1) = true) : fitsP (ns, k, i) := by
  have hk := isNd_iff.1 hn
  have := (getE hc).1
  unfold fitsP; simp only [ndAt_of hx]
  refine ⟨h1, hn, fun h10 c' hc' h5 => ?_, ⟨hi.1, by omega⟩, fun c' hc' => ?_⟩
  · rw [hc] at hc'; cases hc'
    rw [ndAt_of hy]
    match hkk : y.kids with
    | [] => rw [hkk] at h0; cases h0
    | e :: t => rw [hkk] at h0; cases h0; exact ⟨_, _, rfl, by rw [← isNd_inn]; exact hd⟩
  · simp only [kidsIn, List.all_eq_true, Bool.and_eq_true, decide_eq_true_eq] at hin
    have := hin c' (memE hc'); omega
theorem fitsP_of2 {ns : List Nd} {x y : Nd} {k i c : Int} (h1 : okNds ns) (hn : isNd ns k = true) (hx : ns[k.toNat]? = some x) (hin : kidsIn x.kids k = true) (hi : koI ns x i) (hc : x.kids[i.toNat]? = some c) (hy : ns[c.toNat]? = some y) (h5 : y.kind ≠ 5) : fitsP (ns, k, i) := by
  have hk := isNd_iff.1 hn
  have := (getE hc).1
  unfold fitsP; simp only [ndAt_of hx]
  refine ⟨h1, hn, fun h10 c' hc' h5' => ?_, ⟨hi.1, by omega⟩, fun c' hc' => ?_⟩
  · rw [hc] at hc'; cases hc'
    rw [kindAt, ndAt_of hy] at h5'; exact (h5 h5').elim
  · simp only [kidsIn, List.all_eq_true, Bool.and_eq_true, decide_eq_true_eq] at hin
    have := hin c' (memE hc'); omega

theorem mayBlank_eq {k : Int} : mayBlank k = (isSt k || (decide (k = 20) || decide (k = 21))) := by
  rw [Bool.eq_iff_iff]
  simp only [mayBlank, isSt, isMem, isStep, inn, Bool.or_eq_true, Bool.and_eq_true, decide_eq_true_eq]; omega
theorem sn_nd {ns : List Nd} {k : Int} (h : inn k 0 (ns.length - 1) = false) : false = nodeOk ns k := by rw [isNd_inn] at h; exact no_nd h
theorem sn_of {ns : List Nd} {k : Int} {x : Nd} (hx : ns[k.toNat]? = some x) (h : inn k 0 (ns.length - 1) = true) : nodeOk ns k = (inn x.kind 1 22 && (inn x.kids.length (lohi x.kind).1 (lohi x.kind).2 && (textOk x.kind x.text && ((mayBlank x.kind || !x.blank) && ((kidsIn x.kids k && decide x.kids.Nodup) && allAt (kidOkS ns x) x.kids 0))))) := by
  rw [isNd_inn] at h; rw [no_of hx h, node_bridge]
theorem sn_in {ns : List Nd} {k : Int} {x : Nd} (hx : ns[k.toNat]? = some x) (h : inn k 0 (ns.length - 1) = true) (h1 : kidsIn x.kids k = false) : false = nodeOk ns k := by
  rw [sn_of hx h, h1]; simp
theorem sn_dup {ns : List Nd} {k : Int} {x : Nd} (hx : ns[k.toNat]? = some x) (h : inn k 0 (ns.length - 1) = true) (h1 : ¬ x.kids.Nodup) : false = nodeOk ns k := by
  rw [sn_of hx h, decide_eq_false h1]; simp
theorem sn_kid {ns : List Nd} {k : Int} {x : Nd} (hx : ns[k.toNat]? = some x) (h : inn k 0 (ns.length - 1) = true) (h1 : allAt (kidOkS ns x) x.kids 0 = false) : false = nodeOk ns k := by
  rw [sn_of hx h, h1]; simp
theorem sn_yes {ns : List Nd} {k : Int} {x : Nd} (hx : ns[k.toNat]? = some x) (h : inn k 0 (ns.length - 1) = true) (h1 : inn x.kind 1 22 = true) (h2 : inn x.kids.length (lohi x.kind).1 (lohi x.kind).2 = true) (h3 : textOk x.kind x.text = true) (h4 : (mayBlank x.kind || !x.blank) = true)
    (h5 : kidsIn x.kids k = true ∧ x.kids.Nodup) (h6 : allAt (kidOkS ns x) x.kids 0 = true) : true = nodeOk ns k := by
  rw [sn_of hx h, h1, h2, h3, h4, h5.1, h6, decide_eq_true h5.2]; rfl
theorem in_not {k c : Int} {l : List Int} {n : Nat} (hc : l[n]? = some c) (h : inn c 0 (k - 1) = false) : kidsIn l k = false := by
  rw [Bool.eq_false_iff]; intro hh; simp only [kidsIn, List.all_eq_true, Bool.and_eq_true, decide_eq_true_eq] at hh
  have := hh c (memE hc)
  have : inn c 0 (k - 1) = true := inn_iff.2 (by omega)
  rw [h] at this; cases this
def djI (l : List Int) (i j : Int) : Prop := 0 ≤ j ∧ j ≤ i ∧ ∀ c, l[i.toNat]? = some c → (l.take j.toNat).elem c = false
theorem djI_init {l : List Int} {i : Int} (h : 0 ≤ i) : djI l i 0 := ⟨by omega, h, by simp⟩
theorem djI_next {l : List Int} {i j c d : Int} (h : djI l i j) (hl : j < i) (hc : l[i.toNat]? = some c) (hd : l[j.toNat]? = some d) (hne : c ≠ d) : djI l i (j + 1) := by
  refine ⟨by have := h.1; omega, by omega, fun c' hc' => ?_⟩
  have h3 := h.2.2 c' hc'
  rw [hc] at hc'; cases hc'
  rw [toNat1 h.1, takeE hd]
  simp at h3 ⊢
  exact ⟨h3, hne⟩
theorem djI_eq {l : List Int} {i j c d : Int} (h0 : djI l i j) (hl : j < i) (hc : l[i.toNat]? = some c) (hd : l[j.toNat]? = some d) (he : c = d) : ¬ l.Nodup := by
  refine nk_dup hc ?_
  subst he
  rw [List.elem_iff]
  rw [List.mem_take_iff_getElem]
  obtain ⟨hj, e⟩ := getE hd
  have := h0.1
  exact ⟨j.toNat, by omega, e⟩
theorem djI_done {k : Int} {l : List Int} {i j c : Int} (h : nkI k l i) (hd : djI l i j) (hl : ¬ j < i) (hc : l[i.toNat]? = some c) (hin : inn c 0 (k - 1) = true) : nkI k l (i + 1) := by
  have := inn_iff.1 hin
  have h3 := hd.2.2 c hc
  obtain rfl : j = i := by have := hd.2.1; omega
  exact nkI_next h hc (by omega) (by omega) h3
def lsNode2 (x : List Nd × Int) (i : Int) : LS := {
  ι := Int, inv := djI (ndAt x.1 x.2).kids i,
  regs := fun j => [(0, nds x.1), (1, .int .i64 x.2), (5, .box 0 (ndA false (ndAt x.1 x.2))), (8, .int .i64 i), (9, .int .i64 j)], als := [], meas := fun j => i.toNat - j.toNat }
def lsNode (x : List Nd × Int) : LS := {
  ι := Int, inv := nkI x.2 (ndAt x.1 x.2).kids,
  regs := fun i => [(0, nds x.1), (1, .int .i64 x.2), (5, .box 0 (ndA false (ndAt x.1 x.2))), (8, .int .i64 i)], als := [], meas := fun i => (ndAt x.1 x.2).kids.length - i.toNat, sub := fun i => [(15, lsNode2 x i)] }
def lsNode3 (x : List Nd × Int) : LS := {
  ι := Int, inv := koI x.1 (ndAt x.1 x.2),
  regs := fun i => [(0, nds x.1), (1, .int .i64 x.2), (5, .box 0 (ndA false (ndAt x.1 x.2))), (10, .int .i64 i)], als := [], meas := fun i => (ndAt x.1 x.2).kids.length - i.toNat }
def jI (x : Nd) : Prop := inn x.kind 1 22 = true ∧ inn x.kids.length (lohi x.kind).1 (lohi x.kind).2 = true ∧ textOk x.kind x.text = true ∧ (mayBlank x.kind || !x.blank) = true
def lsJoin (x : List Nd × Int) : LS := {
  ι := Unit, inv := fun _ => jI (ndAt x.1 x.2),
  regs := fun _ => [(0, nds x.1), (1, .int .i64 x.2), (5, .box 0 (ndA false (ndAt x.1 x.2)))], als := [], meas := fun _ => 0 }
def s_sNodeOk  : Sig := { X := List Nd × Int, args := fun x => [nds x.1, .int .i64 x.2], pre := fun x => okNds x.1, Y := Unit, post := fun x y => True, res := fun x y => .bool (nodeOk x.1 x.2), outs := fun x y => [.top, .top], keep := false }
theorem sNodeOk_vc (x : List Nd × Int) : vcFun Go.Proofs.Tryd.prog (Γof [(44, 0, s_l01In), (60, 0, s_l05Count), (61, 0, s_l05Text), (62, 0, s_l05Statement), (63, 0, s_l05Fits)]) (Eof []) false (Lof ([(10,lsNode x), (20,lsNode3 x), (200009,lsJoin x)])) Go.Proofs.Tryd.f56.ntmps Go.Proofs.Tryd.f56.results.toList (Go.Proofs.Tryd.f56.body.getD .skip) s_sNodeOk x = ((∀ (y : Unit), True → True ∧ True ∧ True ∧ True) ∧ inR IntKind.i64 ((↑(List.length x.fst) : Int) - (1 : Int)) ∧ ∃ (x_1 : Int × Int × Int), True ∧ x.snd = x_1.fst ∧ (0 : Int) = x_1.snd.fst ∧ (↑(List.length x.fst) : Int) - (1 : Int) = x_1.snd.snd ∧ ∀ (y : Unit), True → bcase (!inn x_1.fst x_1.snd.fst x_1.snd.snd) (∃ (y : Unit), True ∧ false = nodeOk x.fst x.snd ∧ True) (((0 : Int) ≤ x.snd ∧ x.snd < (↑(List.length x.fst) : Int)) ∧ ∀ (e : Nd), x.fst[Int.toNat x.snd]? = some e → ∃ (x_2 : Int × Int × Int), True ∧ e.kind = x_2.fst ∧ (1 : Int) = x_2.snd.fst ∧ (22 : Int) = x_2.snd.snd ∧ ∀ (y : Unit), True → bcase (!inn x_2.fst x_2.snd.fst x_2.snd.snd) (∃ (y : Unit), True ∧ false = nodeOk x.fst x.snd ∧ True) (((0 : Int) ≤ x.snd ∧ x.snd < (↑(List.length x.fst) : Int)) ∧ ∀ (e : Nd), x.fst[Int.toNat x.snd]? = some e → ∃ (x_3 : Int), True ∧ e.kind = x_3 ∧ ∀ (y : Unit), True → ∃ (x_4 : Int × Int × Int), True ∧ (↑(List.length e.kids) : Int) = x_4.fst ∧ (lohi x_3).fst = x_4.snd.fst ∧ (lohi x_3).snd = x_4.snd.snd ∧ ∀ (y : Unit), True → bcase (!inn x_4.fst x_4.snd.fst x_4.snd.snd) (∃ (y : Unit), True ∧ false = nodeOk x.fst x.snd ∧ True) (∃ (x_5 : Int × List UInt8), List.length x_5.snd < (4611686018427387904 : Nat) ∧ e.kind = x_5.fst ∧ e.text = x_5.snd ∧ ∀ (y : Unit), True → bcase (!textOk x_5.fst x_5.snd) (∃ (y : Unit), True ∧ false = nodeOk x.fst x.snd ∧ True) (bcase e.blank (∃ (x_6 : Int), True ∧ e.kind = x_6 ∧ ∀ (y : Unit), True → bcase (!isSt x_6) (bcase (e.kind != (20 : Int)) (bcase (e.kind != (21 : Int)) (∃ (y : Unit), True ∧ false = nodeOk x.fst x.snd ∧ True) (∃ (i : Unit), jI (ndAt x.fst x.snd) ∧ (AV.sl false (0 : Nat) (4 : Nat) Nd (ndA false) x.fst = AV.sl false (0 : Nat) (4 : Nat) Nd (ndA false) x.fst ∧ x.snd = x.snd ∧ e.kind = (ndAt x.fst x.snd).kind ∧ e.text = (ndAt x.fst x.snd).text ∧ AV.sl false (0 : Nat) (1 : Nat) Int intA e.kids = AV.sl false (0 : Nat) (1 : Nat) Int intA (ndAt x.fst x.snd).kids ∧ e.blank = (ndAt x.fst x.snd).blank ∧ True) ∧ True)) (∃ (i : Unit), jI (ndAt x.fst x.snd) ∧ (AV.sl false (0 : Nat) (4 : Nat) Nd (ndA false) x.fst = AV.sl false (0 : Nat) (4 : Nat) Nd (ndA false) x.fst ∧ x.snd = x.snd ∧ e.kind = (ndAt x.fst x.snd).kind ∧ e.text = (ndAt x.fst x.snd).text ∧ AV.sl false (0 : Nat) (1 : Nat) Int intA e.kids = AV.sl false (0 : Nat) (1 : Nat) Int intA (ndAt x.fst x.snd).kids ∧ e.blank = (ndAt x.fst x.snd).blank ∧ True) ∧ True)) (∃ (i : Unit), jI (ndAt x.fst x.snd) ∧ (AV.sl false (0 : Nat) (4 : Nat) Nd (ndA false) x.fst = AV.sl false (0 : Nat) (4 : Nat) Nd (ndA false) x.fst ∧ x.snd = x.snd ∧ e.kind = (ndAt x.fst x.snd).kind ∧ e.text = (ndAt x.fst x.snd).text ∧ AV.sl false (0 : Nat) (1 : Nat) Int intA e.kids = AV.sl false (0 : Nat) (1 : Nat) Int intA (ndAt x.fst x.snd).kids ∧ e.blank = (ndAt x.fst x.snd).blank ∧ True) ∧ True)) (∃ (i : Unit), jI (ndAt x.fst x.snd) ∧ (AV.sl false (0 : Nat) (4 : Nat) Nd (ndA false) x.fst = AV.sl false (0 : Nat) (4 : Nat) Nd (ndA false) x.fst ∧ x.snd = x.snd ∧ e.kind = (ndAt x.fst x.snd).kind ∧ e.text = (ndAt x.fst x.snd).text ∧ AV.sl false (0 : Nat) (1 : Nat) Int intA e.kids = AV.sl false (0 : Nat) (1 : Nat) Int intA (ndAt x.fst x.snd).kids ∧ e.blank = (ndAt x.fst x.snd).blank ∧ True) ∧ True) ∧ ∀ (i : Unit), jI (ndAt x.fst x.snd) → (∃ (i : Int), nkI x.snd (ndAt x.fst x.snd).kids i ∧ (AV.sl false (0 : Nat) (4 : Nat) Nd (ndA false) x.fst = AV.sl false (0 : Nat) (4 : Nat) Nd (ndA false) x.fst ∧ x.snd = x.snd ∧ (ndAt x.fst x.snd).kind = (ndAt x.fst x.snd).kind ∧ (ndAt x.fst x.snd).text = (ndAt x.fst x.snd).text ∧ AV.sl false (0 : Nat) (1 : Nat) Int intA (ndAt x.fst x.snd).kids = AV.sl false (0 : Nat) (1 : Nat) Int intA (ndAt x.fst x.snd).kids ∧ (ndAt x.fst x.snd).blank = (ndAt x.fst x.snd).blank ∧ (0 : Int) = i ∧ True) ∧ True) ∧ ∀ (i : Int), nkI x.snd (ndAt x.fst x.snd).kids i → bcase (decide (i < (↑(List.length (ndAt x.fst x.snd).kids) : Int))) (((0 : Int) ≤ i ∧ i < (↑(List.length (ndAt x.fst x.snd).kids) : Int)) ∧ ∀ (e : Int), (ndAt x.fst x.snd).kids[Int.toNat i]? = some e → inR IntKind.i64 (x.snd - (1 : Int)) ∧ ∃ (x_6 : Int × Int × Int), True ∧ e = x_6.fst ∧ (0 : Int) = x_6.snd.fst ∧ x.snd - (1 : Int) = x_6.snd.snd ∧ ∀ (y : Unit), True → bcase (!inn x_6.fst x_6.snd.fst x_6.snd.snd) (∃ (y : Unit), True ∧ false = nodeOk x.fst x.snd ∧ True) ((∃ (i_1 : Int), djI (ndAt x.fst x.snd).kids i i_1 ∧ (AV.sl false (0 : Nat) (4 : Nat) Nd (ndA false) x.fst = AV.sl false (0 : Nat) (4 : Nat) Nd (ndA false) x.fst ∧ x.snd = x.snd ∧ (ndAt x.fst x.snd).kind = (ndAt x.fst x.snd).kind ∧ (ndAt x.fst x.snd).text = (ndAt x.fst x.snd).text ∧ AV.sl false (0 : Nat) (1 : Nat) Int intA (ndAt x.fst x.snd).kids = AV.sl false (0 : Nat) (1 : Nat) Int intA (ndAt x.fst x.snd).kids ∧ (ndAt x.fst x.snd).blank = (ndAt x.fst x.snd).blank ∧ i = i ∧ (0 : Int) = i_1 ∧ True) ∧ True) ∧ ∀ (i_1 : Int), djI (ndAt x.fst x.snd).kids i i_1 → bcase (decide (i_1 < i)) (true = true ∧ true = true ∧ ((0 : Int) ≤ i ∧ i < (↑(List.length (ndAt x.fst x.snd).kids) : Int)) ∧ ∀ (e : Int), (ndAt x.fst x.snd).kids[Int.toNat i]? = some e → ((0 : Int) ≤ i_1 ∧ i_1 < (↑(List.length (ndAt x.fst x.snd).kids) : Int)) ∧ ∀ (e_1 : Int), (ndAt x.fst x.snd).kids[Int.toNat i_1]? = some e_1 → bcase (e == e_1) (∃ (y : Unit), True ∧ false = nodeOk x.fst x.snd ∧ True) (inR IntKind.i64 (i_1 + (1 : Int)) ∧ ∃ (i' : Int), djI (ndAt x.fst x.snd).kids i i' ∧ Int.toNat i - Int.toNat i' < Int.toNat i - Int.toNat i_1 ∧ (AV.sl false (0 : Nat) (4 : Nat) Nd (ndA false) x.fst = AV.sl false (0 : Nat) (4 : Nat) Nd (ndA false) x.fst ∧ x.snd = x.snd ∧ (ndAt x.fst x.snd).kind = (ndAt x.fst x.snd).kind ∧ (ndAt x.fst x.snd).text = (ndAt x.fst x.snd).text ∧ AV.sl false (0 : Nat) (1 : Nat) Int intA (ndAt x.fst x.snd).kids = AV.sl false (0 : Nat) (1 : Nat) Int intA (ndAt x.fst x.snd).kids ∧ (ndAt x.fst x.snd).blank = (ndAt x.fst x.snd).blank ∧ i = i ∧ i_1 + (1 : Int) = i' ∧ True) ∧ True)) (inR IntKind.i64 (i + (1 : Int)) ∧ ∃ (i' : Int), nkI x.snd (ndAt x.fst x.snd).kids i' ∧ List.length (ndAt x.fst x.snd).kids - Int.toNat i' < List.length (ndAt x.fst x.snd).kids - Int.toNat i ∧ (AV.sl false (0 : Nat) (4 : Nat) Nd (ndA false) x.fst = AV.sl false (0 : Nat) (4 : Nat) Nd (ndA false) x.fst ∧ x.snd = x.snd ∧ (ndAt x.fst x.snd).kind = (ndAt x.fst x.snd).kind ∧ (ndAt x.fst x.snd).text = (ndAt x.fst x.snd).text ∧ AV.sl false (0 : Nat) (1 : Nat) Int intA (ndAt x.fst x.snd).kids = AV.sl false (0 : Nat) (1 : Nat) Int intA (ndAt x.fst x.snd).kids ∧ (ndAt x.fst x.snd).blank = (ndAt x.fst x.snd).blank ∧ i + (1 : Int) = i' ∧ True) ∧ True))) ((∃ (i : Int), koI x.fst (ndAt x.fst x.snd) i ∧ (AV.sl false (0 : Nat) (4 : Nat) Nd (ndA false) x.fst = AV.sl false (0 : Nat) (4 : Nat) Nd (ndA false) x.fst ∧ x.snd = x.snd ∧ (ndAt x.fst x.snd).kind = (ndAt x.fst x.snd).kind ∧ (ndAt x.fst x.snd).text = (ndAt x.fst x.snd).text ∧ AV.sl false (0 : Nat) (1 : Nat) Int intA (ndAt x.fst x.snd).kids = AV.sl false (0 : Nat) (1 : Nat) Int intA (ndAt x.fst x.snd).kids ∧ (ndAt x.fst x.snd).blank = (ndAt x.fst x.snd).blank ∧ (0 : Int) = i ∧ True) ∧ True) ∧ ∀ (i : Int), koI x.fst (ndAt x.fst x.snd) i → bcase (decide (i < (↑(List.length (ndAt x.fst x.snd).kids) : Int))) (((0 : Int) ≤ i ∧ i < (↑(List.length (ndAt x.fst x.snd).kids) : Int)) ∧ ∀ (e : Int), (ndAt x.fst x.snd).kids[Int.toNat i]? = some e → ((0 : Int) ≤ e ∧ e < (↑(List.length x.fst) : Int)) ∧ ∀ (e_1 : Nd), x.fst[Int.toNat e]? = some e_1 → bcase (e_1.kind == (5 : Int)) (bcase ((↑(List.length e_1.kids) : Int) == (0 : Int)) (∃ (y : Unit), True ∧ false = nodeOk x.fst x.snd ∧ True) (((0 : Int) ≤ (0 : Int) ∧ (0 : Int) < (↑(List.length e_1.kids) : Int)) ∧ ∀ (e : Int), e_1.kids[(0 : Nat)]? = some e → inR IntKind.i64 ((↑(List.length x.fst) : Int) - (1 : Int)) ∧ ∃ (x_6 : Int × Int × Int), True ∧ e = x_6.fst ∧ (0 : Int) = x_6.snd.fst ∧ (↑(List.length x.fst) : Int) - (1 : Int) = x_6.snd.snd ∧ ∀ (y : Unit), True → bcase (!inn x_6.fst x_6.snd.fst x_6.snd.snd) (∃ (y : Unit), True ∧ false = nodeOk x.fst x.snd ∧ True) (∃ (x_7 : List Nd × Int × Int), fitsP x_7 ∧ AV.sl false (0 : Nat) (4 : Nat) Nd (ndA false) x.fst = AV.sl false (0 : Nat) (4 : Nat) Nd (ndA false) x_7.fst ∧ x.snd = x_7.snd.fst ∧ i = x_7.snd.snd ∧ ∀ (y : Unit), True → bcase (!fitR x_7) (∃ (y : Unit), True ∧ false = nodeOk x.fst x.snd ∧ True) (inR IntKind.i64 (i + (1 : Int)) ∧ ∃ (i' : Int), koI x.fst (ndAt x.fst x.snd) i' ∧ List.length (ndAt x.fst x.snd).kids - Int.toNat i' < List.length (ndAt x.fst x.snd).kids - Int.toNat i ∧ (AV.sl false (0 : Nat) (4 : Nat) Nd (ndA false) x.fst = AV.sl false (0 : Nat) (4 : Nat) Nd (ndA false) x.fst ∧ x.snd = x.snd ∧ (ndAt x.fst x.snd).kind = (ndAt x.fst x.snd).kind ∧ (ndAt x.fst x.snd).text = (ndAt x.fst x.snd).text ∧ AV.sl false (0 : Nat) (1 : Nat) Int intA (ndAt x.fst x.snd).kids = AV.sl false (0 : Nat) (1 : Nat) Int intA (ndAt x.fst x.snd).kids ∧ (ndAt x.fst x.snd).blank = (ndAt x.fst x.snd).blank ∧ i + (1 : Int) = i' ∧ True) ∧ True)))) (∃ (x_6 : List Nd × Int × Int), fitsP x_6 ∧ AV.sl false (0 : Nat) (4 : Nat) Nd (ndA false) x.fst = AV.sl false (0 : Nat) (4 : Nat) Nd (ndA false) x_6.fst ∧ x.snd = x_6.snd.fst ∧ i = x_6.snd.snd ∧ ∀ (y : Unit), True → bcase (!fitR x_6) (∃ (y : Unit), True ∧ false = nodeOk x.fst x.snd ∧ True) (inR IntKind.i64 (i + (1 : Int)) ∧ ∃ (i' : Int), koI x.fst (ndAt x.fst x.snd) i' ∧ List.length (ndAt x.fst x.snd).kids - Int.toNat i' < List.length (ndAt x.fst x.snd).kids - Int.toNat i ∧ (AV.sl false (0 : Nat) (4 : Nat) Nd (ndA false) x.fst = AV.sl false (0 : Nat) (4 : Nat) Nd (ndA false) x.fst ∧ x.snd = x.snd ∧ (ndAt x.fst x.snd).kind = (ndAt x.fst x.snd).kind ∧ (ndAt x.fst x.snd).text = (ndAt x.fst x.snd).text ∧ AV.sl false (0 : Nat) (1 : Nat) Int intA (ndAt x.fst x.snd).kids = AV.sl false (0 : Nat) (1 : Nat) Int intA (ndAt x.fst x.snd).kids ∧ (ndAt x.fst x.snd).blank = (ndAt x.fst x.snd).blank ∧ i + (1 : Int) = i' ∧ True) ∧ True))) (∃ (y : Unit), True ∧ true = nodeOk x.fst x.snd ∧ True))))))) := by kernel_rfl
set_option maxHeartbeats 4000000 in
theorem sNodeOk_ok  : Contract Tryd.prog 56 s_sNodeOk :=
  vcFun_ok (Γ := Γof [(44, 0, s_l01In), (60, 0, s_l05Count), (61, 0, s_l05Text), (62, 0, s_l05Statement), (63, 0, s_l05Fits)]) (E := Eof []) (ov := false) (L := fun x => Lof ([(10,lsNode x), (20,lsNode3 x), (200009,lsJoin x)])) Tryd.func56 rfl (by decide) (Γof_ok (l := [(44, 0, s_l01In), (60, 0, s_l05Count), (61, 0, s_l05Text), (62, 0, s_l05Statement), (63, 0, s_l05Fits)]) ⟨l01In_ok, l05Count_ok, l05Text_ok, l05Statement_ok, l05Fits_ok, trivial⟩) fun (x : List Nd × Int) (hx : okNds x.1) => (sNodeOk_vc  x).mpr (by
  have h1 : okNds x.1 := hx; have hl := h1.1
  by_cases hn : isNd x.1 x.2 = true
  case neg =>
    (repeat' first | with_reducible rfl | exact True.intro | refine inR_i64 ?_ ?_ | with_reducible refine And.intro ?_ ?_ | with_reducible refine bcase_dec (fun _ => ?_) (fun _ => ?_) | with_reducible refine bcase_bne (fun _ => ?_) (fun _ => ?_) | with_reducible refine bcase_beq (fun _ => ?_) (fun _ => ?_) | with_reducible refine bcase_not (fun _ => ?_) (fun _ => ?_) | refine bcase_intro (fun _ => ?_) (fun _ => ?_) | refine sl_eq ?_ | refine ex_flip () ?_ ?_ | (apply ex_flip6 <;> try dsimp only) | (apply ex_flip5 <;> try dsimp only) | (apply ex_flip4 <;> try dsimp only) | (apply ex_flip3 <;> try dsimp only) | (apply ex_flip2 <;> try dsimp only) | apply ex_flip | (refine Prod.forall.2 ?_; intro _; try dsimp only) | (intro _; try dsimp only))
    all_goals first
      | exact sn_nd (by assumption)
      | (have hh := (show inn x.2 0 (x.1.length - 1) = true by assumption); rw [isNd_inn] at hh; exact (hn hh).elim)
      | ((try simp only [i64max]); omega)
  case pos =>
  have hr := isNd_iff.1 hn
  obtain ⟨z, hz⟩ : ∃ z, x.1[x.2.toNat]? = some z := ⟨x.1[x.2.toNat], by simp⟩
  have hzo := h1.2 _ (memE hz)
  have hi : inn x.2 0 (x.1.length - 1) = true := by rw [isNd_inn]; exact hn
  simp only [hz, Option.some.injEq, forall_eq', ndAt_of hz]
  (repeat' first | with_reducible rfl | exact True.intro | refine inR_i64 ?_ ?_ | with_reducible refine And.intro ?_ ?_ | with_reducible refine bcase_dec (fun _ => ?_) (fun _ => ?_) | with_reducible refine bcase_bne (fun _ => ?_) (fun _ => ?_) | with_reducible refine bcase_beq (fun _ => ?_) (fun _ => ?_) | with_reducible refine bcase_not (fun _ => ?_) (fun _ => ?_) | refine bcase_intro (fun _ => ?_) (fun _ => ?_) | refine sl_eq ?_ | refine ex_flip () ?_ ?_ | (apply ex_flip6 <;> try dsimp only) | (apply ex_flip5 <;> try dsimp only) | (apply ex_flip4 <;> try dsimp only) | (apply ex_flip3 <;> try dsimp only) | (apply ex_flip2 <;> try dsimp only) | apply ex_flip | (refine Prod.forall.2 ?_; intro _; try dsimp only) | (intro _; try dsimp only))
  all_goals first
    | rfl
    | assumption
    | exact nkI_init
    | exact koI_init
    | exact djI_init (‹nkI _ _ _›.1)
    | exact sn_nd (by assumption)
    | exact ⟨by assumption, by assumption, by assumption, by simp [mayBlank_eq, *]⟩
    | exact sn_in hz hi (in_not (by assumption) (by assumption))
    | exact sn_dup hz hi (djI_eq (by assumption) (by assumption) (by assumption) (by assumption) (by assumption))
    | exact djI_next (by assumption) (by assumption) (by assumption) (by assumption) (by assumption)
    | exact djI_done (by assumption) (by assumption) (by assumption) (by assumption) (by assumption)
    | exact sn_kid hz hi (ko_not (‹koI _ _ _›.1) (by assumption) (ko1 (by assumption) (by assumption) (by assumption)))
    | exact sn_kid hz hi (ko_not (‹koI _ _ _›.1) (by assumption) (ko2 (by assumption) (by assumption) (by assumption) (by assumption)))
    | exact sn_kid hz hi (ko_not (‹koI _ _ _›.1) (by assumption) ((ko4 (by assumption) (by assumption)).trans (ko_fit hz (by assumption) (by assumption))))
    | exact sn_kid hz hi (ko_not (‹koI _ _ _›.1) (by assumption) ((ko3 (by assumption) (by assumption) (by assumption) (by assumption)).trans (ko_fit hz (by assumption) (by assumption))))
    | exact koI_next (by assumption) (by assumption) ((ko4 (by assumption) (by assumption)).trans (ko_fit hz (by assumption) (by assumption)))
    | exact koI_next (by assumption) (by assumption) ((ko3 (by assumption) (by assumption) (by assumption) (by assumption)).trans (ko_fit hz (by assumption) (by assumption)))
    | exact fitsP_of1 h1 hn hz (nkI_done (by assumption) (by assumption)).1 (by assumption) (by assumption) (by assumption) (by assumption) (by assumption)
    | exact fitsP_of2 h1 hn hz (nkI_done (by assumption) (by assumption)).1 (by assumption) (by assumption) (by assumption) (by assumption)
    | exact sn_yes hz hi (‹jI _›.1) (‹jI _›.2.1) (‹jI _›.2.2.1) (‹jI _›.2.2.2) (nkI_done (by assumption) (by assumption)) (koI_done (by assumption) (by assumption))
    | (rw [sn_of hz hi]; simp [mayBlank_eq, *]; done)
    | exact hzo.1
    | (have := nkI_at (by assumption) (by assumption) hr.2 (memE (show z.kids[_]? = some _ by assumption)); omega)
    | ((try simp only [i64max]); omega)
    | (have hko := (show koI _ _ _ by assumption); have hk2 := hzo.2; have := hko.1; have := hko.2.1; (try simp only [i64max]); omega)
    | (have hko := (show djI _ _ _ by assumption); have hk1 := (show nkI _ _ _ by assumption); have hk2 := hzo.2; have := hko.1; have := hko.2.1; have := hk1.1; have := hk1.2.1; (try simp only [i64max]); omega)
    | (have hk1 := (show nkI _ _ _ by assumption); have hk2 := hzo.2; have := hk1.1; have := hk1.2.1; (try simp only [i64max]); omega)
    | skip)

end Go.My
