/- Depths and trees: the reference's functions. -/
import Derived.Test.YtinkjpfkemkhaaaDoorMyJ
set_option linter.unusedVariables false
set_option linter.unusedSimpArgs false
namespace Go.My
open Go.Eng Go.Proofs

/- the reference's depths: 0 from the first wrong node on -/
def sdp (ns : List Nd) (i : Nat) (ds : List Int) : Int :=
  if nodeOk ns i = true ∧ (i = 0 ∨ ds.getD (i - 1) 0 ≠ 0) then (if 14 ≤ mx ds (ndAt ns i).kids 0 then 0 else mx ds (ndAt ns i).kids 0 + 1) else 0
def sds (ns : List Nd) : Nat → List Int
  | 0 => []
  | n + 1 => sds ns n ++ [sdp ns n (sds ns n)]
theorem sds_len {ns : List Nd} : ∀ {n : Nat}, (sds ns n).length = n
  | 0 => rfl
  | n + 1 => by rw [sds, List.length_append, sds_len]; rfl
theorem sds_deeps {ns : List Nd} : ∀ {n : Nat}, (match deeps ns n with | some ds => sds ns n = ds | none => 0 < n ∧ (sds ns n).getD (n - 1) 0 = 0)
  | 0 => by simp [deeps, sds]
  | n + 1 => by
    have ih := @sds_deeps ns n
    unfold deeps
    cases hd : deeps ns n with
    | none =>
      rw [hd] at ih
      simp only
      refine ⟨by omega, ?_⟩
      have hz : sdp ns n (sds ns n) = 0 := by
        unfold sdp; rw [if_neg]; rintro ⟨_, h | h⟩
        · omega
        · exact h ih.2
      rw [sds, hz, List.getD, List.getElem?_append_right (by rw [sds_len]; omega), sds_len]; simp
    | some ds =>
      rw [hd] at ih
      simp only at ih ⊢
      by_cases hn : nodeOk ns n = true
      · rw [if_pos hn]
        have hprev : n = 0 ∨ (sds ns n).getD (n - 1) 0 ≠ 0 := by
          by_cases e : n = 0
          · exact .inl e
          · right
            rw [ih, List.getD]
            have hl := deeps_length hd
            have : ds[n - 1]? = some ds[n - 1] := by simp
            rw [this]; have := deeps_pos hd ds[n - 1] (by simp); simp; omega
        have hs : sdp ns n (sds ns n) = if 14 ≤ mx ds (ndAt ns n).kids 0 then 0 else mx ds (ndAt ns n).kids 0 + 1 := by
          unfold sdp; rw [if_pos ⟨hn, hprev⟩, ih]
        by_cases hm : 14 ≤ mx ds (ndAt ns n).kids 0
        · rw [if_pos hm]; simp only
          refine ⟨by omega, ?_⟩
          rw [sds, hs, if_pos hm, List.getD, List.getElem?_append_right (by rw [sds_len]; omega), sds_len]; simp
        · rw [if_neg hm]; simp only
          rw [sds, hs, if_neg hm, ih]
      · rw [if_neg hn]; simp only
        refine ⟨by omega, ?_⟩
        have hz : sdp ns n (sds ns n) = 0 := by unfold sdp; rw [if_neg (fun h => hn h.1)]
        rw [sds, hz, List.getD, List.getElem?_append_right (by rw [sds_len]; omega), sds_len]; simp
theorem sds_take {ns : List Nd} {n m : Nat} (h : n ≤ m) {i : Nat} (hi : i < n) : (sds ns m)[i]? = (sds ns n)[i]? := by
  induction m with
  | zero => omega
  | succ m ih =>
    by_cases e : n = m + 1
    · subst e; rfl
    · rw [sds, List.getElem?_append_left (by rw [sds_len]; omega), ih (by omega)]
theorem sds_deepOf {ns : List Nd} {k : Int} {v : Int} (h : isNd ns k = true) (hv : (sds ns (k.toNat + 1))[k.toNat]? = some v) : v = deepOf ns k := by
  have ih := @sds_deeps ns (k.toNat + 1)
  unfold deepOf; rw [if_pos h]
  cases hd : deeps ns (k.toNat + 1) with
  | none => rw [hd] at ih; simp only at ih ⊢; have := ih.2; rw [List.getD] at this; simp [hv] at this; exact this
  | some ds => rw [hd] at ih; simp only at ih ⊢; rw [← ih, List.getD, hv]; rfl
theorem sds_rng {ns : List Nd} : ∀ {n : Nat}, ∀ d ∈ sds ns n, 0 ≤ d ∧ d ≤ 14
  | 0, d, h => by simp [sds] at h
  | n + 1, d, h => by
    rw [sds] at h
    rcases List.mem_append.1 h with h | h
    · exact sds_rng d h
    · simp at h; subst h
      have := mx_ge (sds ns n) (ndAt ns n).kids 0
      unfold sdp; split
      · split <;> omega
      · omega
def okB (ns : List Nd) (i : Int) : Bool := nodeOk ns i && (decide (i = 0) || !decide ((sds ns i.toNat).getD (i.toNat - 1) 0 = 0))
theorem sdp_of {ns : List Nd} {i : Int} (h : 0 ≤ i) : sdp ns i.toNat (sds ns i.toNat) = if okB ns i then (if 14 ≤ mx (sds ns i.toNat) (ndAt ns i).kids 0 then 0 else mx (sds ns i.toNat) (ndAt ns i).kids 0 + 1) else 0 := by
  have e : ((i.toNat : Nat) : Int) = i := by omega
  unfold sdp; rw [e]
  have hb : okB ns i = true ↔ nodeOk ns i = true ∧ (i.toNat = 0 ∨ (sds ns i.toNat).getD (i.toNat - 1) 0 ≠ 0) := by
    unfold okB
    simp only [Bool.and_eq_true, Bool.or_eq_true, decide_eq_true_eq, Bool.not_eq_true', decide_eq_false_iff_not]
    constructor
    · rintro ⟨h1, h2⟩; exact ⟨h1, h2.imp (fun h => by omega) id⟩
    · rintro ⟨h1, h2⟩; exact ⟨h1, h2.imp (fun h => by omega) id⟩
  by_cases h1 : okB ns i = true
  · rw [if_pos h1, if_pos (hb.1 h1)]
  · rw [if_neg h1, if_neg (fun h2 => h1 (hb.2 h2))]
def eI (ns : List Nd) (i j d : Int) : Prop := (okB ns i = true → j ≤ (ndAt ns i).kids.length ∧ 1 ≤ d ∧ d ≤ 15 ∧ mx (sds ns i.toNat) ((ndAt ns i).kids.drop j.toNat) (d - 1) = mx (sds ns i.toNat) (ndAt ns i).kids 0) ∧ 0 ≤ j ∧ (okB ns i = false → d = 0)
theorem eI_init {ns : List Nd} {i : Int} : eI ns i 0 (if okB ns i then 1 else 0) := by
  refine ⟨fun h => ?_, by omega, fun h => ?_⟩
  · rw [if_pos h]; refine ⟨by omega, by omega, by omega, by simp⟩
  · rw [h]; rfl
theorem eI_ok {ns : List Nd} {i j d : Int} (h : eI ns i j d) (hd : d > 0) : okB ns i = true := by
  cases hb : okB ns i
  · have := h.2.2 hb; omega
  · rfl
theorem okB_ok {ns : List Nd} {i : Int} (h : okB ns i = true) : nodeOk ns i = true := by
  simp only [okB, Bool.and_eq_true] at h; exact h.1
theorem eI_kid {ns : List Nd} {i j d c : Int} {y : Nd} (h : eI ns i j d) (hd : d > 0) (hy : ns[i.toNat]? = some y) (hc : y.kids[j.toNat]? = some c) : 0 ≤ c ∧ c < i := by
  have := (nodeOk_parts (okB_ok (eI_ok h hd))).2.2.2.1
  rw [ndAt_of hy] at this; exact this c (memE hc)
theorem eI_len {ns : List Nd} {i j d : Int} {y : Nd} (h : eI ns i j d) (hd : d > 0) (hy : ns[i.toNat]? = some y) : y.kids.length ≤ 12 := by
  have := (nodeOk_parts (okB_ok (eI_ok h hd))).2.1
  rwa [ndAt_of hy] at this
theorem eI_next {ns : List Nd} {i j d c v d' : Int} {y : Nd} (h : eI ns i j d) (hd : d > 0) (hy : ns[i.toNat]? = some y) (hc : y.kids[j.toNat]? = some c) (hv : (sds ns i.toNat)[c.toNat]? = some v) (hd' : d' - 1 = max (d - 1) v) : eI ns i (j + 1) d' := by
  have hb := eI_ok h hd
  obtain ⟨h1, h2, h3, h4⟩ := h.1 hb
  have h0 := h.2.1
  have hr := sds_rng v (memE hv)
  rw [ndAt_of hy] at h4 h1
  have := (getE hc).1
  refine ⟨fun _ => ?_, by omega, fun hh => by rw [hb] at hh; cases hh⟩
  rw [ndAt_of hy]
  refine ⟨by omega, by omega, by omega, ?_⟩
  rw [← h4, dropE hc, toNat1 h0, mx, List.getD, hv, Option.getD_some, hd']
theorem eI_v {ns : List Nd} {i : Int} {c : Nat} {v : Int} (hv : (sds ns i.toNat)[c]? = some v) : 0 ≤ v ∧ v ≤ 14 := sds_rng v (memE hv)
theorem eI_done {ns : List Nd} {i j d : Int} {y : Nd} (hi : 0 ≤ i) (h : eI ns i j d) (hd : d > 0) (hy : ns[i.toNat]? = some y) (hl : ¬ j < y.kids.length) : sds ns i.toNat ++ [if d > 14 then 0 else d] = sds ns (i + 1).toNat := by
  have hb := eI_ok h hd
  obtain ⟨h1, h2, h3, h4⟩ := h.1 hb
  rw [ndAt_of hy, List.drop_eq_nil_of_le (by omega), mx] at h4
  rw [toNat1 hi, sds, sdp_of hi, if_pos hb, ndAt_of hy, ← h4]
  congr 2
  by_cases h5 : d > 14
  · rw [if_pos h5, if_pos (by omega)]
  · rw [if_neg h5, if_neg (by omega)]; omega
theorem eI_zero {ns : List Nd} {i j d : Int} (hi : 0 ≤ i) (h : eI ns i j d) (hd : ¬ d > 0) : sds ns i.toNat ++ [d] = sds ns (i + 1).toNat := by
  have hb : okB ns i = false := by
    cases hb : okB ns i
    · rfl
    · have := (h.1 hb).2.1; omega
  rw [toNat1 hi, sds, sdp_of hi, hb, h.2.2 hb]; rfl
theorem okB0a {ns : List Nd} {i : Int} (h : nodeOk ns i = false) : 0 = if okB ns i = true then (1 : Int) else 0 := by simp [okB, h]
theorem okB0b {ns : List Nd} {i v : Int} (h : i > 0) (hv : (sds ns i.toNat)[(i - 1).toNat]? = some v) (h0 : v = 0) : 0 = if okB ns i = true then (1 : Int) else 0 := by
  have e : (i - 1).toNat = i.toNat - 1 := by omega
  rw [e] at hv; subst h0
  have : (sds ns i.toNat).getD (i.toNat - 1) 0 = 0 := by rw [List.getD, hv]; rfl
  simp only [okB, this, decide_true, Bool.not_true, Bool.or_false]
  rw [decide_eq_false (by omega)]; simp
theorem okB1a {ns : List Nd} {i : Int} (h : nodeOk ns i = true) (h0 : 0 ≤ i) (h1 : ¬ i > 0) : 1 = if okB ns i = true then (1 : Int) else 0 := by
  obtain rfl : i = 0 := by omega
  simp [okB, h]
theorem okB1b {ns : List Nd} {i v : Int} (h : nodeOk ns i = true) (h0 : i > 0) (hv : (sds ns i.toNat)[(i - 1).toNat]? = some v) (h1 : v ≠ 0) : 1 = if okB ns i = true then (1 : Int) else 0 := by
  have e : (i - 1).toNat = i.toNat - 1 := by omega
  rw [e] at hv
  have : (sds ns i.toNat).getD (i.toNat - 1) 0 ≠ 0 := by rw [List.getD, hv]; exact h1
  simp only [okB, h, this, decide_false, Bool.not_false, Bool.or_true, Bool.and_true, if_true]
def lDs2 (x : List Nd × Int) (o : Int) : LS := {
  ι := Int × Int, inv := fun i => eI x.1 o i.1 i.2,
  regs := fun i => [(0, nds x.1), (1, .int .i64 x.2), (5, oints (sds x.1 o.toNat)), (6, .int .i64 o), (7, .int .i64 i.2), (8, .int .i64 i.1)], als := [], meas := fun i => (ndAt x.1 o).kids.length - i.1.toNat }
def lDsJ (x : List Nd × Int) (o : Int) : LS := {
  ι := Unit, inv := fun _ => True,
  regs := fun i => [(0, nds x.1), (1, .int .i64 x.2), (5, oints (sds x.1 o.toNat)), (6, .int .i64 o), (7, .int .i64 (if okB x.1 o then 1 else 0))], als := [], meas := fun i => 0 }
def lDs (x : List Nd × Int) : LS := {
  ι := Int, inv := fun i => 0 ≤ i ∧ i ≤ x.2 + 1,
  regs := fun i => [(0, nds x.1), (1, .int .i64 x.2), (5, oints (sds x.1 i.toNat)), (6, .int .i64 i)], als := [], meas := fun i => (x.2 + 1 - i).toNat, sub := fun i => [(9, lDs2 x i), (200008, lDsJ x i)] }
def s_l05Deeps  : Sig := { X := List Nd × Int, args := fun x => [nds x.1, .int .i64 x.2], pre := fun x => okNds x.1 ∧ x.1.length ≤ 2 ^ 30 ∧ isNd x.1 x.2 = true, Y := Unit, post := fun x y => True, res := fun x y => oints (sds x.1 (x.2.toNat + 1)), outs := fun x y => [.top, .top], keep := false }
theorem l05Deeps_vc (x : List Nd × Int) : vcFun Go.Proofs.Tryd.prog (Γof [(56, 0, s_sNodeOk)]) (Eof [(39, ⟨Int,intA⟩)]) false (Lof ([(3,lDs x)])) Go.Proofs.Tryd.f45.ntmps Go.Proofs.Tryd.f45.results.toList (Go.Proofs.Tryd.f45.body.getD .skip) s_l05Deeps x = ((∀ (y : Unit), True → (∀ (x : Int), True ∧ True) ∧ True ∧ True ∧ True) ∧ (∃ (i : Int), ((0 : Int) ≤ i ∧ i ≤ x.snd + (1 : Int)) ∧ (AV.sl false (0 : Nat) (4 : Nat) Nd (ndA false) x.fst = AV.sl false (0 : Nat) (4 : Nat) Nd (ndA false) x.fst ∧ x.snd = x.snd ∧ AV.sl true (0 : Nat) (1 : Nat) Int intA [] = AV.sl true (0 : Nat) (1 : Nat) Int intA (sds x.fst (Int.toNat i)) ∧ (0 : Int) = i ∧ True) ∧ True) ∧ ∀ (i : Int), (0 : Int) ≤ i ∧ i ≤ x.snd + (1 : Int) → bcase (decide (i ≤ x.snd)) (bcase (decide (i < (↑(List.length x.fst) : Int))) ((∃ (x_1 : List Nd × Int), okNds x_1.fst ∧ AV.sl false (0 : Nat) (4 : Nat) Nd (ndA false) x.fst = AV.sl false (0 : Nat) (4 : Nat) Nd (ndA false) x_1.fst ∧ i = x_1.snd ∧ ∀ (y : Unit), True → bcase (!nodeOk x_1.fst x_1.snd) (∃ (i_1 : Unit), True ∧ (AV.sl false (0 : Nat) (4 : Nat) Nd (ndA false) x.fst = AV.sl false (0 : Nat) (4 : Nat) Nd (ndA false) x.fst ∧ x.snd = x.snd ∧ AV.sl true (0 : Nat) (1 : Nat) Int intA (sds x.fst (Int.toNat i)) = AV.sl true (0 : Nat) (1 : Nat) Int intA (sds x.fst (Int.toNat i)) ∧ i = i ∧ ((0 : Int) = if okB x.fst i = true then (1 : Int) else (0 : Int)) ∧ True) ∧ True) (bcase (decide (i > (0 : Int))) (inR IntKind.i64 (i - (1 : Int)) ∧ ((0 : Int) ≤ i - (1 : Int) ∧ i - (1 : Int) < (↑(List.length (sds x.fst (Int.toNat i))) : Int)) ∧ Int.toNat (i - (1 : Int)) < List.length (sds x.fst (Int.toNat i)) ∧ ∀ (x_2 : Int), (sds x.fst (Int.toNat i))[Int.toNat (i - (1 : Int))]? = some x_2 → bcase (x_2 == (0 : Int)) (∃ (i_1 : Unit), True ∧ (AV.sl false (0 : Nat) (4 : Nat) Nd (ndA false) x.fst = AV.sl false (0 : Nat) (4 : Nat) Nd (ndA false) x.fst ∧ x.snd = x.snd ∧ AV.sl true (0 : Nat) (1 : Nat) Int intA (sds x.fst (Int.toNat i)) = AV.sl true (0 : Nat) (1 : Nat) Int intA (sds x.fst (Int.toNat i)) ∧ i = i ∧ ((0 : Int) = if okB x.fst i = true then (1 : Int) else (0 : Int)) ∧ True) ∧ True) (∃ (i_1 : Unit), True ∧ (AV.sl false (0 : Nat) (4 : Nat) Nd (ndA false) x.fst = AV.sl false (0 : Nat) (4 : Nat) Nd (ndA false) x.fst ∧ x.snd = x.snd ∧ AV.sl true (0 : Nat) (1 : Nat) Int intA (sds x.fst (Int.toNat i)) = AV.sl true (0 : Nat) (1 : Nat) Int intA (sds x.fst (Int.toNat i)) ∧ i = i ∧ ((1 : Int) = if okB x.fst i = true then (1 : Int) else (0 : Int)) ∧ True) ∧ True)) (∃ (i_1 : Unit), True ∧ (AV.sl false (0 : Nat) (4 : Nat) Nd (ndA false) x.fst = AV.sl false (0 : Nat) (4 : Nat) Nd (ndA false) x.fst ∧ x.snd = x.snd ∧ AV.sl true (0 : Nat) (1 : Nat) Int intA (sds x.fst (Int.toNat i)) = AV.sl true (0 : Nat) (1 : Nat) Int intA (sds x.fst (Int.toNat i)) ∧ i = i ∧ ((1 : Int) = if okB x.fst i = true then (1 : Int) else (0 : Int)) ∧ True) ∧ True))) ∧ ∀ (i_1 : Unit), True → (∃ (i_2 : Int × Int), eI x.fst i i_2.fst i_2.snd ∧ (AV.sl false (0 : Nat) (4 : Nat) Nd (ndA false) x.fst = AV.sl false (0 : Nat) (4 : Nat) Nd (ndA false) x.fst ∧ x.snd = x.snd ∧ AV.sl true (0 : Nat) (1 : Nat) Int intA (sds x.fst (Int.toNat i)) = AV.sl true (0 : Nat) (1 : Nat) Int intA (sds x.fst (Int.toNat i)) ∧ i = i ∧ (if okB x.fst i = true then (1 : Int) else (0 : Int)) = i_2.snd ∧ (0 : Int) = i_2.fst ∧ True) ∧ True) ∧ ∀ (i_2 : Int × Int), eI x.fst i i_2.fst i_2.snd → bcase (decide (i_2.snd > (0 : Int))) (((0 : Int) ≤ i ∧ i < (↑(List.length x.fst) : Int)) ∧ ∀ (e : Nd), x.fst[Int.toNat i]? = some e → bcase (decide (i_2.fst < (↑(List.length e.kids) : Int))) (((0 : Int) ≤ i ∧ i < (↑(List.length x.fst) : Int)) ∧ ∀ (e : Nd), x.fst[Int.toNat i]? = some e → ((0 : Int) ≤ i_2.fst ∧ i_2.fst < (↑(List.length e.kids) : Int)) ∧ ∀ (e_1 : Int), e.kids[Int.toNat i_2.fst]? = some e_1 → ((0 : Int) ≤ e_1 ∧ e_1 < (↑(List.length (sds x.fst (Int.toNat i))) : Int)) ∧ Int.toNat e_1 < List.length (sds x.fst (Int.toNat i)) ∧ ∀ (x_1 : Int), (sds x.fst (Int.toNat i))[Int.toNat e_1]? = some x_1 → inR IntKind.i64 (x_1 + (1 : Int)) ∧ bcase (decide (x_1 + (1 : Int) > i_2.snd)) (((0 : Int) ≤ i ∧ i < (↑(List.length x.fst) : Int)) ∧ ∀ (e : Nd), x.fst[Int.toNat i]? = some e → ((0 : Int) ≤ i_2.fst ∧ i_2.fst < (↑(List.length e.kids) : Int)) ∧ ∀ (e_2 : Int), e.kids[Int.toNat i_2.fst]? = some e_2 → ((0 : Int) ≤ e_2 ∧ e_2 < (↑(List.length (sds x.fst (Int.toNat i))) : Int)) ∧ Int.toNat e_2 < List.length (sds x.fst (Int.toNat i)) ∧ ∀ (x_2 : Int), (sds x.fst (Int.toNat i))[Int.toNat e_2]? = some x_2 → inR IntKind.i64 (x_2 + (1 : Int)) ∧ inR IntKind.i64 (i_2.fst + (1 : Int)) ∧ ∃ (i' : Int × Int), eI x.fst i i'.fst i'.snd ∧ List.length (ndAt x.fst i).kids - Int.toNat i'.fst < List.length (ndAt x.fst i).kids - Int.toNat i_2.fst ∧ (AV.sl false (0 : Nat) (4 : Nat) Nd (ndA false) x.fst = AV.sl false (0 : Nat) (4 : Nat) Nd (ndA false) x.fst ∧ x.snd = x.snd ∧ AV.sl true (0 : Nat) (1 : Nat) Int intA (sds x.fst (Int.toNat i)) = AV.sl true (0 : Nat) (1 : Nat) Int intA (sds x.fst (Int.toNat i)) ∧ i = i ∧ x_2 + (1 : Int) = i'.snd ∧ i_2.fst + (1 : Int) = i'.fst ∧ True) ∧ True) (inR IntKind.i64 (i_2.fst + (1 : Int)) ∧ ∃ (i' : Int × Int), eI x.fst i i'.fst i'.snd ∧ List.length (ndAt x.fst i).kids - Int.toNat i'.fst < List.length (ndAt x.fst i).kids - Int.toNat i_2.fst ∧ (AV.sl false (0 : Nat) (4 : Nat) Nd (ndA false) x.fst = AV.sl false (0 : Nat) (4 : Nat) Nd (ndA false) x.fst ∧ x.snd = x.snd ∧ AV.sl true (0 : Nat) (1 : Nat) Int intA (sds x.fst (Int.toNat i)) = AV.sl true (0 : Nat) (1 : Nat) Int intA (sds x.fst (Int.toNat i)) ∧ i = i ∧ i_2.snd = i'.snd ∧ i_2.fst + (1 : Int) = i'.fst ∧ True) ∧ True)) (bcase (decide (i_2.snd > (14 : Int))) (∃ (x_1 : Int), (0 : Int) = x_1 ∧ ∃ (zs : List Int), AV.sl true (0 : Nat) (1 : Nat) Int intA [x_1] = AV.sl true (0 : Nat) (1 : Nat) Int intA zs ∧ leafy intA ∧ room (List.length (sds x.fst (Int.toNat i)) + List.length zs) (8 : Nat) ∧ inR IntKind.i64 (i + (1 : Int)) ∧ ∃ (i' : Int), ((0 : Int) ≤ i' ∧ i' ≤ x.snd + (1 : Int)) ∧ Int.toNat (x.snd + (1 : Int) - i') < Int.toNat (x.snd + (1 : Int) - i) ∧ (AV.sl false (0 : Nat) (4 : Nat) Nd (ndA false) x.fst = AV.sl false (0 : Nat) (4 : Nat) Nd (ndA false) x.fst ∧ x.snd = x.snd ∧ AV.sl true (0 : Nat) (1 : Nat) Int intA (sds x.fst (Int.toNat i) ++ zs) = AV.sl true (0 : Nat) (1 : Nat) Int intA (sds x.fst (Int.toNat i')) ∧ i + (1 : Int) = i' ∧ True) ∧ True) (∃ (x_1 : Int), i_2.snd = x_1 ∧ ∃ (zs : List Int), AV.sl true (0 : Nat) (1 : Nat) Int intA [x_1] = AV.sl true (0 : Nat) (1 : Nat) Int intA zs ∧ leafy intA ∧ room (List.length (sds x.fst (Int.toNat i)) + List.length zs) (8 : Nat) ∧ inR IntKind.i64 (i + (1 : Int)) ∧ ∃ (i' : Int), ((0 : Int) ≤ i' ∧ i' ≤ x.snd + (1 : Int)) ∧ Int.toNat (x.snd + (1 : Int) - i') < Int.toNat (x.snd + (1 : Int) - i) ∧ (AV.sl false (0 : Nat) (4 : Nat) Nd (ndA false) x.fst = AV.sl false (0 : Nat) (4 : Nat) Nd (ndA false) x.fst ∧ x.snd = x.snd ∧ AV.sl true (0 : Nat) (1 : Nat) Int intA (sds x.fst (Int.toNat i) ++ zs) = AV.sl true (0 : Nat) (1 : Nat) Int intA (sds x.fst (Int.toNat i')) ∧ i + (1 : Int) = i' ∧ True) ∧ True))) (bcase (decide (i_2.snd > (14 : Int))) (∃ (x_1 : Int), (0 : Int) = x_1 ∧ ∃ (zs : List Int), AV.sl true (0 : Nat) (1 : Nat) Int intA [x_1] = AV.sl true (0 : Nat) (1 : Nat) Int intA zs ∧ leafy intA ∧ room (List.length (sds x.fst (Int.toNat i)) + List.length zs) (8 : Nat) ∧ inR IntKind.i64 (i + (1 : Int)) ∧ ∃ (i' : Int), ((0 : Int) ≤ i' ∧ i' ≤ x.snd + (1 : Int)) ∧ Int.toNat (x.snd + (1 : Int) - i') < Int.toNat (x.snd + (1 : Int) - i) ∧ (AV.sl false (0 : Nat) (4 : Nat) Nd (ndA false) x.fst = AV.sl false (0 : Nat) (4 : Nat) Nd (ndA false) x.fst ∧ x.snd = x.snd ∧ AV.sl true (0 : Nat) (1 : Nat) Int intA (sds x.fst (Int.toNat i) ++ zs) = AV.sl true (0 : Nat) (1 : Nat) Int intA (sds x.fst (Int.toNat i')) ∧ i + (1 : Int) = i' ∧ True) ∧ True) (∃ (x_1 : Int), i_2.snd = x_1 ∧ ∃ (zs : List Int), AV.sl true (0 : Nat) (1 : Nat) Int intA [x_1] = AV.sl true (0 : Nat) (1 : Nat) Int intA zs ∧ leafy intA ∧ room (List.length (sds x.fst (Int.toNat i)) + List.length zs) (8 : Nat) ∧ inR IntKind.i64 (i + (1 : Int)) ∧ ∃ (i' : Int), ((0 : Int) ≤ i' ∧ i' ≤ x.snd + (1 : Int)) ∧ Int.toNat (x.snd + (1 : Int) - i') < Int.toNat (x.snd + (1 : Int) - i) ∧ (AV.sl false (0 : Nat) (4 : Nat) Nd (ndA false) x.fst = AV.sl false (0 : Nat) (4 : Nat) Nd (ndA false) x.fst ∧ x.snd = x.snd ∧ AV.sl true (0 : Nat) (1 : Nat) Int intA (sds x.fst (Int.toNat i) ++ zs) = AV.sl true (0 : Nat) (1 : Nat) Int intA (sds x.fst (Int.toNat i')) ∧ i + (1 : Int) = i' ∧ True) ∧ True))) (∃ (y : Unit), True ∧ AV.sl true (0 : Nat) (1 : Nat) Int intA (sds x.fst (Int.toNat i)) = AV.sl true (0 : Nat) (1 : Nat) Int intA (sds x.fst (Int.toNat x.snd + (1 : Nat))) ∧ True)) (∃ (y : Unit), True ∧ AV.sl true (0 : Nat) (1 : Nat) Int intA (sds x.fst (Int.toNat i)) = AV.sl true (0 : Nat) (1 : Nat) Int intA (sds x.fst (Int.toNat x.snd + (1 : Nat))) ∧ True)) := by kernel_rfl
theorem l05Deeps_ok  : Contract Tryd.prog 45 s_l05Deeps :=
  vcFun_ok (Γ := Γof [(56, 0, s_sNodeOk)]) (E := Eof [(39, ⟨Int,intA⟩)]) (ov := false) (L := fun x => Lof ([(3,lDs x)])) Tryd.func45 rfl (by decide) (Γof_ok (l := [(56, 0, s_sNodeOk)]) ⟨sNodeOk_ok, trivial⟩) fun (x : List Nd × Int) (hx : okNds x.1 ∧ x.1.length ≤ 2 ^ 30 ∧ isNd x.1 x.2 = true) => (l05Deeps_vc  x).mpr (by
  obtain ⟨h1, h2, h3⟩ := hx; have hl := h1.1; have hn := isNd_iff.1 h3
  (repeat' first | with_reducible rfl | exact True.intro | refine inR_i64 ?_ ?_ | with_reducible refine And.intro ?_ ?_ | with_reducible refine bcase_dec (fun _ => ?_) (fun _ => ?_) | with_reducible refine bcase_bne (fun _ => ?_) (fun _ => ?_) | with_reducible refine bcase_beq (fun _ => ?_) (fun _ => ?_) | with_reducible refine bcase_not (fun _ => ?_) (fun _ => ?_) | refine bcase_intro (fun _ => ?_) (fun _ => ?_) | refine sl_eq ?_ | refine ex_flip () ?_ ?_ | (apply ex_flip6 <;> try dsimp only) | (apply ex_flip5 <;> try dsimp only) | (apply ex_flip4 <;> try dsimp only) | (apply ex_flip3 <;> try dsimp only) | (apply ex_flip2 <;> try dsimp only) | apply ex_flip | (refine Prod.forall.2 ?_; intro _; try dsimp only) | (intro _; try dsimp only))
  all_goals first
    | rfl
    | omega
    | exact okB0a (by assumption)
    | exact okB0b (by assumption) (by assumption) (by assumption)
    | exact okB1a (by assumption) (by omega) (by assumption)
    | exact okB1b (by assumption) (by assumption) (by assumption) (by assumption)
    | exact eI_init
    | (rw [sds_len]; omega)
    | skip
  all_goals try (repeat (rename x.1[Int.toNat _]? = some _ => hq; revert hq; rename x.1[Int.toNat _]? = some _ => hr; intro hq; rw [hr] at hq; cases hq))
  all_goals try (repeat (rename (Nd.kids _)[Int.toNat _]? = some _ => hq; revert hq; rename (Nd.kids _)[Int.toNat _]? = some _ => hr; intro hq; rw [hr] at hq; cases hq))
  all_goals try (rename (sds x.1 _)[Int.toNat _]? = some _ => hq; revert hq; rename (sds x.1 _)[Int.toNat _]? = some _ => hr2; intro hq; have hqq := hr2.symm.trans hq; simp only [Option.some.injEq] at hqq; subst hqq)
  all_goals try (have hke := eI_kid (by assumption) (by assumption) (by assumption) (by assumption))
  all_goals try (have hle := eI_len (by assumption) (by assumption) (by assumption))
  all_goals try (have hve := eI_v (by assumption))
  all_goals try (have hse := (show eI _ _ _ _ by assumption).2.1)
  all_goals first
    | omega
    | (rw [sds_len]; omega)
    | ((try simp only [i64max]); omega)
    | exact eI_next (by assumption) (by assumption) (by assumption) (by assumption) (by assumption) (by omega)
    | (rw [← eI_done (by omega) (by assumption) (by assumption) (by assumption) (by assumption)]; simp [*]; done)
    | exact eI_zero (by omega) (by assumption) (by assumption)
    | (rw [ndAt_of (by assumption)]; omega)
    | (congr 1; omega)
    | (simp only [room, sds_len, List.length_cons, List.length_nil]; omega)
    | skip)

def s_sDeepOf  : Sig := { X := List Nd × Int, args := fun x => [nds x.1, .int .i64 x.2], pre := fun x => okNds x.1 ∧ x.1.length ≤ 2 ^ 30, Y := Unit, post := fun x y => True, res := fun x y => .int .i64 (deepOf x.1 x.2), outs := fun x y => [.top, .top], keep := false }
theorem sDeepOf_vc (x : List Nd × Int) : vcFun Go.Proofs.Tryd.prog (Γof [(44, 0, s_l01In), (45, 0, s_l05Deeps)]) (Eof []) false (Lof ([])) Go.Proofs.Tryd.f23.ntmps Go.Proofs.Tryd.f23.results.toList (Go.Proofs.Tryd.f23.body.getD .skip) s_sDeepOf x = ((∀ (y : Unit), True → True ∧ True ∧ True ∧ True) ∧ inR IntKind.i64 ((↑(List.length x.fst) : Int) - (1 : Int)) ∧ ∃ (x_1 : Int × Int × Int), True ∧ x.snd = x_1.fst ∧ (0 : Int) = x_1.snd.fst ∧ (↑(List.length x.fst) : Int) - (1 : Int) = x_1.snd.snd ∧ ∀ (y : Unit), True → bcase (!inn x_1.fst x_1.snd.fst x_1.snd.snd) (∃ (y : Unit), True ∧ (0 : Int) = deepOf x.fst x.snd ∧ True) (∃ (x_2 : List Nd × Int), (okNds x_2.fst ∧ List.length x_2.fst ≤ (1073741824 : Nat) ∧ isNd x_2.fst x_2.snd = true) ∧ AV.sl false (0 : Nat) (4 : Nat) Nd (ndA false) x.fst = AV.sl false (0 : Nat) (4 : Nat) Nd (ndA false) x_2.fst ∧ x.snd = x_2.snd ∧ ∀ (y : Unit), True → ((0 : Int) ≤ x.snd ∧ x.snd < (↑(List.length (sds x_2.fst (Int.toNat x_2.snd + (1 : Nat)))) : Int)) ∧ Int.toNat x.snd < List.length (sds x_2.fst (Int.toNat x_2.snd + (1 : Nat))) ∧ ∀ (x_3 : Int), (sds x_2.fst (Int.toNat x_2.snd + (1 : Nat)))[Int.toNat x.snd]? = some x_3 → ∃ (y : Unit), True ∧ x_3 = deepOf x.fst x.snd ∧ True)) := by kernel_rfl
theorem sDeepOf_ok  : Contract Tryd.prog 23 s_sDeepOf :=
  vcFun_ok (Γ := Γof [(44, 0, s_l01In), (45, 0, s_l05Deeps)]) (E := Eof []) (ov := false) (L := fun x => Lof ([])) Tryd.func23 rfl (by decide) (Γof_ok (l := [(44, 0, s_l01In), (45, 0, s_l05Deeps)]) ⟨l01In_ok, l05Deeps_ok, trivial⟩) fun (x : List Nd × Int) (hx : okNds x.1 ∧ x.1.length ≤ 2 ^ 30) => (sDeepOf_vc  x).mpr (by
  obtain ⟨h1, h2⟩ := hx; have hl := h1.1
  (repeat' first | with_reducible rfl | exact True.intro | refine inR_i64 ?_ ?_ | with_reducible refine And.intro ?_ ?_ | with_reducible refine bcase_dec (fun _ => ?_) (fun _ => ?_) | with_reducible refine bcase_bne (fun _ => ?_) (fun _ => ?_) | with_reducible refine bcase_beq (fun _ => ?_) (fun _ => ?_) | with_reducible refine bcase_not (fun _ => ?_) (fun _ => ?_) | refine bcase_intro (fun _ => ?_) (fun _ => ?_) | refine sl_eq ?_ | refine ex_flip () ?_ ?_ | (apply ex_flip6 <;> try dsimp only) | (apply ex_flip5 <;> try dsimp only) | (apply ex_flip4 <;> try dsimp only) | (apply ex_flip3 <;> try dsimp only) | (apply ex_flip2 <;> try dsimp only) | apply ex_flip | (refine Prod.forall.2 ?_; intro _; try dsimp only) | (intro _; try dsimp only))
  all_goals first
    | exact h1
    | exact h2
    | ((try simp only [i64max]); omega)
    | (rw [isNd_inn] at *; exact dp_no (by assumption))
    | (have hh := (show inn x.2 0 (x.1.length - 1) = true by assumption); rw [isNd_inn] at hh; have := isNd_iff.1 hh; first | exact hh | omega | exact sds_deepOf hh (by assumption) | (rw [sds_len]; omega))
    | skip)

theorem tE_at2 {ns : List Nd} {i v : Int} (hv : (cnt ns.length (allKids ns))[i.toNat]? = some v) (h0 : 0 ≤ i) : ((allKids ns).count i : Int) = v := by
  have h : i.toNat < ns.length := by have := (getE hv).1; rwa [cnt_len] at this
  rw [cnt_at h] at hv
  have e2 : ((i.toNat : Nat) : Int) = i := by omega
  rw [e2] at hv; exact Option.some.inj hv
theorem tE_next2 {ns : List Nd} {i v : Int} (h : tE ns i) (hl : i + 1 < (ns.length : Int)) (hv : (cnt ns.length (allKids ns))[i.toNat]? = some v) (h1 : v = 1) : tE ns (i + 1) := by
  have := tE_at2 hv h.1
  refine ⟨by have := h.1; omega, by omega, fun c hc => ?_⟩
  by_cases e : (c : Int) < i
  · exact h.2.2 c e
  · have := h.1
    obtain rfl : i = (c : Int) := by omega
    omega
theorem yI_kid {ns : List Nd} {i j c : Int} {y : Nd} (h : tI ns) (hy : ns[i.toNat]? = some y) (hc : y.kids[j.toNat]? = some c) : 0 ≤ c ∧ c < ns.length := (tI_kids h hy).2 c (memE hc)
theorem yI_len {ns : List Nd} {i : Int} {y : Nd} (h : tI ns) (hy : ns[i.toNat]? = some y) : y.kids.length ≤ 12 := (tI_kids h hy).1
theorem yk_next {ns : List Nd} {i j c : Int} {y : Nd} (h0 : 0 ≤ j) (hy : ns[i.toNat]? = some y) (hc : y.kids[j.toNat]? = some c) : tk ns i (j + 1) = tk ns i j ++ [c] := tk_next h0 (by rw [ndAt_of hy]; exact hc)
theorem yk_done {ns : List Nd} {i j : Int} {y : Nd} (h0 : 0 ≤ i) (hy : ns[i.toNat]? = some y) (hl : ¬ j < y.kids.length) : tk ns i j = allKids (ns.take (i + 1).toNat) := tk_done h0 hy (by rw [ndAt_of hy]; exact hl)
def lsTree2 (x : List Nd) (o : Int) : LS := {
  ι := Int, inv := fun j => 0 ≤ j ∧ j ≤ (ndAt x o).kids.length,
  regs := fun j => [(0, nds x), (3, .int .i64 x.length), (4, oints (cnt x.length (tk x o j))), (5, .int .i64 o), (6, .int .i64 j)], als := [], meas := fun j => (ndAt x o).kids.length - j.toNat }
def lsTree (x : List Nd) : LS := {
  ι := Int, inv := fun i => 0 ≤ i ∧ i ≤ x.length,
  regs := fun i => [(0, nds x), (3, .int .i64 x.length), (4, oints (cnt x.length (allKids (x.take i.toNat)))), (5, .int .i64 i)], als := [], meas := fun i => x.length - i.toNat,
  sub := fun i => [(9, lsTree2 x i)] }
def lsTree3 (x : List Nd) : LS := {
  ι := Int, inv := tE x,
  regs := fun i => [(3, .int .i64 x.length), (4, oints (cnt x.length (allKids x))), (7, .int .i64 i)], als := [], meas := fun i => x.length - i.toNat }
def s_sTreeOk  : Sig := { X := List Nd, args := fun x => [nds x], pre := fun x => okNds x ∧ x.length ≤ 2 ^ 30, Y := Unit, post := fun x y => True, res := fun x y => .bool (treeOk x), outs := fun x y => [.top], keep := false }
theorem sTreeOk_vc (x : List Nd) : vcFun Go.Proofs.Tryd.prog (Γof [(44, 0, s_l01In), (23, 0, s_sDeepOf)]) (Eof [(39, ⟨Int,intA⟩)]) false (Lof ([(6,lsTree x), (13,lsTree3 x)])) Go.Proofs.Tryd.f37.ntmps Go.Proofs.Tryd.f37.results.toList (Go.Proofs.Tryd.f37.body.getD .skip) s_sTreeOk x = ((∀ (y : Unit), True → True ∧ True ∧ True) ∧ ∃ (x_1 : Int × Int × Int), True ∧ (↑(List.length x) : Int) = x_1.fst ∧ (1 : Int) = x_1.snd.fst ∧ (300 : Int) = x_1.snd.snd ∧ ∀ (y : Unit), True → bcase (!inn x_1.fst x_1.snd.fst x_1.snd.snd) (∃ (y : Unit), True ∧ false = treeOk x ∧ True) (inR IntKind.i64 ((↑(List.length x) : Int) - (1 : Int)) ∧ ((0 : Int) ≤ (↑(List.length x) : Int) - (1 : Int) ∧ (↑(List.length x) : Int) - (1 : Int) < (↑(List.length x) : Int)) ∧ ∀ (e : Nd), x[Int.toNat ((↑(List.length x) : Int) - (1 : Int))]? = some e → bcase (e.kind != (22 : Int)) (∃ (y : Unit), True ∧ false = treeOk x ∧ True) (inR IntKind.i64 ((↑(List.length x) : Int) - (1 : Int)) ∧ ∃ (x_2 : List Nd × Int), (okNds x_2.fst ∧ List.length x_2.fst ≤ (1073741824 : Nat)) ∧ AV.sl false (0 : Nat) (4 : Nat) Nd (ndA false) x = AV.sl false (0 : Nat) (4 : Nat) Nd (ndA false) x_2.fst ∧ (↑(List.length x) : Int) - (1 : Int) = x_2.snd ∧ ∀ (y : Unit), True → bcase (deepOf x_2.fst x_2.snd == (0 : Int)) (∃ (y : Unit), True ∧ false = treeOk x ∧ True) (((0 : Int) ≤ (↑(List.length x) : Int) ∧ (↑(List.length x) : Int) ≤ (↑(List.length x) : Int) ∧ (↑(8 : Nat) : Int) * (↑(List.length x) : Int) ≤ (2 : Int) ^ (46 : Nat) ∧ (↑(List.length x) : Int) ≤ (2 : Int) ^ (46 : Nat)) ∧ ∃ (x_3 : Int), (0 : Int) = x_3 ∧ (∃ (i : Int), ((0 : Int) ≤ i ∧ i ≤ (↑(List.length x) : Int)) ∧ (AV.sl false (0 : Nat) (4 : Nat) Nd (ndA false) x = AV.sl false (0 : Nat) (4 : Nat) Nd (ndA false) x ∧ (↑(List.length x) : Int) = (↑(List.length x) : Int) ∧ AV.sl true (0 : Nat) (1 : Nat) Int intA (List.replicate (Int.toNat (↑(List.length x) : Int)) x_3) = AV.sl true (0 : Nat) (1 : Nat) Int intA (cnt (List.length x) (allKids (List.take (Int.toNat i) x))) ∧ (0 : Int) = i ∧ True) ∧ True) ∧ ∀ (i : Int), (0 : Int) ≤ i ∧ i ≤ (↑(List.length x) : Int) → bcase (decide (i < (↑(List.length x) : Int))) ((∃ (i_1 : Int), ((0 : Int) ≤ i_1 ∧ i_1 ≤ (↑(List.length (ndAt x i).kids) : Int)) ∧ (AV.sl false (0 : Nat) (4 : Nat) Nd (ndA false) x = AV.sl false (0 : Nat) (4 : Nat) Nd (ndA false) x ∧ (↑(List.length x) : Int) = (↑(List.length x) : Int) ∧ AV.sl true (0 : Nat) (1 : Nat) Int intA (cnt (List.length x) (allKids (List.take (Int.toNat i) x))) = AV.sl true (0 : Nat) (1 : Nat) Int intA (cnt (List.length x) (tk x i i_1)) ∧ i = i ∧ (0 : Int) = i_1 ∧ True) ∧ True) ∧ ∀ (i_1 : Int), (0 : Int) ≤ i_1 ∧ i_1 ≤ (↑(List.length (ndAt x i).kids) : Int) → ((0 : Int) ≤ i ∧ i < (↑(List.length x) : Int)) ∧ ∀ (e : Nd), x[Int.toNat i]? = some e → bcase (decide (i_1 < (↑(List.length e.kids) : Int))) (((0 : Int) ≤ i ∧ i < (↑(List.length x) : Int)) ∧ ∀ (e : Nd), x[Int.toNat i]? = some e → ((0 : Int) ≤ i_1 ∧ i_1 < (↑(List.length e.kids) : Int)) ∧ ∀ (e_1 : Int), e.kids[Int.toNat i_1]? = some e_1 → ((0 : Int) ≤ e_1 ∧ e_1 < (↑(List.length (cnt (List.length x) (tk x i i_1))) : Int)) ∧ Int.toNat e_1 < List.length (cnt (List.length x) (tk x i i_1)) ∧ ∀ (x_4 : Int), (cnt (List.length x) (tk x i i_1))[Int.toNat e_1]? = some x_4 → inR IntKind.i64 (x_4 + (1 : Int)) ∧ ((0 : Int) ≤ e_1 ∧ e_1 < (↑(List.length (cnt (List.length x) (tk x i i_1))) : Int)) ∧ Int.toNat e_1 < List.length (cnt (List.length x) (tk x i i_1)) ∧ ∀ (x_5 : Int), (cnt (List.length x) (tk x i i_1))[Int.toNat e_1]? = some x_5 → ∃ (x' : Int), ((@List.nil AV) = [] ∧ (@List.nil AV) = []) ∧ x_4 + (1 : Int) = x' ∧ inR IntKind.i64 (i_1 + (1 : Int)) ∧ ∃ (i' : Int), ((0 : Int) ≤ i' ∧ i' ≤ (↑(List.length (ndAt x i).kids) : Int)) ∧ List.length (ndAt x i).kids - Int.toNat i' < List.length (ndAt x i).kids - Int.toNat i_1 ∧ (AV.sl false (0 : Nat) (4 : Nat) Nd (ndA false) x = AV.sl false (0 : Nat) (4 : Nat) Nd (ndA false) x ∧ (↑(List.length x) : Int) = (↑(List.length x) : Int) ∧ AV.sl true (0 : Nat) (1 : Nat) Int intA (List.set (cnt (List.length x) (tk x i i_1)) (Int.toNat e_1) x') = AV.sl true (0 : Nat) (1 : Nat) Int intA (cnt (List.length x) (tk x i i')) ∧ i = i ∧ i_1 + (1 : Int) = i' ∧ True) ∧ True) (inR IntKind.i64 (i + (1 : Int)) ∧ ∃ (i' : Int), ((0 : Int) ≤ i' ∧ i' ≤ (↑(List.length x) : Int)) ∧ List.length x - Int.toNat i' < List.length x - Int.toNat i ∧ (AV.sl false (0 : Nat) (4 : Nat) Nd (ndA false) x = AV.sl false (0 : Nat) (4 : Nat) Nd (ndA false) x ∧ (↑(List.length x) : Int) = (↑(List.length x) : Int) ∧ AV.sl true (0 : Nat) (1 : Nat) Int intA (cnt (List.length x) (tk x i i_1)) = AV.sl true (0 : Nat) (1 : Nat) Int intA (cnt (List.length x) (allKids (List.take (Int.toNat i') x))) ∧ i + (1 : Int) = i' ∧ True) ∧ True)) ((∃ (i_1 : Int), tE x i_1 ∧ ((↑(List.length x) : Int) = (↑(List.length x) : Int) ∧ AV.sl true (0 : Nat) (1 : Nat) Int intA (cnt (List.length x) (allKids (List.take (Int.toNat i) x))) = AV.sl true (0 : Nat) (1 : Nat) Int intA (cnt (List.length x) (allKids x)) ∧ (0 : Int) = i_1 ∧ True) ∧ True) ∧ ∀ (i : Int), tE x i → inR IntKind.i64 (i + (1 : Int)) ∧ bcase (decide (i + (1 : Int) < (↑(List.length x) : Int))) (((0 : Int) ≤ i ∧ i < (↑(List.length (cnt (List.length x) (allKids x))) : Int)) ∧ Int.toNat i < List.length (cnt (List.length x) (allKids x)) ∧ ∀ (x_4 : Int), (cnt (List.length x) (allKids x))[Int.toNat i]? = some x_4 → bcase (x_4 != (1 : Int)) (∃ (y : Unit), True ∧ false = treeOk x ∧ True) (inR IntKind.i64 (i + (1 : Int)) ∧ ∃ (i' : Int), tE x i' ∧ List.length x - Int.toNat i' < List.length x - Int.toNat i ∧ ((↑(List.length x) : Int) = (↑(List.length x) : Int) ∧ AV.sl true (0 : Nat) (1 : Nat) Int intA (cnt (List.length x) (allKids x)) = AV.sl true (0 : Nat) (1 : Nat) Int intA (cnt (List.length x) (allKids x)) ∧ i + (1 : Int) = i' ∧ True) ∧ True)) (∃ (y : Unit), True ∧ true = treeOk x ∧ True)))))) := by kernel_rfl
theorem sTreeOk_ok  : Contract Tryd.prog 37 s_sTreeOk :=
  vcFun_ok (Γ := Γof [(44, 0, s_l01In), (23, 0, s_sDeepOf)]) (E := Eof [(39, ⟨Int,intA⟩)]) (ov := false) (L := fun x => Lof ([(6,lsTree x), (13,lsTree3 x)])) Tryd.func37 rfl (by decide) (Γof_ok (l := [(44, 0, s_l01In), (23, 0, s_sDeepOf)]) ⟨l01In_ok, sDeepOf_ok, trivial⟩) fun (x : List Nd) (hx : okNds x ∧ x.length ≤ 2 ^ 30) => (sTreeOk_vc  x).mpr (by
  obtain ⟨h1, h2⟩ := hx; have hl := h1.1
  (repeat' first | with_reducible rfl | exact True.intro | refine inR_i64 ?_ ?_ | with_reducible refine And.intro ?_ ?_ | with_reducible refine bcase_dec (fun _ => ?_) (fun _ => ?_) | with_reducible refine bcase_bne (fun _ => ?_) (fun _ => ?_) | with_reducible refine bcase_beq (fun _ => ?_) (fun _ => ?_) | with_reducible refine bcase_not (fun _ => ?_) (fun _ => ?_) | refine bcase_intro (fun _ => ?_) (fun _ => ?_) | refine sl_eq ?_ | refine ex_flip () ?_ ?_ | (apply ex_flip6 <;> try dsimp only) | (apply ex_flip5 <;> try dsimp only) | (apply ex_flip4 <;> try dsimp only) | (apply ex_flip3 <;> try dsimp only) | (apply ex_flip2 <;> try dsimp only) | apply ex_flip | (refine Prod.forall.2 ?_; intro _; try dsimp only) | (intro _; try dsimp only))
  all_goals try (have t1 := inn_iff.1 (show inn x.length 1 300 = true by assumption))
  all_goals try (have t0 := tI_of (by assumption) (by assumption) (by assumption) (by assumption))
  all_goals try (repeat (rename x[Int.toNat _]? = some _ => hq; revert hq; rename x[Int.toNat _]? = some _ => hr; intro hq; rw [hr] at hq; cases hq))
  all_goals try (repeat (rename (Nd.kids _)[Int.toNat _]? = some _ => hq; revert hq; rename (Nd.kids _)[Int.toNat _]? = some _ => hr; intro hq; rw [hr] at hq; cases hq))
  all_goals try (simp only [ndAt_of (show x[Int.toNat _]? = some _ by assumption)] at *)
  all_goals first
    | rfl
    | exact treeOk_not (tI_inn (by assumption))
    | exact treeOk_not (tI_kind (by assumption) (by assumption))
    | exact treeOk_not (fun h => h.2.2.2 (by assumption))
    | exact cnt_nil
    | (rw [tk_init]; done)
    | (have := yI_kid (by assumption) (by assumption) (show (Nd.kids _)[Int.toNat _]? = some _ by assumption); (try rw [cnt_len]); omega)
    | (rw [yk_next (by omega) (by assumption) (by assumption)]; exact cnt_inc (yI_kid (by assumption) (by assumption) (by assumption)).1 (yI_kid (by assumption) (by assumption) (by assumption)).2 (by assumption))
    | (rw [yk_done (by omega) (by assumption) (by assumption)]; done)
    | (rw [tk_full (by assumption)]; done)
    | (have := tk_v (by assumption) (by assumption) (by assumption); omega)
    | exact treeOk_yes (by assumption) (by assumption) (by omega)
    | exact treeOk_no (tE_at2 (by assumption) (‹tE _ _›.1)) (‹tE _ _›.1) (by omega) (by assumption)
    | exact tE_next2 (by assumption) (by assumption) (by assumption) (by assumption)
    | exact ⟨by omega, by omega, fun c hc => by omega⟩
    | ((try simp only [i64max, room, List.length_replicate, cnt_len] at *); omega)
    | (have := yI_len (by assumption) (by assumption); (try simp only [i64max] at *); omega)
    | (have hte := (show tE x _ by assumption); have := hte.1; have := hte.2.1; (try rw [cnt_len]); (try simp only [i64max] at *); omega)
    | skip)

end Go.My
