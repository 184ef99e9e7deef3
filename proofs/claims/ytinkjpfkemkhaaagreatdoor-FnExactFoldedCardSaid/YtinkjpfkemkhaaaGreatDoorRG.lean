/- A part of the proof: the engine and the contracts, joined. -/
import Derived.Test.YtinkjpfkemkhaaaGreatDoorRF
import Derived.Test.YtinkjpfkemkhaaaGreatDoorProg
section
/- Depths and trees: the reference's functions. -/
set_option linter.unusedVariables false
set_option linter.unusedSimpArgs false
namespace Go.My
open Go.Eng Go.Proofs
variable {G : GInv}

/- the reference's depths: 0 from the first wrong node on -/
def sdp (ns : List Nd) (i : Nat) (ds : List Int) : Int :=
  if nodeOk ns i = true ∧ (i = 0 ∨ ds.getD (i - 1) 0 ≠ 0) then (if 14 ≤ mx ds (ndAt ns i).kids 0 then 0 else mx ds (ndAt ns i).kids 0 + 1) else 0
def sds (ns : List Nd) : Nat → List Int
  | 0 => []
  | n + 1 => sds ns n ++ [sdp ns n (sds ns n)]
theorem sds_len {ns : List Nd} : ∀ {n : Nat}, (sds ns n).length = n
  | 0 => rfl
  | n + 1 => by rw [sds, List.length_append, sds_len]; rfl
theorem sds_deeps {ns : List Nd} : ∀ {n : Nat}, (match deeps ns n with | some ds => sds ns n = ds | none => 0 < n ∧ (sds ns n).getD (n - 1) 0 = 0)
  | 0 => by simp [deeps, sds]
  | n + 1 => by
    have ih := @sds_deeps ns n
    unfold deeps
    cases hd : deeps ns n with
    | none =>
      rw [hd] at ih
      simp only
      refine ⟨by omega, ?_⟩
      have hz : sdp ns n (sds ns n) = 0 := by
        unfold sdp; rw [if_neg]; rintro ⟨_, h | h⟩
        · omega
        · exact h ih.2
      rw [sds, hz, List.getD, List.getElem?_append_right (by rw [sds_len]; omega), sds_len]; simp
    | some ds =>
      rw [hd] at ih
      simp only at ih ⊢
      by_cases hn : nodeOk ns n = true
      · rw [if_pos hn]
        have hprev : n = 0 ∨ (sds ns n).getD (n - 1) 0 ≠ 0 := by
          by_cases e : n = 0
          · exact .inl e
          · right
            rw [ih, List.getD]
            have hl := deeps_length hd
            have : ds[n - 1]? = some ds[n - 1] := by simp
            rw [this]; have := deeps_pos hd ds[n - 1] (by simp); simp; omega
        have hs : sdp ns n (sds ns n) = if 14 ≤ mx ds (ndAt ns n).kids 0 then 0 else mx ds (ndAt ns n).kids 0 + 1 := by
          unfold sdp; rw [if_pos ⟨hn, hprev⟩, ih]
        by_cases hm : 14 ≤ mx ds (ndAt ns n).kids 0
        · rw [if_pos hm]; simp only
          refine ⟨by omega, ?_⟩
          rw [sds, hs, if_pos hm, List.getD, List.getElem?_append_right (by rw [sds_len]; omega), sds_len]; simp
        · rw [if_neg hm]; simp only
          rw [sds, hs, if_neg hm, ih]
      · rw [if_neg hn]; simp only
        refine ⟨by omega, ?_⟩
        have hz : sdp ns n (sds ns n) = 0 := by unfold sdp; rw [if_neg (fun h => hn h.1)]
        rw [sds, hz, List.getD, List.getElem?_append_right (by rw [sds_len]; omega), sds_len]; simp
theorem sds_take {ns : List Nd} {n m : Nat} (h : n ≤ m) {i : Nat} (hi : i < n) : (sds ns m)[i]? = (sds ns n)[i]? := by
  induction m with
  | zero => omega
  | succ m ih =>
    by_cases e : n = m + 1
    · subst e; rfl
    · rw [sds, List.getElem?_append_left (by rw [sds_len]; omega), ih (by omega)]
theorem sds_deepOf {ns : List Nd} {k : Int} {v : Int} (h : isNd ns k = true) (hv : (sds ns (k.toNat + 1))[k.toNat]? = some v) : v = deepOf ns k := by
  have ih := @sds_deeps ns (k.toNat + 1)
  unfold deepOf; rw [if_pos h]
  cases hd : deeps ns (k.toNat + 1) with
  | none => rw [hd] at ih; simp only at ih ⊢; have := ih.2; rw [List.getD] at this; simp [hv] at this; exact this
  | some ds => rw [hd] at ih; simp only at ih ⊢; rw [← ih, List.getD, hv]; rfl
theorem sds_rng {ns : List Nd} : ∀ {n : Nat}, ∀ d ∈ sds ns n, 0 ≤ d ∧ d ≤ 14
  | 0, d, h => by simp [sds] at h
  | n + 1, d, h => by
    rw [sds] at h
    rcases List.mem_append.1 h with h | h
    · exact sds_rng d h
    · simp at h; subst h
      have := mx_ge (sds ns n) (ndAt ns n).kids 0
      unfold sdp; split
      · split <;> omega
      · omega
def okB (ns : List Nd) (i : Int) : Bool := nodeOk ns i && (decide (i = 0) || !decide ((sds ns i.toNat).getD (i.toNat - 1) 0 = 0))
theorem sdp_of {ns : List Nd} {i : Int} (h : 0 ≤ i) : sdp ns i.toNat (sds ns i.toNat) = if okB ns i then (if 14 ≤ mx (sds ns i.toNat) (ndAt ns i).kids 0 then 0 else mx (sds ns i.toNat) (ndAt ns i).kids 0 + 1) else 0 := by
  have e : ((i.toNat : Nat) : Int) = i := by omega
  unfold sdp; rw [e]
  have hb : okB ns i = true ↔ nodeOk ns i = true ∧ (i.toNat = 0 ∨ (sds ns i.toNat).getD (i.toNat - 1) 0 ≠ 0) := by
    unfold okB
    simp only [Bool.and_eq_true, Bool.or_eq_true, decide_eq_true_eq, Bool.not_eq_true', decide_eq_false_iff_not]
    constructor
    · rintro ⟨h1, h2⟩; exact ⟨h1, h2.imp (fun h => by omega) id⟩
    · rintro ⟨h1, h2⟩; exact ⟨h1, h2.imp (fun h => by omega) id⟩
  by_cases h1 : okB ns i = true
  · rw [if_pos h1, if_pos (hb.1 h1)]
  · rw [if_neg h1, if_neg (fun h2 => h1 (hb.2 h2))]
def eI (ns : List Nd) (i j d : Int) : Prop := (okB ns i = true → j ≤ (ndAt ns i).kids.length ∧ 1 ≤ d ∧ d ≤ 15 ∧ mx (sds ns i.toNat) ((ndAt ns i).kids.drop j.toNat) (d - 1) = mx (sds ns i.toNat) (ndAt ns i).kids 0) ∧ 0 ≤ j ∧ (okB ns i = false → d = 0)
theorem eI_init {ns : List Nd} {i : Int} : eI ns i 0 (if okB ns i then 1 else 0) := by
  refine ⟨fun h => ?_, by omega, fun h => ?_⟩
  · rw [if_pos h]; refine ⟨by omega, by omega, by omega, by simp⟩
  · rw [h]; rfl
theorem eI_ok {ns : List Nd} {i j d : Int} (h : eI ns i j d) (hd : d > 0) : okB ns i = true := by
  cases hb : okB ns i
  · have := h.2.2 hb; omega
  · rfl
theorem okB_ok {ns : List Nd} {i : Int} (h : okB ns i = true) : nodeOk ns i = true := by
  simp only [okB, Bool.and_eq_true] at h; exact h.1
theorem eI_kid {ns : List Nd} {i j d c : Int} {y : Nd} (h : eI ns i j d) (hd : d > 0) (hy : ns[i.toNat]? = some y) (hc : y.kids[j.toNat]? = some c) : 0 ≤ c ∧ c < i := by
  have := (nodeOk_parts (okB_ok (eI_ok h hd))).2.2.2.1
  rw [ndAt_of hy] at this; exact this c (memE hc)
theorem eI_len {ns : List Nd} {i j d : Int} {y : Nd} (h : eI ns i j d) (hd : d > 0) (hy : ns[i.toNat]? = some y) : y.kids.length ≤ 12 := by
  have := (nodeOk_parts (okB_ok (eI_ok h hd))).2.1
  rwa [ndAt_of hy] at this
theorem eI_next {ns : List Nd} {i j d c v d' : Int} {y : Nd} (h : eI ns i j d) (hd : d > 0) (hy : ns[i.toNat]? = some y) (hc : y.kids[j.toNat]? = some c) (hv : (sds ns i.toNat)[c.toNat]? = some v) (hd' : d' - 1 = max (d - 1) v) : eI ns i (j + 1) d' := by
  have hb := eI_ok h hd
  obtain ⟨h1, h2, h3, h4⟩ := h.1 hb
  have h0 := h.2.1
  have hr := sds_rng v (memE hv)
  rw [ndAt_of hy] at h4 h1
  have := (getE hc).1
  refine ⟨fun _ => ?_, by omega, fun hh => by rw [hb] at hh; cases hh⟩
  rw [ndAt_of hy]
  refine ⟨by omega, by omega, by omega, ?_⟩
  rw [← h4, dropE hc, toNat1 h0, mx, List.getD, hv, Option.getD_some, hd']
theorem eI_v {ns : List Nd} {i : Int} {c : Nat} {v : Int} (hv : (sds ns i.toNat)[c]? = some v) : 0 ≤ v ∧ v ≤ 14 := sds_rng v (memE hv)
theorem eI_done {ns : List Nd} {i j d : Int} {y : Nd} (hi : 0 ≤ i) (h : eI ns i j d) (hd : d > 0) (hy : ns[i.toNat]? = some y) (hl : ¬ j < y.kids.length) : sds ns i.toNat ++ [if d > 14 then 0 else d] = sds ns (i + 1).toNat := by
  have hb := eI_ok h hd
  obtain ⟨h1, h2, h3, h4⟩ := h.1 hb
  rw [ndAt_of hy, List.drop_eq_nil_of_le (by omega), mx] at h4
  rw [toNat1 hi, sds, sdp_of hi, if_pos hb, ndAt_of hy, ← h4]
  congr 2
  by_cases h5 : d > 14
  · rw [if_pos h5, if_pos (by omega)]
  · rw [if_neg h5, if_neg (by omega)]; omega
theorem eI_zero {ns : List Nd} {i j d : Int} (hi : 0 ≤ i) (h : eI ns i j d) (hd : ¬ d > 0) : sds ns i.toNat ++ [d] = sds ns (i + 1).toNat := by
  have hb : okB ns i = false := by
    cases hb : okB ns i
    · rfl
    · have := (h.1 hb).2.1; omega
  rw [toNat1 hi, sds, sdp_of hi, hb, h.2.2 hb]; rfl
theorem okB0a {ns : List Nd} {i : Int} (h : nodeOk ns i = false) : 0 = if okB ns i = true then (1 : Int) else 0 := by simp [okB, h]
theorem okB0b {ns : List Nd} {i v : Int} (h : i > 0) (hv : (sds ns i.toNat)[(i - 1).toNat]? = some v) (h0 : v = 0) : 0 = if okB ns i = true then (1 : Int) else 0 := by
  have e : (i - 1).toNat = i.toNat - 1 := by omega
  rw [e] at hv; subst h0
  have : (sds ns i.toNat).getD (i.toNat - 1) 0 = 0 := by rw [List.getD, hv]; rfl
  simp only [okB, this, decide_true, Bool.not_true, Bool.or_false]
  rw [decide_eq_false (by omega)]; simp
theorem okB1a {ns : List Nd} {i : Int} (h : nodeOk ns i = true) (h0 : 0 ≤ i) (h1 : ¬ i > 0) : 1 = if okB ns i = true then (1 : Int) else 0 := by
  obtain rfl : i = 0 := by omega
  simp [okB, h]
theorem okB1b {ns : List Nd} {i v : Int} (h : nodeOk ns i = true) (h0 : i > 0) (hv : (sds ns i.toNat)[(i - 1).toNat]? = some v) (h1 : v ≠ 0) : 1 = if okB ns i = true then (1 : Int) else 0 := by
  have e : (i - 1).toNat = i.toNat - 1 := by omega
  rw [e] at hv
  have : (sds ns i.toNat).getD (i.toNat - 1) 0 ≠ 0 := by rw [List.getD, hv]; exact h1
  simp only [okB, h, this, decide_false, Bool.not_false, Bool.or_true, Bool.and_true, if_true]
def lDs2 (x : List Nd × Int) (o : Int) : LS := {
  ι := Int × Int, inv := fun i => eI x.1 o i.1 i.2,
  regs := fun i => [(0, nds x.1), (1, .int .i64 x.2), (5, oints (sds x.1 o.toNat)), (6, .int .i64 o), (7, .int .i64 i.2), (8, .int .i64 i.1)], als := [], meas := fun i => (ndAt x.1 o).kids.length - i.1.toNat }
def lDsJ (x : List Nd × Int) (o : Int) : LS := {
  ι := Unit, inv := fun _ => True,
  regs := fun i => [(0, nds x.1), (1, .int .i64 x.2), (5, oints (sds x.1 o.toNat)), (6, .int .i64 o), (7, .int .i64 (if okB x.1 o then 1 else 0))], als := [], meas := fun i => 0 }
def lDs (x : List Nd × Int) : LS := {
  ι := Int, inv := fun i => 0 ≤ i ∧ i ≤ x.2 + 1,
  regs := fun i => [(0, nds x.1), (1, .int .i64 x.2), (5, oints (sds x.1 i.toNat)), (6, .int .i64 i)], als := [], meas := fun i => (x.2 + 1 - i).toNat, sub := fun i => [(9, lDs2 x i), (200008, lDsJ x i)] }
def s_l05Deeps  : Sig := { X := List Nd × Int, args := fun x => [nds x.1, .int .i64 x.2], pre := fun x => okNds x.1 ∧ x.1.length ≤ 2 ^ 30 ∧ isNd x.1 x.2 = true, Y := Unit, post := fun x y => True, res := fun x y => oints (sds x.1 (x.2.toNat + 1)), outs := fun x y => [.top, .top], keep := false }
theorem l05Deeps_vc (x : List Nd × Int) : vcFun Go.Proofs.Tryz.prog (Γof [(170, 0, s_sNodeOk)]) (Eof [(39, ⟨Int,intA⟩)]) false (Lof ([(3,lDs x)])) Go.Proofs.Tryz.f138.ntmps Go.Proofs.Tryz.f138.results.toList (Go.Proofs.Tryz.f138.body.getD .skip) s_l05Deeps x = ((∀ (y : Unit), True → (∀ (x : Int), True ∧ True) ∧ True ∧ True ∧ True) ∧ (∃ (i : Int), ((0 : Int) ≤ i ∧ i ≤ x.snd + (1 : Int)) ∧ (AV.sl false (0 : Nat) (4 : Nat) Nd (ndA false) x.fst = AV.sl false (0 : Nat) (4 : Nat) Nd (ndA false) x.fst ∧ x.snd = x.snd ∧ AV.sl true (0 : Nat) (1 : Nat) Int intA [] = AV.sl true (0 : Nat) (1 : Nat) Int intA (sds x.fst (Int.toNat i)) ∧ (0 : Int) = i ∧ True) ∧ True) ∧ ∀ (i : Int), (0 : Int) ≤ i ∧ i ≤ x.snd + (1 : Int) → bcase (decide (i ≤ x.snd)) (bcase (decide (i < (↑(List.length x.fst) : Int))) ((∃ (x_1 : List Nd × Int), okNds x_1.fst ∧ AV.sl false (0 : Nat) (4 : Nat) Nd (ndA false) x.fst = AV.sl false (0 : Nat) (4 : Nat) Nd (ndA false) x_1.fst ∧ i = x_1.snd ∧ ∀ (y : Unit), True → bcase (!nodeOk x_1.fst x_1.snd) (∃ (i_1 : Unit), True ∧ (AV.sl false (0 : Nat) (4 : Nat) Nd (ndA false) x.fst = AV.sl false (0 : Nat) (4 : Nat) Nd (ndA false) x.fst ∧ x.snd = x.snd ∧ AV.sl true (0 : Nat) (1 : Nat) Int intA (sds x.fst (Int.toNat i)) = AV.sl true (0 : Nat) (1 : Nat) Int intA (sds x.fst (Int.toNat i)) ∧ i = i ∧ ((0 : Int) = if okB x.fst i = true then (1 : Int) else (0 : Int)) ∧ True) ∧ True) (bcase (decide (i > (0 : Int))) (inR IntKind.i64 (i - (1 : Int)) ∧ ((0 : Int) ≤ i - (1 : Int) ∧ i - (1 : Int) < (↑(List.length (sds x.fst (Int.toNat i))) : Int)) ∧ Int.toNat (i - (1 : Int)) < List.length (sds x.fst (Int.toNat i)) ∧ ∀ (x_2 : Int), (sds x.fst (Int.toNat i))[Int.toNat (i - (1 : Int))]? = some x_2 → bcase (x_2 == (0 : Int)) (∃ (i_1 : Unit), True ∧ (AV.sl false (0 : Nat) (4 : Nat) Nd (ndA false) x.fst = AV.sl false (0 : Nat) (4 : Nat) Nd (ndA false) x.fst ∧ x.snd = x.snd ∧ AV.sl true (0 : Nat) (1 : Nat) Int intA (sds x.fst (Int.toNat i)) = AV.sl true (0 : Nat) (1 : Nat) Int intA (sds x.fst (Int.toNat i)) ∧ i = i ∧ ((0 : Int) = if okB x.fst i = true then (1 : Int) else (0 : Int)) ∧ True) ∧ True) (∃ (i_1 : Unit), True ∧ (AV.sl false (0 : Nat) (4 : Nat) Nd (ndA false) x.fst = AV.sl false (0 : Nat) (4 : Nat) Nd (ndA false) x.fst ∧ x.snd = x.snd ∧ AV.sl true (0 : Nat) (1 : Nat) Int intA (sds x.fst (Int.toNat i)) = AV.sl true (0 : Nat) (1 : Nat) Int intA (sds x.fst (Int.toNat i)) ∧ i = i ∧ ((1 : Int) = if okB x.fst i = true then (1 : Int) else (0 : Int)) ∧ True) ∧ True)) (∃ (i_1 : Unit), True ∧ (AV.sl false (0 : Nat) (4 : Nat) Nd (ndA false) x.fst = AV.sl false (0 : Nat) (4 : Nat) Nd (ndA false) x.fst ∧ x.snd = x.snd ∧ AV.sl true (0 : Nat) (1 : Nat) Int intA (sds x.fst (Int.toNat i)) = AV.sl true (0 : Nat) (1 : Nat) Int intA (sds x.fst (Int.toNat i)) ∧ i = i ∧ ((1 : Int) = if okB x.fst i = true then (1 : Int) else (0 : Int)) ∧ True) ∧ True))) ∧ ∀ (i_1 : Unit), True → (∃ (i_2 : Int × Int), eI x.fst i i_2.fst i_2.snd ∧ (AV.sl false (0 : Nat) (4 : Nat) Nd (ndA false) x.fst = AV.sl false (0 : Nat) (4 : Nat) Nd (ndA false) x.fst ∧ x.snd = x.snd ∧ AV.sl true (0 : Nat) (1 : Nat) Int intA (sds x.fst (Int.toNat i)) = AV.sl true (0 : Nat) (1 : Nat) Int intA (sds x.fst (Int.toNat i)) ∧ i = i ∧ (if okB x.fst i = true then (1 : Int) else (0 : Int)) = i_2.snd ∧ (0 : Int) = i_2.fst ∧ True) ∧ True) ∧ ∀ (i_2 : Int × Int), eI x.fst i i_2.fst i_2.snd → bcase (decide (i_2.snd > (0 : Int))) (((0 : Int) ≤ i ∧ i < (↑(List.length x.fst) : Int)) ∧ ∀ (e : Nd), x.fst[Int.toNat i]? = some e → bcase (decide (i_2.fst < (↑(List.length e.kids) : Int))) (((0 : Int) ≤ i ∧ i < (↑(List.length x.fst) : Int)) ∧ ∀ (e : Nd), x.fst[Int.toNat i]? = some e → ((0 : Int) ≤ i_2.fst ∧ i_2.fst < (↑(List.length e.kids) : Int)) ∧ ∀ (e_1 : Int), e.kids[Int.toNat i_2.fst]? = some e_1 → ((0 : Int) ≤ e_1 ∧ e_1 < (↑(List.length (sds x.fst (Int.toNat i))) : Int)) ∧ Int.toNat e_1 < List.length (sds x.fst (Int.toNat i)) ∧ ∀ (x_1 : Int), (sds x.fst (Int.toNat i))[Int.toNat e_1]? = some x_1 → inR IntKind.i64 (x_1 + (1 : Int)) ∧ bcase (decide (x_1 + (1 : Int) > i_2.snd)) (((0 : Int) ≤ i ∧ i < (↑(List.length x.fst) : Int)) ∧ ∀ (e : Nd), x.fst[Int.toNat i]? = some e → ((0 : Int) ≤ i_2.fst ∧ i_2.fst < (↑(List.length e.kids) : Int)) ∧ ∀ (e_2 : Int), e.kids[Int.toNat i_2.fst]? = some e_2 → ((0 : Int) ≤ e_2 ∧ e_2 < (↑(List.length (sds x.fst (Int.toNat i))) : Int)) ∧ Int.toNat e_2 < List.length (sds x.fst (Int.toNat i)) ∧ ∀ (x_2 : Int), (sds x.fst (Int.toNat i))[Int.toNat e_2]? = some x_2 → inR IntKind.i64 (x_2 + (1 : Int)) ∧ inR IntKind.i64 (i_2.fst + (1 : Int)) ∧ ∃ (i' : Int × Int), eI x.fst i i'.fst i'.snd ∧ List.length (ndAt x.fst i).kids - Int.toNat i'.fst < List.length (ndAt x.fst i).kids - Int.toNat i_2.fst ∧ (AV.sl false (0 : Nat) (4 : Nat) Nd (ndA false) x.fst = AV.sl false (0 : Nat) (4 : Nat) Nd (ndA false) x.fst ∧ x.snd = x.snd ∧ AV.sl true (0 : Nat) (1 : Nat) Int intA (sds x.fst (Int.toNat i)) = AV.sl true (0 : Nat) (1 : Nat) Int intA (sds x.fst (Int.toNat i)) ∧ i = i ∧ x_2 + (1 : Int) = i'.snd ∧ i_2.fst + (1 : Int) = i'.fst ∧ True) ∧ True) (inR IntKind.i64 (i_2.fst + (1 : Int)) ∧ ∃ (i' : Int × Int), eI x.fst i i'.fst i'.snd ∧ List.length (ndAt x.fst i).kids - Int.toNat i'.fst < List.length (ndAt x.fst i).kids - Int.toNat i_2.fst ∧ (AV.sl false (0 : Nat) (4 : Nat) Nd (ndA false) x.fst = AV.sl false (0 : Nat) (4 : Nat) Nd (ndA false) x.fst ∧ x.snd = x.snd ∧ AV.sl true (0 : Nat) (1 : Nat) Int intA (sds x.fst (Int.toNat i)) = AV.sl true (0 : Nat) (1 : Nat) Int intA (sds x.fst (Int.toNat i)) ∧ i = i ∧ i_2.snd = i'.snd ∧ i_2.fst + (1 : Int) = i'.fst ∧ True) ∧ True)) (bcase (decide (i_2.snd > (14 : Int))) (∃ (x_1 : Int), (0 : Int) = x_1 ∧ ∃ (zs : List Int), AV.sl true (0 : Nat) (1 : Nat) Int intA [x_1] = AV.sl true (0 : Nat) (1 : Nat) Int intA zs ∧ leafy intA ∧ room (List.length (sds x.fst (Int.toNat i)) + List.length zs) (8 : Nat) ∧ inR IntKind.i64 (i + (1 : Int)) ∧ ∃ (i' : Int), ((0 : Int) ≤ i' ∧ i' ≤ x.snd + (1 : Int)) ∧ Int.toNat (x.snd + (1 : Int) - i') < Int.toNat (x.snd + (1 : Int) - i) ∧ (AV.sl false (0 : Nat) (4 : Nat) Nd (ndA false) x.fst = AV.sl false (0 : Nat) (4 : Nat) Nd (ndA false) x.fst ∧ x.snd = x.snd ∧ AV.sl true (0 : Nat) (1 : Nat) Int intA (sds x.fst (Int.toNat i) ++ zs) = AV.sl true (0 : Nat) (1 : Nat) Int intA (sds x.fst (Int.toNat i')) ∧ i + (1 : Int) = i' ∧ True) ∧ True) (∃ (x_1 : Int), i_2.snd = x_1 ∧ ∃ (zs : List Int), AV.sl true (0 : Nat) (1 : Nat) Int intA [x_1] = AV.sl true (0 : Nat) (1 : Nat) Int intA zs ∧ leafy intA ∧ room (List.length (sds x.fst (Int.toNat i)) + List.length zs) (8 : Nat) ∧ inR IntKind.i64 (i + (1 : Int)) ∧ ∃ (i' : Int), ((0 : Int) ≤ i' ∧ i' ≤ x.snd + (1 : Int)) ∧ Int.toNat (x.snd + (1 : Int) - i') < Int.toNat (x.snd + (1 : Int) - i) ∧ (AV.sl false (0 : Nat) (4 : Nat) Nd (ndA false) x.fst = AV.sl false (0 : Nat) (4 : Nat) Nd (ndA false) x.fst ∧ x.snd = x.snd ∧ AV.sl true (0 : Nat) (1 : Nat) Int intA (sds x.fst (Int.toNat i) ++ zs) = AV.sl true (0 : Nat) (1 : Nat) Int intA (sds x.fst (Int.toNat i')) ∧ i + (1 : Int) = i' ∧ True) ∧ True))) (bcase (decide (i_2.snd > (14 : Int))) (∃ (x_1 : Int), (0 : Int) = x_1 ∧ ∃ (zs : List Int), AV.sl true (0 : Nat) (1 : Nat) Int intA [x_1] = AV.sl true (0 : Nat) (1 : Nat) Int intA zs ∧ leafy intA ∧ room (List.length (sds x.fst (Int.toNat i)) + List.length zs) (8 : Nat) ∧ inR IntKind.i64 (i + (1 : Int)) ∧ ∃ (i' : Int), ((0 : Int) ≤ i' ∧ i' ≤ x.snd + (1 : Int)) ∧ Int.toNat (x.snd + (1 : Int) - i') < Int.toNat (x.snd + (1 : Int) - i) ∧ (AV.sl false (0 : Nat) (4 : Nat) Nd (ndA false) x.fst = AV.sl false (0 : Nat) (4 : Nat) Nd (ndA false) x.fst ∧ x.snd = x.snd ∧ AV.sl true (0 : Nat) (1 : Nat) Int intA (sds x.fst (Int.toNat i) ++ zs) = AV.sl true (0 : Nat) (1 : Nat) Int intA (sds x.fst (Int.toNat i')) ∧ i + (1 : Int) = i' ∧ True) ∧ True) (∃ (x_1 : Int), i_2.snd = x_1 ∧ ∃ (zs : List Int), AV.sl true (0 : Nat) (1 : Nat) Int intA [x_1] = AV.sl true (0 : Nat) (1 : Nat) Int intA zs ∧ leafy intA ∧ room (List.length (sds x.fst (Int.toNat i)) + List.length zs) (8 : Nat) ∧ inR IntKind.i64 (i + (1 : Int)) ∧ ∃ (i' : Int), ((0 : Int) ≤ i' ∧ i' ≤ x.snd + (1 : Int)) ∧ Int.toNat (x.snd + (1 : Int) - i') < Int.toNat (x.snd + (1 : Int) - i) ∧ (AV.sl false (0 : Nat) (4 : Nat) Nd (ndA false) x.fst = AV.sl false (0 : Nat) (4 : Nat) Nd (ndA false) x.fst ∧ x.snd = x.snd ∧ AV.sl true (0 : Nat) (1 : Nat) Int intA (sds x.fst (Int.toNat i) ++ zs) = AV.sl true (0 : Nat) (1 : Nat) Int intA (sds x.fst (Int.toNat i')) ∧ i + (1 : Int) = i' ∧ True) ∧ True))) (∃ (y : Unit), True ∧ AV.sl true (0 : Nat) (1 : Nat) Int intA (sds x.fst (Int.toNat i)) = AV.sl true (0 : Nat) (1 : Nat) Int intA (sds x.fst (Int.toNat x.snd + (1 : Nat))) ∧ True)) (∃ (y : Unit), True ∧ AV.sl true (0 : Nat) (1 : Nat) Int intA (sds x.fst (Int.toNat i)) = AV.sl true (0 : Nat) (1 : Nat) Int intA (sds x.fst (Int.toNat x.snd + (1 : Nat))) ∧ True)) := by kernel_rfl
theorem l05Deeps_ok  : Contract G Tryz.prog 138 s_l05Deeps :=
  vcFun_ok (Γ := Γof [(170, 0, s_sNodeOk)]) (E := Eof [(39, ⟨Int,intA⟩)]) (ov := false) (L := fun x => Lof ([(3,lDs x)])) Tryz.func138 rfl (by decide) (Γof_ok (l := [(170, 0, s_sNodeOk)]) ⟨sNodeOk_ok, trivial⟩) fun (x : List Nd × Int) (hx : okNds x.1 ∧ x.1.length ≤ 2 ^ 30 ∧ isNd x.1 x.2 = true) => (l05Deeps_vc  x).mpr (by
  obtain ⟨h1, h2, h3⟩ := hx; have hl := h1.1; have hn := isNd_iff.1 h3
  (repeat' first | with_reducible rfl | exact True.intro | refine inR_i64 ?_ ?_ | with_reducible refine And.intro ?_ ?_ | with_reducible refine bcase_dec (fun _ => ?_) (fun _ => ?_) | with_reducible refine bcase_bne (fun _ => ?_) (fun _ => ?_) | with_reducible refine bcase_beq (fun _ => ?_) (fun _ => ?_) | with_reducible refine bcase_not (fun _ => ?_) (fun _ => ?_) | refine bcase_intro (fun _ => ?_) (fun _ => ?_) | refine sl_eq ?_ | refine ex_flip () ?_ ?_ | (apply ex_flip6 <;> try dsimp only) | (apply ex_flip5 <;> try dsimp only) | (apply ex_flip4 <;> try dsimp only) | (apply ex_flip3 <;> try dsimp only) | (apply ex_flip2 <;> try dsimp only) | apply ex_flip | (refine Prod.forall.2 ?_; intro _; try dsimp only) | (intro _; try dsimp only))
  all_goals first
    | rfl
    | omega
    | exact okB0a (by assumption)
    | exact okB0b (by assumption) (by assumption) (by assumption)
    | exact okB1a (by assumption) (by omega) (by assumption)
    | exact okB1b (by assumption) (by assumption) (by assumption) (by assumption)
    | exact eI_init
    | (rw [sds_len]; omega)
    | skip
  all_goals try (repeat (rename x.1[Int.toNat _]? = some _ => hq; revert hq; rename x.1[Int.toNat _]? = some _ => hr; intro hq; rw [hr] at hq; cases hq))
  all_goals try (repeat (rename (Nd.kids _)[Int.toNat _]? = some _ => hq; revert hq; rename (Nd.kids _)[Int.toNat _]? = some _ => hr; intro hq; rw [hr] at hq; cases hq))
  all_goals try (rename (sds x.1 _)[Int.toNat _]? = some _ => hq; revert hq; rename (sds x.1 _)[Int.toNat _]? = some _ => hr2; intro hq; have hqq := hr2.symm.trans hq; simp only [Option.some.injEq] at hqq; subst hqq)
  all_goals try (have hke := eI_kid (by assumption) (by assumption) (by assumption) (by assumption))
  all_goals try (have hle := eI_len (by assumption) (by assumption) (by assumption))
  all_goals try (have hve := eI_v (by assumption))
  all_goals try (have hse := (show eI _ _ _ _ by assumption).2.1)
  all_goals first
    | omega
    | (rw [sds_len]; omega)
    | ((try simp only [i64max]); omega)
    | exact eI_next (by assumption) (by assumption) (by assumption) (by assumption) (by assumption) (by omega)
    | (rw [← eI_done (by omega) (by assumption) (by assumption) (by assumption) (by assumption)]; simp [*]; done)
    | exact eI_zero (by omega) (by assumption) (by assumption)
    | (rw [ndAt_of (by assumption)]; omega)
    | (congr 1; omega)
    | (simp only [room, sds_len, List.length_cons, List.length_nil]; omega)
    | skip)

def s_sDeepOf  : Sig := { X := List Nd × Int, args := fun x => [nds x.1, .int .i64 x.2], pre := fun x => okNds x.1 ∧ x.1.length ≤ 2 ^ 30, Y := Unit, post := fun x y => True, res := fun x y => .int .i64 (deepOf x.1 x.2), outs := fun x y => [.top, .top], keep := false }
theorem sDeepOf_vc (x : List Nd × Int) : vcFun Go.Proofs.Tryz.prog (Γof [(84, 0, s_l01In), (138, 0, s_l05Deeps)]) (Eof []) false (Lof ([])) Go.Proofs.Tryz.f82.ntmps Go.Proofs.Tryz.f82.results.toList (Go.Proofs.Tryz.f82.body.getD .skip) s_sDeepOf x = ((∀ (y : Unit), True → True ∧ True ∧ True ∧ True) ∧ inR IntKind.i64 ((↑(List.length x.fst) : Int) - (1 : Int)) ∧ ∃ (x_1 : Int × Int × Int), True ∧ x.snd = x_1.fst ∧ (0 : Int) = x_1.snd.fst ∧ (↑(List.length x.fst) : Int) - (1 : Int) = x_1.snd.snd ∧ ∀ (y : Unit), True → bcase (!inn x_1.fst x_1.snd.fst x_1.snd.snd) (∃ (y : Unit), True ∧ (0 : Int) = deepOf x.fst x.snd ∧ True) (∃ (x_2 : List Nd × Int), (okNds x_2.fst ∧ List.length x_2.fst ≤ (1073741824 : Nat) ∧ isNd x_2.fst x_2.snd = true) ∧ AV.sl false (0 : Nat) (4 : Nat) Nd (ndA false) x.fst = AV.sl false (0 : Nat) (4 : Nat) Nd (ndA false) x_2.fst ∧ x.snd = x_2.snd ∧ ∀ (y : Unit), True → ((0 : Int) ≤ x.snd ∧ x.snd < (↑(List.length (sds x_2.fst (Int.toNat x_2.snd + (1 : Nat)))) : Int)) ∧ Int.toNat x.snd < List.length (sds x_2.fst (Int.toNat x_2.snd + (1 : Nat))) ∧ ∀ (x_3 : Int), (sds x_2.fst (Int.toNat x_2.snd + (1 : Nat)))[Int.toNat x.snd]? = some x_3 → ∃ (y : Unit), True ∧ x_3 = deepOf x.fst x.snd ∧ True)) := by kernel_rfl
theorem sDeepOf_ok  : Contract G Tryz.prog 82 s_sDeepOf :=
  vcFun_ok (Γ := Γof [(84, 0, s_l01In), (138, 0, s_l05Deeps)]) (E := Eof []) (ov := false) (L := fun x => Lof ([])) Tryz.func82 rfl (by decide) (Γof_ok (l := [(84, 0, s_l01In), (138, 0, s_l05Deeps)]) ⟨l01In_ok, l05Deeps_ok, trivial⟩) fun (x : List Nd × Int) (hx : okNds x.1 ∧ x.1.length ≤ 2 ^ 30) => (sDeepOf_vc  x).mpr (by
  obtain ⟨h1, h2⟩ := hx; have hl := h1.1
  (repeat' first | with_reducible rfl | exact True.intro | refine inR_i64 ?_ ?_ | with_reducible refine And.intro ?_ ?_ | with_reducible refine bcase_dec (fun _ => ?_) (fun _ => ?_) | with_reducible refine bcase_bne (fun _ => ?_) (fun _ => ?_) | with_reducible refine bcase_beq (fun _ => ?_) (fun _ => ?_) | with_reducible refine bcase_not (fun _ => ?_) (fun _ => ?_) | refine bcase_intro (fun _ => ?_) (fun _ => ?_) | refine sl_eq ?_ | refine ex_flip () ?_ ?_ | (apply ex_flip6 <;> try dsimp only) | (apply ex_flip5 <;> try dsimp only) | (apply ex_flip4 <;> try dsimp only) | (apply ex_flip3 <;> try dsimp only) | (apply ex_flip2 <;> try dsimp only) | apply ex_flip | (refine Prod.forall.2 ?_; intro _; try dsimp only) | (intro _; try dsimp only))
  all_goals first
    | exact h1
    | exact h2
    | ((try simp only [i64max]); omega)
    | (rw [isNd_inn] at *; exact dp_no (by assumption))
    | (have hh := (show inn x.2 0 (x.1.length - 1) = true by assumption); rw [isNd_inn] at hh; have := isNd_iff.1 hh; first | exact hh | omega | exact sds_deepOf hh (by assumption) | (rw [sds_len]; omega))
    | skip)

theorem tE_at2 {ns : List Nd} {i v : Int} (hv : (cnt ns.length (allKids ns))[i.toNat]? = some v) (h0 : 0 ≤ i) : ((allKids ns).count i : Int) = v := by
  have h : i.toNat < ns.length := by have := (getE hv).1; rwa [cnt_len] at this
  rw [cnt_at h] at hv
  have e2 : ((i.toNat : Nat) : Int) = i := by omega
  rw [e2] at hv; exact Option.some.inj hv
theorem tE_next2 {ns : List Nd} {i v : Int} (h : tE ns i) (hl : i + 1 < (ns.length : Int)) (hv : (cnt ns.length (allKids ns))[i.toNat]? = some v) (h1 : v = 1) : tE ns (i + 1) := by
  have := tE_at2 hv h.1
  refine ⟨by have := h.1; omega, by omega, fun c hc => ?_⟩
  by_cases e : (c : Int) < i
  · exact h.2.2 c e
  · have := h.1
    obtain rfl : i = (c : Int) := by omega
    omega
theorem yI_kid {ns : List Nd} {i j c : Int} {y : Nd} (h : tI ns) (hy : ns[i.toNat]? = some y) (hc : y.kids[j.toNat]? = some c) : 0 ≤ c ∧ c < ns.length := (tI_kids h hy).2 c (memE hc)
theorem yI_len {ns : List Nd} {i : Int} {y : Nd} (h : tI ns) (hy : ns[i.toNat]? = some y) : y.kids.length ≤ 12 := (tI_kids h hy).1
theorem yk_next {ns : List Nd} {i j c : Int} {y : Nd} (h0 : 0 ≤ j) (hy : ns[i.toNat]? = some y) (hc : y.kids[j.toNat]? = some c) : tk ns i (j + 1) = tk ns i j ++ [c] := tk_next h0 (by rw [ndAt_of hy]; exact hc)
theorem yk_done {ns : List Nd} {i j : Int} {y : Nd} (h0 : 0 ≤ i) (hy : ns[i.toNat]? = some y) (hl : ¬ j < y.kids.length) : tk ns i j = allKids (ns.take (i + 1).toNat) := tk_done h0 hy (by rw [ndAt_of hy]; exact hl)
def lsTree2 (x : List Nd) (o : Int) : LS := {
  ι := Int, inv := fun j => 0 ≤ j ∧ j ≤ (ndAt x o).kids.length,
  regs := fun j => [(0, nds x), (3, .int .i64 x.length), (4, oints (cnt x.length (tk x o j))), (5, .int .i64 o), (6, .int .i64 j)], als := [], meas := fun j => (ndAt x o).kids.length - j.toNat }
def lsTree (x : List Nd) : LS := {
  ι := Int, inv := fun i => 0 ≤ i ∧ i ≤ x.length,
  regs := fun i => [(0, nds x), (3, .int .i64 x.length), (4, oints (cnt x.length (allKids (x.take i.toNat)))), (5, .int .i64 i)], als := [], meas := fun i => x.length - i.toNat,
  sub := fun i => [(9, lsTree2 x i)] }
def lsTree3 (x : List Nd) : LS := {
  ι := Int, inv := tE x,
  regs := fun i => [(3, .int .i64 x.length), (4, oints (cnt x.length (allKids x))), (7, .int .i64 i)], als := [], meas := fun i => x.length - i.toNat }
def s_sTreeOk  : Sig := { X := List Nd, args := fun x => [nds x], pre := fun x => okNds x ∧ x.length ≤ 2 ^ 30, Y := Unit, post := fun x y => True, res := fun x y => .bool (treeOk x), outs := fun x y => [.top], keep := false }
theorem sTreeOk_vc (x : List Nd) : vcFun Go.Proofs.Tryz.prog (Γof [(84, 0, s_l01In), (82, 0, s_sDeepOf)]) (Eof [(39, ⟨Int,intA⟩)]) false (Lof ([(6,lsTree x), (13,lsTree3 x)])) Go.Proofs.Tryz.f48.ntmps Go.Proofs.Tryz.f48.results.toList (Go.Proofs.Tryz.f48.body.getD .skip) s_sTreeOk x = ((∀ (y : Unit), True → True ∧ True ∧ True) ∧ ∃ (x_1 : Int × Int × Int), True ∧ (↑(List.length x) : Int) = x_1.fst ∧ (1 : Int) = x_1.snd.fst ∧ (300 : Int) = x_1.snd.snd ∧ ∀ (y : Unit), True → bcase (!inn x_1.fst x_1.snd.fst x_1.snd.snd) (∃ (y : Unit), True ∧ false = treeOk x ∧ True) (inR IntKind.i64 ((↑(List.length x) : Int) - (1 : Int)) ∧ ((0 : Int) ≤ (↑(List.length x) : Int) - (1 : Int) ∧ (↑(List.length x) : Int) - (1 : Int) < (↑(List.length x) : Int)) ∧ ∀ (e : Nd), x[Int.toNat ((↑(List.length x) : Int) - (1 : Int))]? = some e → bcase (e.kind != (22 : Int)) (∃ (y : Unit), True ∧ false = treeOk x ∧ True) (inR IntKind.i64 ((↑(List.length x) : Int) - (1 : Int)) ∧ ∃ (x_2 : List Nd × Int), (okNds x_2.fst ∧ List.length x_2.fst ≤ (1073741824 : Nat)) ∧ AV.sl false (0 : Nat) (4 : Nat) Nd (ndA false) x = AV.sl false (0 : Nat) (4 : Nat) Nd (ndA false) x_2.fst ∧ (↑(List.length x) : Int) - (1 : Int) = x_2.snd ∧ ∀ (y : Unit), True → bcase (deepOf x_2.fst x_2.snd == (0 : Int)) (∃ (y : Unit), True ∧ false = treeOk x ∧ True) (((0 : Int) ≤ (↑(List.length x) : Int) ∧ (↑(List.length x) : Int) ≤ (↑(List.length x) : Int) ∧ (↑(8 : Nat) : Int) * (↑(List.length x) : Int) ≤ (2 : Int) ^ (46 : Nat) ∧ (↑(List.length x) : Int) ≤ (2 : Int) ^ (46 : Nat)) ∧ ∃ (x_3 : Int), (0 : Int) = x_3 ∧ (∃ (i : Int), ((0 : Int) ≤ i ∧ i ≤ (↑(List.length x) : Int)) ∧ (AV.sl false (0 : Nat) (4 : Nat) Nd (ndA false) x = AV.sl false (0 : Nat) (4 : Nat) Nd (ndA false) x ∧ (↑(List.length x) : Int) = (↑(List.length x) : Int) ∧ AV.sl true (0 : Nat) (1 : Nat) Int intA (List.replicate (Int.toNat (↑(List.length x) : Int)) x_3) = AV.sl true (0 : Nat) (1 : Nat) Int intA (cnt (List.length x) (allKids (List.take (Int.toNat i) x))) ∧ (0 : Int) = i ∧ True) ∧ True) ∧ ∀ (i : Int), (0 : Int) ≤ i ∧ i ≤ (↑(List.length x) : Int) → bcase (decide (i < (↑(List.length x) : Int))) ((∃ (i_1 : Int), ((0 : Int) ≤ i_1 ∧ i_1 ≤ (↑(List.length (ndAt x i).kids) : Int)) ∧ (AV.sl false (0 : Nat) (4 : Nat) Nd (ndA false) x = AV.sl false (0 : Nat) (4 : Nat) Nd (ndA false) x ∧ (↑(List.length x) : Int) = (↑(List.length x) : Int) ∧ AV.sl true (0 : Nat) (1 : Nat) Int intA (cnt (List.length x) (allKids (List.take (Int.toNat i) x))) = AV.sl true (0 : Nat) (1 : Nat) Int intA (cnt (List.length x) (tk x i i_1)) ∧ i = i ∧ (0 : Int) = i_1 ∧ True) ∧ True) ∧ ∀ (i_1 : Int), (0 : Int) ≤ i_1 ∧ i_1 ≤ (↑(List.length (ndAt x i).kids) : Int) → ((0 : Int) ≤ i ∧ i < (↑(List.length x) : Int)) ∧ ∀ (e : Nd), x[Int.toNat i]? = some e → bcase (decide (i_1 < (↑(List.length e.kids) : Int))) (((0 : Int) ≤ i ∧ i < (↑(List.length x) : Int)) ∧ ∀ (e : Nd), x[Int.toNat i]? = some e → ((0 : Int) ≤ i_1 ∧ i_1 < (↑(List.length e.kids) : Int)) ∧ ∀ (e_1 : Int), e.kids[Int.toNat i_1]? = some e_1 → ((0 : Int) ≤ e_1 ∧ e_1 < (↑(List.length (cnt (List.length x) (tk x i i_1))) : Int)) ∧ Int.toNat e_1 < List.length (cnt (List.length x) (tk x i i_1)) ∧ ∀ (x_4 : Int), (cnt (List.length x) (tk x i i_1))[Int.toNat e_1]? = some x_4 → inR IntKind.i64 (x_4 + (1 : Int)) ∧ ((0 : Int) ≤ e_1 ∧ e_1 < (↑(List.length (cnt (List.length x) (tk x i i_1))) : Int)) ∧ Int.toNat e_1 < List.length (cnt (List.length x) (tk x i i_1)) ∧ ∀ (x_5 : Int), (cnt (List.length x) (tk x i i_1))[Int.toNat e_1]? = some x_5 → ∃ (x' : Int), ((@List.nil AV) = [] ∧ (@List.nil AV) = []) ∧ x_4 + (1 : Int) = x' ∧ inR IntKind.i64 (i_1 + (1 : Int)) ∧ ∃ (i' : Int), ((0 : Int) ≤ i' ∧ i' ≤ (↑(List.length (ndAt x i).kids) : Int)) ∧ List.length (ndAt x i).kids - Int.toNat i' < List.length (ndAt x i).kids - Int.toNat i_1 ∧ (AV.sl false (0 : Nat) (4 : Nat) Nd (ndA false) x = AV.sl false (0 : Nat) (4 : Nat) Nd (ndA false) x ∧ (↑(List.length x) : Int) = (↑(List.length x) : Int) ∧ AV.sl true (0 : Nat) (1 : Nat) Int intA (List.set (cnt (List.length x) (tk x i i_1)) (Int.toNat e_1) x') = AV.sl true (0 : Nat) (1 : Nat) Int intA (cnt (List.length x) (tk x i i')) ∧ i = i ∧ i_1 + (1 : Int) = i' ∧ True) ∧ True) (inR IntKind.i64 (i + (1 : Int)) ∧ ∃ (i' : Int), ((0 : Int) ≤ i' ∧ i' ≤ (↑(List.length x) : Int)) ∧ List.length x - Int.toNat i' < List.length x - Int.toNat i ∧ (AV.sl false (0 : Nat) (4 : Nat) Nd (ndA false) x = AV.sl false (0 : Nat) (4 : Nat) Nd (ndA false) x ∧ (↑(List.length x) : Int) = (↑(List.length x) : Int) ∧ AV.sl true (0 : Nat) (1 : Nat) Int intA (cnt (List.length x) (tk x i i_1)) = AV.sl true (0 : Nat) (1 : Nat) Int intA (cnt (List.length x) (allKids (List.take (Int.toNat i') x))) ∧ i + (1 : Int) = i' ∧ True) ∧ True)) ((∃ (i_1 : Int), tE x i_1 ∧ ((↑(List.length x) : Int) = (↑(List.length x) : Int) ∧ AV.sl true (0 : Nat) (1 : Nat) Int intA (cnt (List.length x) (allKids (List.take (Int.toNat i) x))) = AV.sl true (0 : Nat) (1 : Nat) Int intA (cnt (List.length x) (allKids x)) ∧ (0 : Int) = i_1 ∧ True) ∧ True) ∧ ∀ (i : Int), tE x i → inR IntKind.i64 (i + (1 : Int)) ∧ bcase (decide (i + (1 : Int) < (↑(List.length x) : Int))) (((0 : Int) ≤ i ∧ i < (↑(List.length (cnt (List.length x) (allKids x))) : Int)) ∧ Int.toNat i < List.length (cnt (List.length x) (allKids x)) ∧ ∀ (x_4 : Int), (cnt (List.length x) (allKids x))[Int.toNat i]? = some x_4 → bcase (x_4 != (1 : Int)) (∃ (y : Unit), True ∧ false = treeOk x ∧ True) (inR IntKind.i64 (i + (1 : Int)) ∧ ∃ (i' : Int), tE x i' ∧ List.length x - Int.toNat i' < List.length x - Int.toNat i ∧ ((↑(List.length x) : Int) = (↑(List.length x) : Int) ∧ AV.sl true (0 : Nat) (1 : Nat) Int intA (cnt (List.length x) (allKids x)) = AV.sl true (0 : Nat) (1 : Nat) Int intA (cnt (List.length x) (allKids x)) ∧ i + (1 : Int) = i' ∧ True) ∧ True)) (∃ (y : Unit), True ∧ true = treeOk x ∧ True)))))) := by kernel_rfl
theorem sTreeOk_ok  : Contract G Tryz.prog 48 s_sTreeOk :=
  vcFun_ok (Γ := Γof [(84, 0, s_l01In), (82, 0, s_sDeepOf)]) (E := Eof [(39, ⟨Int,intA⟩)]) (ov := false) (L := fun x => Lof ([(6,lsTree x), (13,lsTree3 x)])) Tryz.func48 rfl (by decide) (Γof_ok (l := [(84, 0, s_l01In), (82, 0, s_sDeepOf)]) ⟨l01In_ok, sDeepOf_ok, trivial⟩) fun (x : List Nd) (hx : okNds x ∧ x.length ≤ 2 ^ 30) => (sTreeOk_vc  x).mpr (by
  obtain ⟨h1, h2⟩ := hx; have hl := h1.1
  (repeat' first | with_reducible rfl | exact True.intro | refine inR_i64 ?_ ?_ | with_reducible refine And.intro ?_ ?_ | with_reducible refine bcase_dec (fun _ => ?_) (fun _ => ?_) | with_reducible refine bcase_bne (fun _ => ?_) (fun _ => ?_) | with_reducible refine bcase_beq (fun _ => ?_) (fun _ => ?_) | with_reducible refine bcase_not (fun _ => ?_) (fun _ => ?_) | refine bcase_intro (fun _ => ?_) (fun _ => ?_) | refine sl_eq ?_ | refine ex_flip () ?_ ?_ | (apply ex_flip6 <;> try dsimp only) | (apply ex_flip5 <;> try dsimp only) | (apply ex_flip4 <;> try dsimp only) | (apply ex_flip3 <;> try dsimp only) | (apply ex_flip2 <;> try dsimp only) | apply ex_flip | (refine Prod.forall.2 ?_; intro _; try dsimp only) | (intro _; try dsimp only))
  all_goals try (have t1 := inn_iff.1 (show inn x.length 1 300 = true by assumption))
  all_goals try (have t0 := tI_of (by assumption) (by assumption) (by assumption) (by assumption))
  all_goals try (repeat (rename x[Int.toNat _]? = some _ => hq; revert hq; rename x[Int.toNat _]? = some _ => hr; intro hq; rw [hr] at hq; cases hq))
  all_goals try (repeat (rename (Nd.kids _)[Int.toNat _]? = some _ => hq; revert hq; rename (Nd.kids _)[Int.toNat _]? = some _ => hr; intro hq; rw [hr] at hq; cases hq))
  all_goals try (simp only [ndAt_of (show x[Int.toNat _]? = some _ by assumption)] at *)
  all_goals first
    | rfl
    | exact treeOk_not (tI_inn (by assumption))
    | exact treeOk_not (tI_kind (by assumption) (by assumption))
    | exact treeOk_not (fun h => h.2.2.2 (by assumption))
    | exact cnt_nil
    | (rw [tk_init]; done)
    | (have := yI_kid (by assumption) (by assumption) (show (Nd.kids _)[Int.toNat _]? = some _ by assumption); (try rw [cnt_len]); omega)
    | (rw [yk_next (by omega) (by assumption) (by assumption)]; exact cnt_inc (yI_kid (by assumption) (by assumption) (by assumption)).1 (yI_kid (by assumption) (by assumption) (by assumption)).2 (by assumption))
    | (rw [yk_done (by omega) (by assumption) (by assumption)]; done)
    | (rw [tk_full (by assumption)]; done)
    | (have := tk_v (by assumption) (by assumption) (by assumption); omega)
    | exact treeOk_yes (by assumption) (by assumption) (by omega)
    | exact treeOk_no (tE_at2 (by assumption) (‹tE _ _›.1)) (‹tE _ _›.1) (by omega) (by assumption)
    | exact tE_next2 (by assumption) (by assumption) (by assumption) (by assumption)
    | exact ⟨by omega, by omega, fun c hc => by omega⟩
    | ((try simp only [i64max, room, List.length_replicate, cnt_len] at *); omega)
    | (have := yI_len (by assumption) (by assumption); (try simp only [i64max] at *); omega)
    | (have hte := (show tE x _ by assumption); have := hte.1; have := hte.2.1; (try rw [cnt_len]); (try simp only [i64max] at *); omega)
    | skip)

end Go.My
end
section
/- What is reckoned ahead, plainly. -/
set_option linter.unusedVariables false
set_option linter.unusedSimpArgs false
namespace Go.My
open Go.Eng

def figV (s : List UInt8) : Int := s.foldl (fun n c => n * 10 + ((c.toNat : Int) - 48)) 0
def reck (t : List UInt8) (a b : Int) : Int := if t = [43] then a + b else if t = [45] then a - b else a * b
def big : Int := 1000000000
def stepV (t : List UInt8) (a b : Option Int) : Option Int := match a, b with
  | some a, some b => if inn (reck t a b) (-1000000000) 1000000000 then some (reck t a b) else none
  | _, _ => none
def chainF (t : List UInt8) : List (Option Int) → Option Int
  | [] => some 0
  | a :: l => l.foldl (stepV t) a
def opOk (t : List UInt8) : Bool := t == [43] || (t == [45] || t == [42])
def chainV (t : List UInt8) (l : List (Option Int)) : Option Int := if opOk t then chainF t l else none
def cst (ns : List Nd) : Nat → Int → Option Int
  | 0, _ => none
  | n + 1, k => if (ndAt ns k).kind = 2 then (if 9 < (ndAt ns k).text.length then none else some (figV (ndAt ns k).text))
    else if (ndAt ns k).kind = 11 then cst ns n ((ndAt ns k).kids.headD 0)
    else if (ndAt ns k).kind = 7 then chainV (ndAt ns k).text ((ndAt ns k).kids.map (cst ns n)) else none
def cV (ns : List Nd) (k : Int) : Option Int := cst ns (k.toNat + 1) k
def okUp (ns : List Nd) (k : Int) : Prop := isNd ns k = true ∧ ∀ i : Nat, (i : Int) ≤ k → nodeOk ns i = true
theorem okUp_of {ns : List Nd} {k : Int} (h : deepOf ns k ≠ 0) : okUp ns k := ⟨(deepOf_pos h).1, (deepOf_pos h).2.2⟩
theorem okUp_at {ns : List Nd} {k : Int} (h : okUp ns k) : nodeOk ns k = true := by
  have := isNd_iff.1 h.1
  have h2 := h.2 k.toNat (by omega)
  rwa [show ((k.toNat : Nat) : Int) = k by omega] at h2
theorem okUp_kid {ns : List Nd} {k c : Int} (h : okUp ns k) (hc : c ∈ (ndAt ns k).kids) : okUp ns c ∧ 0 ≤ c ∧ c < k := by
  have h1 := (nodeOk_parts (okUp_at h)).2.2.2.1 c hc
  have h2 := isNd_iff.1 h.1
  exact ⟨⟨isNd_iff.2 (by omega), fun i hi => h.2 i (by omega)⟩, h1⟩
/- what kinds want -/
theorem kinds11 {ns : List Nd} {x : Nd} (h : kindsOk x.kind (x.kids.map (kindAt ns)) = true) (hk : x.kind = 11) : ∃ c, x.kids = [c] := by
  rw [hk] at h
  simp [kindsOk] at h
  match hx : x.kids with
  | [] => rw [hx] at h; simp at h
  | [c] => exact ⟨c, rfl⟩
  | c :: d :: l => rw [hx] at h; simp at h
theorem kinds7 {ns : List Nd} {x : Nd} (h : kindsOk x.kind (x.kids.map (kindAt ns)) = true) (hk : x.kind = 7) : 2 ≤ x.kids.length := by
  rw [hk] at h
  simp [kindsOk] at h; exact h.1
theorem okUp11 {ns : List Nd} {k : Int} (h : okUp ns k) (hk : (ndAt ns k).kind = 11) : ∃ c, (ndAt ns k).kids = [c] := kinds11 (nodeOk_parts (okUp_at h)).2.2.2.2.2.1 hk
theorem okUp7 {ns : List Nd} {k : Int} (h : okUp ns k) (hk : (ndAt ns k).kind = 7) : 2 ≤ (ndAt ns k).kids.length := kinds7 (nodeOk_parts (okUp_at h)).2.2.2.2.2.1 hk
theorem sg_num_all {s : List UInt8} (h : isSgn s 2 = true) : s.all isFig = true ∧ 1 ≤ s.length ∧ s.length ≤ 12 := by
  rw [sg_num] at h
  simp only [Bool.and_eq_true, decide_eq_true_eq] at h
  exact ⟨h.1, h.2.1, h.2.2⟩
theorem okUp2 {ns : List Nd} {k : Int} (h : okUp ns k) (hk : (ndAt ns k).kind = 2) : (ndAt ns k).text.all isFig = true ∧ 1 ≤ (ndAt ns k).text.length ∧ (ndAt ns k).text.length ≤ 12 := by
  have := (nodeOk_parts (okUp_at h)).2.2.1
  rw [hk] at this
  exact sg_num_all (by simpa [textOk] using this)
theorem cst_eq {ns : List Nd} : ∀ {n m : Nat} {k : Int}, okUp ns k → k.toNat < n → k.toNat < m → cst ns n k = cst ns m k
  | 0, _, _, _, h, _ => by omega
  | _, 0, _, _, _, h => by omega
  | n + 1, m + 1, k, h, h1, h2 => by
    have hr := isNd_iff.1 h.1
    simp only [cst]
    by_cases e2 : (ndAt ns k).kind = 2
    · rw [if_pos e2, if_pos e2]
    · rw [if_neg e2, if_neg e2]
      by_cases e11 : (ndAt ns k).kind = 11
      · rw [if_pos e11, if_pos e11]
        obtain ⟨c, hc⟩ := okUp11 h e11
        obtain ⟨h3, h4⟩ := okUp_kid h (c := c) (by rw [hc]; simp)
        rw [hc]; exact cst_eq h3 (by simp; omega) (by simp; omega)
      · rw [if_neg e11, if_neg e11]
        congr 2
        apply List.map_congr_left
        intro c hc
        obtain ⟨h3, h4⟩ := okUp_kid h hc
        exact cst_eq h3 (by omega) (by omega)
theorem cV_def {ns : List Nd} {k : Int} (h : okUp ns k) : cV ns k = if (ndAt ns k).kind = 2 then (if 9 < (ndAt ns k).text.length then none else some (figV (ndAt ns k).text))
    else if (ndAt ns k).kind = 11 then cV ns ((ndAt ns k).kids.headD 0)
    else if (ndAt ns k).kind = 7 then chainV (ndAt ns k).text ((ndAt ns k).kids.map (cV ns)) else none := by
  have hr := isNd_iff.1 h.1
  rw [cV, cst]
  by_cases e2 : (ndAt ns k).kind = 2
  · rw [if_pos e2, if_pos e2]
  · rw [if_neg e2, if_neg e2]
    by_cases e11 : (ndAt ns k).kind = 11
    · rw [if_pos e11, if_pos e11]
      obtain ⟨c, hc⟩ := okUp11 h e11
      obtain ⟨h3, h4⟩ := okUp_kid h (c := c) (by rw [hc]; simp)
      rw [hc]; exact cst_eq h3 (by simp; omega) (by simp)
    · rw [if_neg e11, if_neg e11]
      congr 2
      apply List.map_congr_left
      intro c hc
      obtain ⟨h3, h4⟩ := okUp_kid h hc
      exact cst_eq h3 (by omega) (by omega)
/- bounds -/
theorem figV_snoc {s : List UInt8} {c : UInt8} : figV (s ++ [c]) = figV s * 10 + ((c.toNat : Int) - 48) := by simp [figV, List.foldl_append]
theorem figV_take {s : List UInt8} {n : Nat} {c : UInt8} (h : s[n]? = some c) : figV (s.take (n + 1)) = figV (s.take n) * 10 + ((c.toNat : Int) - 48) := by
  rw [takeE h, figV_snoc]
theorem figV_bd1 : ∀ (n : Nat) {s : List UInt8}, s.all isFig = true → s.length = n → 0 ≤ figV s ∧ figV s < 10 ^ n
  | 0, s, h, hn => by
    obtain rfl : s = [] := List.length_eq_zero_iff.1 hn
    simp [figV]
  | n + 1, s, h, hn => by
    have hne : s ≠ [] := by intro e; rw [e] at hn; simp at hn
    have e := (List.dropLast_concat_getLast hne).symm
    generalize hl : s.dropLast = l at e
    generalize s.getLast hne = c at e
    subst e
    simp only [List.all_append, Bool.and_eq_true] at h
    have ih := figV_bd1 n h.1 (by simpa using hn)
    have hc : isFig c = true := by simpa using h.2
    simp only [isFig, Bool.and_eq_true, decide_eq_true_eq] at hc
    rw [figV_snoc, Int.pow_succ]; omega
theorem figV_bd {s : List UInt8} (h : s.all isFig = true) (h9 : s.length ≤ 9) : 0 ≤ figV s ∧ figV s < 1000000000 := by
  obtain ⟨h1, h2⟩ := figV_bd1 s.length h rfl
  refine ⟨h1, ?_⟩
  have : s.length = 0 ∨ s.length = 1 ∨ s.length = 2 ∨ s.length = 3 ∨ s.length = 4 ∨ s.length = 5 ∨ s.length = 6 ∨ s.length = 7 ∨ s.length = 8 ∨ s.length = 9 := by omega
  rcases this with e | e | e | e | e | e | e | e | e | e <;> rw [e] at h2 <;> simp at h2 <;> omega
theorem mul_bd {a b : Int} (h1 : -1000000000 ≤ a) (h2 : a ≤ 1000000000) (h3 : -1000000000 ≤ b) (h4 : b ≤ 1000000000) : -1000000000000000000 ≤ a * b ∧ a * b ≤ 1000000000000000000 := by
  have k1 : (a * b).natAbs ≤ 1000000000 * 1000000000 := by
    rw [Int.natAbs_mul]
    exact Nat.mul_le_mul (by omega) (by omega)
  omega
def bdd (v : Int) : Prop := -1000000000 ≤ v ∧ v ≤ 1000000000
theorem stepV_bd {t : List UInt8} {a b : Option Int} {v : Int} (h : stepV t a b = some v) : bdd v := by
  unfold stepV at h
  split at h
  · split at h
    · rename_i hi; cases h; exact inn_iff.1 hi
    · cases h
  · cases h
theorem foldV_bd {t : List UInt8} : ∀ {l : List (Option Int)} {a : Option Int} {v : Int}, (∀ w, a = some w → bdd w) → l.foldl (stepV t) a = some v → bdd v
  | [], a, v, h, hv => h v hv
  | b :: l, a, v, h, hv => foldV_bd (l := l) (fun w hw => stepV_bd hw) hv
theorem cst_bd {ns : List Nd} : ∀ {n : Nat} {k : Int} {v : Int}, okUp ns k → k.toNat < n → cst ns n k = some v → bdd v
  | 0, _, _, _, h, _ => by omega
  | n + 1, k, v, h, h1, hv => by
    have hr := isNd_iff.1 h.1
    simp only [cst] at hv
    by_cases e2 : (ndAt ns k).kind = 2
    · rw [if_pos e2] at hv
      split at hv
      · cases hv
      · simp only [Option.some.injEq] at hv
        have := figV_bd (okUp2 h e2).1 (by omega)
        unfold bdd; omega
    · rw [if_neg e2] at hv
      by_cases e11 : (ndAt ns k).kind = 11
      · rw [if_pos e11] at hv
        obtain ⟨c, hc⟩ := okUp11 h e11
        obtain ⟨h3, h4⟩ := okUp_kid h (c := c) (by rw [hc]; simp)
        rw [hc] at hv
        exact cst_bd (k := c) h3 (by omega) hv
      · rw [if_neg e11] at hv
        by_cases e7 : (ndAt ns k).kind = 7
        · rw [if_pos e7] at hv
          unfold chainV at hv
          split at hv
          · have h2 := okUp7 h e7
            match hkk : (ndAt ns k).kids with
            | [] => rw [hkk] at h2; simp at h2
            | c :: l =>
              rw [hkk] at hv
              simp only [List.map_cons, chainF] at hv
              obtain ⟨h3, h4⟩ := okUp_kid h (c := c) (by rw [hkk]; simp)
              exact foldV_bd (fun w hw => cst_bd h3 (by omega) hw) hv
          · cases hv
        · rw [if_neg e7] at hv; cases hv
theorem cV_bd {ns : List Nd} {k v : Int} (h : okUp ns k) (hv : cV ns k = some v) : bdd v := cst_bd h (by omega) hv
def oI (o : Option Int) : Int := o.getD 0
theorem oI_bd {ns : List Nd} {k : Int} (h : okUp ns k) : bdd (oI (cV ns k)) := by
  unfold oI
  cases hv : cV ns k with
  | none => unfold bdd; simp
  | some v => exact cV_bd h hv
/- a chain, one kid more -/
theorem chainF_snoc {t : List UInt8} {l : List (Option Int)} {b : Option Int} (h : l ≠ []) : chainF t (l ++ [b]) = stepV t (chainF t l) b := by
  cases l with
  | nil => exact (h rfl).elim
  | cons a l => simp [chainF, List.foldl_append]
theorem fold_none {t : List UInt8} : ∀ {l : List (Option Int)}, l.foldl (stepV t) none = none
  | [] => rfl
  | b :: l => by simp only [List.foldl_cons]; rw [show stepV t none b = none from rfl]; exact fold_none
theorem chainF_none {t : List UInt8} {l m : List (Option Int)} (h : l ≠ []) (hn : chainF t l = none) : chainF t (l ++ m) = none := by
  cases l with
  | nil => exact (h rfl).elim
  | cons a l =>
    simp only [chainF, List.cons_append, List.foldl_append] at hn ⊢
    rw [hn]; exact fold_none
theorem gOk {l : List Nd} (h : ¬ szNds l 1048576 < 0) : okNds l := by
  refine ⟨by have := gB1 h; have := gB3 h; omega, fun e he => ?_⟩
  have h1 := gB2 h he; have h2 := gB4 h he
  unfold okNd; omega
end Go.My
end
section
/- The laws' own helpers: sizes, copies, comparisons, marks. -/
set_option linter.unusedVariables false
set_option linter.unusedSimpArgs false
namespace Go.My
open Go.Eng Go.Proofs
variable {G : GInv}

def s_szInts  : Sig := { X := List Int × Int, args := fun x => [ints x.1, .int .i64 x.2], pre := fun x => -1 ≤ x.2 ∧ x.2 ≤ 2 ^ 50 ∧ x.1.length < 2 ^ 63, Y := Unit, post := fun x y => True, res := fun x y => .int .i64 (szInts x.1 x.2), outs := fun x y => [.top, .top], keep := false }
theorem szInts_vc (x : List Int × Int) : vcFun Go.Proofs.Tryz.prog (Γof []) (Eof []) false (Lof ([])) Go.Proofs.Tryz.f107.ntmps Go.Proofs.Tryz.f107.results.toList (Go.Proofs.Tryz.f107.body.getD .skip) s_szInts x = ((∀ (y : Unit), True → True ∧ True ∧ True ∧ True) ∧ inR IntKind.i64 (x.snd - (↑(List.length x.fst) : Int)) ∧ bcase (decide (x.snd - (↑(List.length x.fst) : Int) < (0 : Int))) (∃ (y : Unit), True ∧ (-1 : Int) = szInts x.fst x.snd ∧ True) (∃ (y : Unit), True ∧ x.snd - (↑(List.length x.fst) : Int) = szInts x.fst x.snd ∧ True)) := by kernel_rfl
theorem szInts_ok  : Contract G Tryz.prog 107 s_szInts :=
  vcFun_ok (Γ := Γof []) (E := Eof []) (ov := false) (L := fun x => Lof ([])) Tryz.func107 rfl (by decide) (Γof_ok (l := []) trivial) fun (x : List Int × Int) (hx : -1 ≤ x.2 ∧ x.2 ≤ 2 ^ 50 ∧ x.1.length < 2 ^ 63) => (szInts_vc  x).mpr (by
  obtain ⟨h1, h2, h3⟩ := hx
  (repeat' first | with_reducible rfl | exact True.intro | refine inR_i64 ?_ ?_ | with_reducible refine And.intro ?_ ?_ | with_reducible refine bcase_dec (fun _ => ?_) (fun _ => ?_) | with_reducible refine bcase_bne (fun _ => ?_) (fun _ => ?_) | with_reducible refine bcase_beq (fun _ => ?_) (fun _ => ?_) | with_reducible refine bcase_not (fun _ => ?_) (fun _ => ?_) | refine bcase_intro (fun _ => ?_) (fun _ => ?_) | refine sl_eq ?_ | refine ex_flip () ?_ ?_ | (apply ex_flip6 <;> try dsimp only) | (apply ex_flip5 <;> try dsimp only) | (apply ex_flip4 <;> try dsimp only) | (apply ex_flip3 <;> try dsimp only) | (apply ex_flip2 <;> try dsimp only) | apply ex_flip | (refine Prod.forall.2 ?_; intro _; try dsimp only) | (intro _; try dsimp only)) <;> (try dsimp only at *) <;> (try simp only [i64max, List.length_cons, List.length_nil]) <;> (try omega) <;> unfold szInts <;> split <;> omega)

def s_szNd  : Sig := { X := Nd × Int, args := fun x => [.agg (ndA false x.1), .int .i64 x.2], pre := fun x => -1 ≤ x.2 ∧ x.2 ≤ 2 ^ 50 ∧ smallNd x.1, Y := Unit, post := fun x y => True, res := fun x y => .int .i64 (szNd x.1 x.2), outs := fun x y => [.top, .top], keep := false }
theorem szNd_vc (x : Nd × Int) : vcFun Go.Proofs.Tryz.prog (Γof [(107, 0, s_szInts)]) (Eof []) false (Lof ([])) Go.Proofs.Tryz.f47.ntmps Go.Proofs.Tryz.f47.results.toList (Go.Proofs.Tryz.f47.body.getD .skip) s_szNd x = ((∀ (y : Unit), True → True ∧ True ∧ True ∧ True) ∧ inR IntKind.i64 (x.snd - (↑(List.length x.fst.text) : Int)) ∧ bcase (decide (x.snd - (↑(List.length x.fst.text) : Int) < (0 : Int))) (∃ (y : Unit), True ∧ (-1 : Int) = szNd x.fst x.snd ∧ True) (∃ (x_1 : List Int × Int), ((-1 : Int) ≤ x_1.snd ∧ x_1.snd ≤ (2 : Int) ^ (50 : Nat) ∧ List.length x_1.fst < (9223372036854775808 : Nat)) ∧ AV.sl false (0 : Nat) (1 : Nat) Int intA x.fst.kids = AV.sl false (0 : Nat) (1 : Nat) Int intA x_1.fst ∧ x.snd - (↑(List.length x.fst.text) : Int) = x_1.snd ∧ ∀ (y : Unit), True → bcase (decide (szInts x_1.fst x_1.snd < (0 : Int))) (∃ (y : Unit), True ∧ (-1 : Int) = szNd x.fst x.snd ∧ True) (∃ (y : Unit), True ∧ szInts x_1.fst x_1.snd = szNd x.fst x.snd ∧ True))) := by kernel_rfl
theorem szNd_ok  : Contract G Tryz.prog 47 s_szNd :=
  vcFun_ok (Γ := Γof [(107, 0, s_szInts)]) (E := Eof []) (ov := false) (L := fun x => Lof ([])) Tryz.func47 rfl (by decide) (Γof_ok (l := [(107, 0, s_szInts)]) ⟨szInts_ok, trivial⟩) fun (x : Nd × Int) (hx : -1 ≤ x.2 ∧ x.2 ≤ 2 ^ 50 ∧ smallNd x.1) => (szNd_vc  x).mpr (by
  obtain ⟨h1, h2, h3, h4⟩ := hx
  (repeat' first | with_reducible rfl | exact True.intro | refine inR_i64 ?_ ?_ | with_reducible refine And.intro ?_ ?_ | with_reducible refine bcase_dec (fun _ => ?_) (fun _ => ?_) | with_reducible refine bcase_bne (fun _ => ?_) (fun _ => ?_) | with_reducible refine bcase_beq (fun _ => ?_) (fun _ => ?_) | with_reducible refine bcase_not (fun _ => ?_) (fun _ => ?_) | refine bcase_intro (fun _ => ?_) (fun _ => ?_) | refine sl_eq ?_ | refine ex_flip () ?_ ?_ | (apply ex_flip6 <;> try dsimp only) | (apply ex_flip5 <;> try dsimp only) | (apply ex_flip4 <;> try dsimp only) | (apply ex_flip3 <;> try dsimp only) | (apply ex_flip2 <;> try dsimp only) | apply ex_flip | (refine Prod.forall.2 ?_; intro _; try dsimp only) | (intro _; try dsimp only)) <;> (try dsimp only at *) <;> (try simp only [i64max, List.length_cons, List.length_nil]) <;> (try omega)
  · simp [szNd, *]
  · rename_i h _ _ h'; unfold szNd; rw [if_neg h]
    have := @szInts_mono x.1.kids (x.2 - x.1.text.length) (by omega); omega
  · rename_i h _ _ h'; simp [szNd, h])

def lSzNds (x : List Nd × Int) : LS := {
  ι := Int × Int, inv := fun i => 0 ≤ i.1 ∧ i.1 ≤ x.1.length ∧ -1 ≤ i.2 ∧ i.2 ≤ 2 ^ 50 ∧ szAll (x.1.drop i.1.toNat) i.2 = szNds x.1 x.2,
  regs := fun i => [(0, nds x.1), (1, .int .i64 i.2), (5, .int .i64 i.1)], als := [], meas := fun i => x.1.length - i.1.toNat }
def s_szNds  : Sig := { X := List Nd × Int, args := fun x => [nds x.1, .int .i64 x.2], pre := fun x => -1 ≤ x.2 ∧ x.2 ≤ 2 ^ 50 ∧ smallNds x.1, Y := Unit, post := fun x y => True, res := fun x y => .int .i64 (szNds x.1 x.2), outs := fun x y => [.top, .top], keep := false }
theorem szNds_vc (x : List Nd × Int) : vcFun Go.Proofs.Tryz.prog (Γof [(47, 0, s_szNd)]) (Eof []) false (Lof ([(5,lSzNds x)])) Go.Proofs.Tryz.f11.ntmps Go.Proofs.Tryz.f11.results.toList (Go.Proofs.Tryz.f11.body.getD .skip) s_szNds x = ((∀ (y : Unit), True → True ∧ True ∧ True ∧ True) ∧ inR IntKind.i64 (x.snd - (↑(List.length x.fst) : Int)) ∧ bcase (decide (x.snd - (↑(List.length x.fst) : Int) < (0 : Int))) (∃ (y : Unit), True ∧ (-1 : Int) = szNds x.fst x.snd ∧ True) ((∃ (i : Int × Int), ((0 : Int) ≤ i.fst ∧ i.fst ≤ (↑(List.length x.fst) : Int) ∧ (-1 : Int) ≤ i.snd ∧ i.snd ≤ (2 : Int) ^ (50 : Nat) ∧ szAll (List.drop (Int.toNat i.fst) x.fst) i.snd = szNds x.fst x.snd) ∧ (AV.sl false (0 : Nat) (4 : Nat) Nd (ndA false) x.fst = AV.sl false (0 : Nat) (4 : Nat) Nd (ndA false) x.fst ∧ x.snd - (↑(List.length x.fst) : Int) = i.snd ∧ (0 : Int) = i.fst ∧ True) ∧ True) ∧ ∀ (i : Int × Int), (0 : Int) ≤ i.fst ∧ i.fst ≤ (↑(List.length x.fst) : Int) ∧ (-1 : Int) ≤ i.snd ∧ i.snd ≤ (2 : Int) ^ (50 : Nat) ∧ szAll (List.drop (Int.toNat i.fst) x.fst) i.snd = szNds x.fst x.snd → bcase (decide (i.fst < (↑(List.length x.fst) : Int))) (((0 : Int) ≤ i.fst ∧ i.fst < (↑(List.length x.fst) : Int)) ∧ ∀ (e : Nd), x.fst[Int.toNat i.fst]? = some e → ∃ (x_1 : Nd × Int), ((-1 : Int) ≤ x_1.snd ∧ x_1.snd ≤ (2 : Int) ^ (50 : Nat) ∧ smallNd x_1.fst) ∧ e.kind = x_1.fst.kind ∧ e.text = x_1.fst.text ∧ AV.sl false (0 : Nat) (1 : Nat) Int intA e.kids = AV.sl false (0 : Nat) (1 : Nat) Int intA x_1.fst.kids ∧ e.blank = x_1.fst.blank ∧ i.snd = x_1.snd ∧ ∀ (y : Unit), True → bcase (decide (szNd x_1.fst x_1.snd < (0 : Int))) (∃ (y : Unit), True ∧ (-1 : Int) = szNds x.fst x.snd ∧ True) (inR IntKind.i64 (i.fst + (1 : Int)) ∧ ∃ (i' : Int × Int), ((0 : Int) ≤ i'.fst ∧ i'.fst ≤ (↑(List.length x.fst) : Int) ∧ (-1 : Int) ≤ i'.snd ∧ i'.snd ≤ (2 : Int) ^ (50 : Nat) ∧ szAll (List.drop (Int.toNat i'.fst) x.fst) i'.snd = szNds x.fst x.snd) ∧ List.length x.fst - Int.toNat i'.fst < List.length x.fst - Int.toNat i.fst ∧ (AV.sl false (0 : Nat) (4 : Nat) Nd (ndA false) x.fst = AV.sl false (0 : Nat) (4 : Nat) Nd (ndA false) x.fst ∧ szNd x_1.fst x_1.snd = i'.snd ∧ i.fst + (1 : Int) = i'.fst ∧ True) ∧ True)) (∃ (y : Unit), True ∧ i.snd = szNds x.fst x.snd ∧ True))) := by kernel_rfl
theorem szNds_ok  : Contract G Tryz.prog 11 s_szNds :=
  vcFun_ok (Γ := Γof [(47, 0, s_szNd)]) (E := Eof []) (ov := false) (L := fun x => Lof ([(5,lSzNds x)])) Tryz.func11 rfl (by decide) (Γof_ok (l := [(47, 0, s_szNd)]) ⟨szNd_ok, trivial⟩) fun (x : List Nd × Int) (hx : -1 ≤ x.2 ∧ x.2 ≤ 2 ^ 50 ∧ smallNds x.1) => (szNds_vc  x).mpr (by
  obtain ⟨h1, h2, h3, h4⟩ := hx; obtain ⟨l, n⟩ := x
  (repeat' first | with_reducible rfl | exact True.intro | refine inR_i64 ?_ ?_ | with_reducible refine And.intro ?_ ?_ | with_reducible refine bcase_dec (fun _ => ?_) (fun _ => ?_) | with_reducible refine bcase_bne (fun _ => ?_) (fun _ => ?_) | with_reducible refine bcase_beq (fun _ => ?_) (fun _ => ?_) | with_reducible refine bcase_not (fun _ => ?_) (fun _ => ?_) | refine bcase_intro (fun _ => ?_) (fun _ => ?_) | refine sl_eq ?_ | refine ex_flip () ?_ ?_ | (apply ex_flip6 <;> try dsimp only) | (apply ex_flip5 <;> try dsimp only) | (apply ex_flip4 <;> try dsimp only) | (apply ex_flip3 <;> try dsimp only) | (apply ex_flip2 <;> try dsimp only) | apply ex_flip | (refine Prod.forall.2 ?_; intro _; try dsimp only) | (intro _; try dsimp only)) <;> (try dsimp only at *) <;> (try simp only [i64max, List.length_cons, List.length_nil]) <;> (try omega)
  all_goals try simp only at *
  · simp [szNds, *]
  · simp [szNds, *]
  · rename_i h0 i s hi h e he _ _ hs
    rw [← hi.2.2.2.2, dropE he]; simp [szAll, hs]
  · rename_i h0 i s hi h e he _ _ hs
    have := @szNd_mono e s hi.2.2.1; omega
  · rename_i h0 i s hi h e he _ _ hs
    rw [← hi.2.2.2.2, dropE he, toNat1 hi.1]; simp [szAll, hs]
  · rename_i h0 i s hi h e he
    exact h4 e (memE he)
  · rename_i h0 i s hi h
    rw [← hi.2.2.2.2, List.drop_eq_nil_of_le (by omega)]; rfl)

def lToInts (x : List Int) : LS := {
  ι := Int, inv := fun i => 0 ≤ i ∧ i ≤ x.length, regs := fun i => [(0, ints x), (3, oints (fillL 0 x i)), (4, .int .i64 i)], als := [], meas := fun i => x.length - i.toNat }
def s_toInts  : Sig := { X := List Int, args := fun x => [ints x], pre := fun x => x.length ≤ 2 ^ 30, Y := Unit, post := fun x y => True, res := fun x y => oints x, outs := fun x y => [.top], keep := false }
theorem toInts_vc (x : List Int) : vcFun Go.Proofs.Tryz.prog (Γof []) (Eof [(39, ⟨Int,intA⟩)]) false (Lof ([(3,lToInts x)])) Go.Proofs.Tryz.f35.ntmps Go.Proofs.Tryz.f35.results.toList (Go.Proofs.Tryz.f35.body.getD .skip) s_toInts x = ((∀ (y : Unit), True → (∀ (x : Int), True ∧ True) ∧ True ∧ True) ∧ ((0 : Int) ≤ (↑(List.length x) : Int) ∧ (↑(List.length x) : Int) ≤ (↑(List.length x) : Int) ∧ (↑(8 : Nat) : Int) * (↑(List.length x) : Int) ≤ (2 : Int) ^ (46 : Nat) ∧ (↑(List.length x) : Int) ≤ (2 : Int) ^ (46 : Nat)) ∧ ∃ (x_1 : Int), (0 : Int) = x_1 ∧ (∃ (i : Int), ((0 : Int) ≤ i ∧ i ≤ (↑(List.length x) : Int)) ∧ (AV.sl false (0 : Nat) (1 : Nat) Int intA x = AV.sl false (0 : Nat) (1 : Nat) Int intA x ∧ AV.sl true (0 : Nat) (1 : Nat) Int intA (List.replicate (Int.toNat (↑(List.length x) : Int)) x_1) = AV.sl true (0 : Nat) (1 : Nat) Int intA (fillL (0 : Int) x i) ∧ (0 : Int) = i ∧ True) ∧ True) ∧ ∀ (i : Int), (0 : Int) ≤ i ∧ i ≤ (↑(List.length x) : Int) → bcase (decide (i < (↑(List.length x) : Int))) (((0 : Int) ≤ i ∧ i < (↑(List.length x) : Int)) ∧ ∀ (e : Int), x[Int.toNat i]? = some e → ((0 : Int) ≤ i ∧ i < (↑(List.length (fillL (0 : Int) x i)) : Int)) ∧ Int.toNat i < List.length (fillL (0 : Int) x i) ∧ ∀ (x_2 : Int), (fillL (0 : Int) x i)[Int.toNat i]? = some x_2 → ∃ (x' : Int), ((@List.nil AV) = [] ∧ (@List.nil AV) = []) ∧ e = x' ∧ inR IntKind.i64 (i + (1 : Int)) ∧ ∃ (i' : Int), ((0 : Int) ≤ i' ∧ i' ≤ (↑(List.length x) : Int)) ∧ List.length x - Int.toNat i' < List.length x - Int.toNat i ∧ (AV.sl false (0 : Nat) (1 : Nat) Int intA x = AV.sl false (0 : Nat) (1 : Nat) Int intA x ∧ AV.sl true (0 : Nat) (1 : Nat) Int intA (List.set (fillL (0 : Int) x i) (Int.toNat i) x') = AV.sl true (0 : Nat) (1 : Nat) Int intA (fillL (0 : Int) x i') ∧ i + (1 : Int) = i' ∧ True) ∧ True) (∃ (y : Unit), True ∧ AV.sl true (0 : Nat) (1 : Nat) Int intA (fillL (0 : Int) x i) = AV.sl true (0 : Nat) (1 : Nat) Int intA x ∧ True)) := by kernel_rfl
theorem toInts_ok  : Contract G Tryz.prog 35 s_toInts :=
  vcFun_ok (Γ := Γof []) (E := Eof [(39, ⟨Int,intA⟩)]) (ov := false) (L := fun x => Lof ([(3,lToInts x)])) Tryz.func35 rfl (by decide) (Γof_ok (l := []) trivial) fun (x : List Int) (hx : x.length ≤ 2 ^ 30) => (toInts_vc  x).mpr (by
  have hx : x.length ≤ 2 ^ 30 := hx
  (repeat' first | with_reducible rfl | exact True.intro | refine inR_i64 ?_ ?_ | with_reducible refine And.intro ?_ ?_ | with_reducible refine bcase_dec (fun _ => ?_) (fun _ => ?_) | with_reducible refine bcase_bne (fun _ => ?_) (fun _ => ?_) | with_reducible refine bcase_beq (fun _ => ?_) (fun _ => ?_) | with_reducible refine bcase_not (fun _ => ?_) (fun _ => ?_) | refine bcase_intro (fun _ => ?_) (fun _ => ?_) | refine sl_eq ?_ | refine ex_flip () ?_ ?_ | (apply ex_flip6 <;> try dsimp only) | (apply ex_flip5 <;> try dsimp only) | (apply ex_flip4 <;> try dsimp only) | (apply ex_flip3 <;> try dsimp only) | (apply ex_flip2 <;> try dsimp only) | apply ex_flip | (refine Prod.forall.2 ?_; intro _; try dsimp only) | (intro _; try dsimp only)) <;> (try dsimp only at *) <;> (try simp only [i64max, List.length_cons, List.length_nil]) <;> (try omega)
  · exact fillL_zero
  · rw [fillL_length (by omega)]; omega
  · rw [fillL_length (by omega)]; omega
  · rename_i i hi h e he _ _
    exact fillL_set hi.1 he
  · exact fillL_all (by omega))

def s_toNd  : Sig := { X := Nd, args := fun x => [.agg (ndA false x)], pre := fun x => x.kids.length ≤ 2 ^ 30, Y := Unit, post := fun x y => True, res := fun x y => .agg (ndA true x), outs := fun x y => [.top], keep := false }
theorem toNd_vc (x : Nd) : vcFun Go.Proofs.Tryz.prog (Γof [(35, 0, s_toInts)]) (Eof []) false (Lof ([])) Go.Proofs.Tryz.f51.ntmps Go.Proofs.Tryz.f51.results.toList (Go.Proofs.Tryz.f51.body.getD .skip) s_toNd x = ((∀ (y : Unit), True → (True ∧ True ∧ (∀ (x : Int), True ∧ True) ∧ True ∧ True) ∧ True ∧ True) ∧ ∃ (x_1 : List Int), List.length x_1 ≤ (1073741824 : Nat) ∧ AV.sl false (0 : Nat) (1 : Nat) Int intA x.kids = AV.sl false (0 : Nat) (1 : Nat) Int intA x_1 ∧ ∀ (y : Unit), True → ∃ (y : Unit), True ∧ x.kind = x.kind ∧ x.text = x.text ∧ AV.sl true (0 : Nat) (1 : Nat) Int intA x_1 = AV.sl true (0 : Nat) (1 : Nat) Int intA x.kids ∧ x.blank = x.blank ∧ True) := by kernel_rfl
theorem toNd_ok  : Contract G Tryz.prog 51 s_toNd :=
  vcFun_ok (Γ := Γof [(35, 0, s_toInts)]) (E := Eof []) (ov := false) (L := fun x => Lof ([])) Tryz.func51 rfl (by decide) (Γof_ok (l := [(35, 0, s_toInts)]) ⟨toInts_ok, trivial⟩) fun (x : Nd) (hx : x.kids.length ≤ 2 ^ 30) => (toNd_vc  x).mpr (by
  have hx : x.kids.length ≤ 2 ^ 30 := hx
  (repeat' first | with_reducible rfl | exact True.intro | refine inR_i64 ?_ ?_ | with_reducible refine And.intro ?_ ?_ | with_reducible refine bcase_dec (fun _ => ?_) (fun _ => ?_) | with_reducible refine bcase_bne (fun _ => ?_) (fun _ => ?_) | with_reducible refine bcase_beq (fun _ => ?_) (fun _ => ?_) | with_reducible refine bcase_not (fun _ => ?_) (fun _ => ?_) | refine bcase_intro (fun _ => ?_) (fun _ => ?_) | refine sl_eq ?_ | refine ex_flip () ?_ ?_ | (apply ex_flip6 <;> try dsimp only) | (apply ex_flip5 <;> try dsimp only) | (apply ex_flip4 <;> try dsimp only) | (apply ex_flip3 <;> try dsimp only) | (apply ex_flip2 <;> try dsimp only) | apply ex_flip | (refine Prod.forall.2 ?_; intro _; try dsimp only) | (intro _; try dsimp only)) <;> (try dsimp only at *) <;> (try simp only [i64max, List.length_cons, List.length_nil]) <;> (try omega))

def lToNds (x : List Nd) : LS := {
  ι := Int, inv := fun i => 0 ≤ i ∧ i ≤ x.length, regs := fun i => [(0, nds x), (3, onds (fillL ⟨0, [], [], false⟩ x i)), (4, .int .i64 i)], als := [], meas := fun i => x.length - i.toNat }
def s_toNds  : Sig := { X := List Nd, args := fun x => [nds x], pre := fun x => x.length ≤ 2 ^ 30 ∧ ∀ e ∈ x, e.kids.length ≤ 2 ^ 30, Y := Unit, post := fun x y => True, res := fun x y => onds x, outs := fun x y => [.top], keep := false }
theorem toNds_vc (x : List Nd) : vcFun Go.Proofs.Tryz.prog (Γof [(51, 0, s_toNd)]) (Eof [(24, ⟨Nd,ndA true⟩)]) false (Lof ([(3,lToNds x)])) Go.Proofs.Tryz.f13.ntmps Go.Proofs.Tryz.f13.results.toList (Go.Proofs.Tryz.f13.body.getD .skip) s_toNds x = ((∀ (y : Unit), True → (∀ (x : Nd), True ∧ True ∧ (∀ (x : Int), True ∧ True) ∧ True ∧ True) ∧ True ∧ True) ∧ ((0 : Int) ≤ (↑(List.length x) : Int) ∧ (↑(List.length x) : Int) ≤ (↑(List.length x) : Int) ∧ (↑(56 : Nat) : Int) * (↑(List.length x) : Int) ≤ (2 : Int) ^ (46 : Nat) ∧ (↑(List.length x) : Int) ≤ (2 : Int) ^ (46 : Nat)) ∧ ∃ (x_1 : Nd), (0 : Int) = x_1.kind ∧ #[].toList = x_1.text ∧ x_1.kids = [] ∧ false = x_1.blank ∧ (∃ (i : Int), ((0 : Int) ≤ i ∧ i ≤ (↑(List.length x) : Int)) ∧ (AV.sl false (0 : Nat) (4 : Nat) Nd (ndA false) x = AV.sl false (0 : Nat) (4 : Nat) Nd (ndA false) x ∧ AV.sl true (0 : Nat) (4 : Nat) Nd (ndA true) (List.replicate (Int.toNat (↑(List.length x) : Int)) x_1) = AV.sl true (0 : Nat) (4 : Nat) Nd (ndA true) (fillL { kind := (0 : Int), text := [], kids := [], blank := false } x i) ∧ (0 : Int) = i ∧ True) ∧ True) ∧ ∀ (i : Int), (0 : Int) ≤ i ∧ i ≤ (↑(List.length x) : Int) → bcase (decide (i < (↑(List.length x) : Int))) (((0 : Int) ≤ i ∧ i < (↑(List.length x) : Int)) ∧ ∀ (e : Nd), x[Int.toNat i]? = some e → ∃ (x_2 : Nd), List.length x_2.kids ≤ (1073741824 : Nat) ∧ e.kind = x_2.kind ∧ e.text = x_2.text ∧ AV.sl false (0 : Nat) (1 : Nat) Int intA e.kids = AV.sl false (0 : Nat) (1 : Nat) Int intA x_2.kids ∧ e.blank = x_2.blank ∧ ∀ (y : Unit), True → ((0 : Int) ≤ i ∧ i < (↑(List.length (fillL { kind := (0 : Int), text := [], kids := [], blank := false } x i)) : Int)) ∧ Int.toNat i < List.length (fillL { kind := (0 : Int), text := [], kids := [], blank := false } x i) ∧ ∀ (x_3 : Nd), (fillL { kind := (0 : Int), text := [], kids := [], blank := false } x i)[Int.toNat i]? = some x_3 → ∃ (x' : Nd), ((@List.nil AV) = [] ∧ (@List.nil AV) = []) ∧ x_2.kind = x'.kind ∧ x_2.text = x'.text ∧ AV.sl true (0 : Nat) (1 : Nat) Int intA x_2.kids = AV.sl true (0 : Nat) (1 : Nat) Int intA x'.kids ∧ x_2.blank = x'.blank ∧ inR IntKind.i64 (i + (1 : Int)) ∧ ∃ (i' : Int), ((0 : Int) ≤ i' ∧ i' ≤ (↑(List.length x) : Int)) ∧ List.length x - Int.toNat i' < List.length x - Int.toNat i ∧ (AV.sl false (0 : Nat) (4 : Nat) Nd (ndA false) x = AV.sl false (0 : Nat) (4 : Nat) Nd (ndA false) x ∧ AV.sl true (0 : Nat) (4 : Nat) Nd (ndA true) (List.set (fillL { kind := (0 : Int), text := [], kids := [], blank := false } x i) (Int.toNat i) x') = AV.sl true (0 : Nat) (4 : Nat) Nd (ndA true) (fillL { kind := (0 : Int), text := [], kids := [], blank := false } x i') ∧ i + (1 : Int) = i' ∧ True) ∧ True) (∃ (y : Unit), True ∧ AV.sl true (0 : Nat) (4 : Nat) Nd (ndA true) (fillL { kind := (0 : Int), text := [], kids := [], blank := false } x i) = AV.sl true (0 : Nat) (4 : Nat) Nd (ndA true) x ∧ True)) := by kernel_rfl
theorem toNds_ok  : Contract G Tryz.prog 13 s_toNds :=
  vcFun_ok (Γ := Γof [(51, 0, s_toNd)]) (E := Eof [(24, ⟨Nd,ndA true⟩)]) (ov := false) (L := fun x => Lof ([(3,lToNds x)])) Tryz.func13 rfl (by decide) (Γof_ok (l := [(51, 0, s_toNd)]) ⟨toNd_ok, trivial⟩) fun (x : List Nd) (hx : x.length ≤ 2 ^ 30 ∧ ∀ e ∈ x, e.kids.length ≤ 2 ^ 30) => (toNds_vc  x).mpr (by
  obtain ⟨h1, h2⟩ := hx
  (repeat' first | with_reducible rfl | exact True.intro | refine inR_i64 ?_ ?_ | with_reducible refine And.intro ?_ ?_ | with_reducible refine bcase_dec (fun _ => ?_) (fun _ => ?_) | with_reducible refine bcase_bne (fun _ => ?_) (fun _ => ?_) | with_reducible refine bcase_beq (fun _ => ?_) (fun _ => ?_) | with_reducible refine bcase_not (fun _ => ?_) (fun _ => ?_) | refine bcase_intro (fun _ => ?_) (fun _ => ?_) | refine sl_eq ?_ | refine ex_flip () ?_ ?_ | (apply ex_flip6 <;> try dsimp only) | (apply ex_flip5 <;> try dsimp only) | (apply ex_flip4 <;> try dsimp only) | (apply ex_flip3 <;> try dsimp only) | (apply ex_flip2 <;> try dsimp only) | apply ex_flip | (refine Prod.forall.2 ?_; intro _; try dsimp only) | (intro _; try dsimp only)) <;> (try dsimp only at *) <;> (try simp only [i64max, List.length_cons, List.length_nil]) <;> (try omega)
  any_goals exact (⟨0, [], [], false⟩ : Nd)
  all_goals (try rfl)
  · rw [fillL_length (by omega)]; omega
  · rw [fillL_length (by omega)]; omega
  · rename_i i hi h e he _ _ _ _
    exact fillL_set hi.1 he
  · rename_i i hi h e he
    exact h2 e (memE he)
  · exact fillL_all (by omega))

def lEqInts (x : List Int × List Int) : LS := {
  ι := Int, inv := fun i => 0 ≤ i ∧ i ≤ x.1.length ∧ x.1.take i.toNat = x.2.take i.toNat, regs := fun i => [(0, ints x.1), (1, ints x.2), (5, .int .i64 i)], als := [], meas := fun i => x.1.length - i.toNat }
def s_eqInts  : Sig := { X := List Int × List Int, args := fun x => [ints x.1, ints x.2], pre := fun x => x.1.length < 2 ^ 63 ∧ x.2.length < 2 ^ 63, Y := Unit, post := fun x y => True, res := fun x y => .bool (x.1 == x.2), outs := fun x y => [.top, .top], keep := false }
theorem eqInts_vc (x : List Int × List Int) : vcFun Go.Proofs.Tryz.prog (Γof []) (Eof []) false (Lof ([(4,lEqInts x)])) Go.Proofs.Tryz.f38.ntmps Go.Proofs.Tryz.f38.results.toList (Go.Proofs.Tryz.f38.body.getD .skip) s_eqInts x = ((∀ (y : Unit), True → True ∧ True ∧ True ∧ True) ∧ bcase ((↑(List.length x.fst) : Int) != (↑(List.length x.snd) : Int)) (∃ (y : Unit), True ∧ false = (x.fst == x.snd) ∧ True) ((∃ (i : Int), ((0 : Int) ≤ i ∧ i ≤ (↑(List.length x.fst) : Int) ∧ List.take (Int.toNat i) x.fst = List.take (Int.toNat i) x.snd) ∧ (AV.sl false (0 : Nat) (1 : Nat) Int intA x.fst = AV.sl false (0 : Nat) (1 : Nat) Int intA x.fst ∧ AV.sl false (0 : Nat) (1 : Nat) Int intA x.snd = AV.sl false (0 : Nat) (1 : Nat) Int intA x.snd ∧ (0 : Int) = i ∧ True) ∧ True) ∧ ∀ (i : Int), (0 : Int) ≤ i ∧ i ≤ (↑(List.length x.fst) : Int) ∧ List.take (Int.toNat i) x.fst = List.take (Int.toNat i) x.snd → bcase (decide (i < (↑(List.length x.fst) : Int))) (true = true ∧ true = true ∧ ((0 : Int) ≤ i ∧ i < (↑(List.length x.fst) : Int)) ∧ ∀ (e : Int), x.fst[Int.toNat i]? = some e → ((0 : Int) ≤ i ∧ i < (↑(List.length x.snd) : Int)) ∧ ∀ (e_1 : Int), x.snd[Int.toNat i]? = some e_1 → bcase (e != e_1) (∃ (y : Unit), True ∧ false = (x.fst == x.snd) ∧ True) (inR IntKind.i64 (i + (1 : Int)) ∧ ∃ (i' : Int), ((0 : Int) ≤ i' ∧ i' ≤ (↑(List.length x.fst) : Int) ∧ List.take (Int.toNat i') x.fst = List.take (Int.toNat i') x.snd) ∧ List.length x.fst - Int.toNat i' < List.length x.fst - Int.toNat i ∧ (AV.sl false (0 : Nat) (1 : Nat) Int intA x.fst = AV.sl false (0 : Nat) (1 : Nat) Int intA x.fst ∧ AV.sl false (0 : Nat) (1 : Nat) Int intA x.snd = AV.sl false (0 : Nat) (1 : Nat) Int intA x.snd ∧ i + (1 : Int) = i' ∧ True) ∧ True)) (∃ (y : Unit), True ∧ true = (x.fst == x.snd) ∧ True))) := by kernel_rfl
theorem eqInts_ok  : Contract G Tryz.prog 38 s_eqInts :=
  vcFun_ok (Γ := Γof []) (E := Eof []) (ov := false) (L := fun x => Lof ([(4,lEqInts x)])) Tryz.func38 rfl (by decide) (Γof_ok (l := []) trivial) fun (x : List Int × List Int) (hx : x.1.length < 2 ^ 63 ∧ x.2.length < 2 ^ 63) => (eqInts_vc  x).mpr (by
  obtain ⟨h1, h2⟩ := hx
  (repeat' first | with_reducible rfl | exact True.intro | refine inR_i64 ?_ ?_ | with_reducible refine And.intro ?_ ?_ | with_reducible refine bcase_dec (fun _ => ?_) (fun _ => ?_) | with_reducible refine bcase_bne (fun _ => ?_) (fun _ => ?_) | with_reducible refine bcase_beq (fun _ => ?_) (fun _ => ?_) | with_reducible refine bcase_not (fun _ => ?_) (fun _ => ?_) | refine bcase_intro (fun _ => ?_) (fun _ => ?_) | refine sl_eq ?_ | refine ex_flip () ?_ ?_ | (apply ex_flip6 <;> try dsimp only) | (apply ex_flip5 <;> try dsimp only) | (apply ex_flip4 <;> try dsimp only) | (apply ex_flip3 <;> try dsimp only) | (apply ex_flip2 <;> try dsimp only) | apply ex_flip | (refine Prod.forall.2 ?_; intro _; try dsimp only) | (intro _; try dsimp only)) <;> (try dsimp only at *) <;> (try simp only [i64max, List.length_cons, List.length_nil]) <;> (try omega)
  · rename_i h; exact bneE (fun e => h (by rw [e]))
  · rfl
  · rename_i h i hi hl e he f hf hn
    exact bneE (fun e => hn (by rw [e, hf] at he; exact (Option.some.inj he).symm))
  · rename_i h i hi hl e he f hf hn
    exact takeEq hi.1 hi.2.2 he hf hn
  · rename_i h i hi hl
    exact beqE (takeAll (by omega) hi.2.2 (by omega)))

def s_eqNd  : Sig := { X := Nd × Nd, args := fun x => [.agg (ndA false x.1), .agg (ndA false x.2)], pre := fun x => smallNd x.1 ∧ smallNd x.2, Y := Unit, post := fun x y => True, res := fun x y => .bool (beqNd x.1 x.2), outs := fun x y => [.top, .top], keep := false }
theorem eqNd_vc (x : Nd × Nd) : vcFun Go.Proofs.Tryz.prog (Γof [(38, 0, s_eqInts)]) (Eof []) false (Lof ([])) Go.Proofs.Tryz.f58.ntmps Go.Proofs.Tryz.f58.results.toList (Go.Proofs.Tryz.f58.body.getD .skip) s_eqNd x = ((∀ (y : Unit), True → True ∧ True ∧ True ∧ True) ∧ bcase (x.fst.kind != x.snd.kind) (∃ (y : Unit), True ∧ false = beqNd x.fst x.snd ∧ True) (bcase (!x.fst.text == x.snd.text) (∃ (y : Unit), True ∧ false = beqNd x.fst x.snd ∧ True) (∃ (x_1 : List Int × List Int), (List.length x_1.fst < (9223372036854775808 : Nat) ∧ List.length x_1.snd < (9223372036854775808 : Nat)) ∧ AV.sl false (0 : Nat) (1 : Nat) Int intA x.fst.kids = AV.sl false (0 : Nat) (1 : Nat) Int intA x_1.fst ∧ AV.sl false (0 : Nat) (1 : Nat) Int intA x.snd.kids = AV.sl false (0 : Nat) (1 : Nat) Int intA x_1.snd ∧ ∀ (y : Unit), True → bcase (!x_1.fst == x_1.snd) (∃ (y : Unit), True ∧ false = beqNd x.fst x.snd ∧ True) (bcase (!x.fst.blank == x.snd.blank) (∃ (y : Unit), True ∧ false = beqNd x.fst x.snd ∧ True) (∃ (y : Unit), True ∧ true = beqNd x.fst x.snd ∧ True))))) := by kernel_rfl
theorem eqNd_ok  : Contract G Tryz.prog 58 s_eqNd :=
  vcFun_ok (Γ := Γof [(38, 0, s_eqInts)]) (E := Eof []) (ov := false) (L := fun x => Lof ([])) Tryz.func58 rfl (by decide) (Γof_ok (l := [(38, 0, s_eqInts)]) ⟨eqInts_ok, trivial⟩) fun (x : Nd × Nd) (hx : smallNd x.1 ∧ smallNd x.2) => (eqNd_vc  x).mpr (by
  obtain ⟨h1, h2⟩ := hx
  (repeat' first | with_reducible rfl | exact True.intro | refine inR_i64 ?_ ?_ | with_reducible refine And.intro ?_ ?_ | with_reducible refine bcase_dec (fun _ => ?_) (fun _ => ?_) | with_reducible refine bcase_bne (fun _ => ?_) (fun _ => ?_) | with_reducible refine bcase_beq (fun _ => ?_) (fun _ => ?_) | with_reducible refine bcase_not (fun _ => ?_) (fun _ => ?_) | refine bcase_intro (fun _ => ?_) (fun _ => ?_) | refine sl_eq ?_ | refine ex_flip () ?_ ?_ | (apply ex_flip6 <;> try dsimp only) | (apply ex_flip5 <;> try dsimp only) | (apply ex_flip4 <;> try dsimp only) | (apply ex_flip3 <;> try dsimp only) | (apply ex_flip2 <;> try dsimp only) | apply ex_flip | (refine Prod.forall.2 ?_; intro _; try dsimp only) | (intro _; try dsimp only)) <;> (try dsimp only at *) <;> (try simp only [i64max, List.length_cons, List.length_nil]) <;> (try omega)
  · simp [beqNd, *]
  · simp [beqNd, *]
  · simp [beqNd, *]
  · simp [beqNd, *]
  · simp [beqNd, *]
  · exact h1.2
  · exact h2.2)

def lEqNds (x : List Nd × List Nd) : LS := {
  ι := Int, inv := fun i => 0 ≤ i ∧ i ≤ x.1.length ∧ x.1.take i.toNat = x.2.take i.toNat, regs := fun i => [(0, nds x.1), (1, nds x.2), (5, .int .i64 i)], als := [], meas := fun i => x.1.length - i.toNat }
def s_eqNds  : Sig := { X := List Nd × List Nd, args := fun x => [nds x.1, nds x.2], pre := fun x => smallNds x.1 ∧ smallNds x.2, Y := Unit, post := fun x y => True, res := fun x y => .bool (beqNds x.1 x.2), outs := fun x y => [.top, .top], keep := false }
theorem eqNds_vc (x : List Nd × List Nd) : vcFun Go.Proofs.Tryz.prog (Γof [(58, 0, s_eqNd)]) (Eof []) false (Lof ([(4,lEqNds x)])) Go.Proofs.Tryz.f15.ntmps Go.Proofs.Tryz.f15.results.toList (Go.Proofs.Tryz.f15.body.getD .skip) s_eqNds x = ((∀ (y : Unit), True → True ∧ True ∧ True ∧ True) ∧ bcase ((↑(List.length x.fst) : Int) != (↑(List.length x.snd) : Int)) (∃ (y : Unit), True ∧ false = beqNds x.fst x.snd ∧ True) ((∃ (i : Int), ((0 : Int) ≤ i ∧ i ≤ (↑(List.length x.fst) : Int) ∧ List.take (Int.toNat i) x.fst = List.take (Int.toNat i) x.snd) ∧ (AV.sl false (0 : Nat) (4 : Nat) Nd (ndA false) x.fst = AV.sl false (0 : Nat) (4 : Nat) Nd (ndA false) x.fst ∧ AV.sl false (0 : Nat) (4 : Nat) Nd (ndA false) x.snd = AV.sl false (0 : Nat) (4 : Nat) Nd (ndA false) x.snd ∧ (0 : Int) = i ∧ True) ∧ True) ∧ ∀ (i : Int), (0 : Int) ≤ i ∧ i ≤ (↑(List.length x.fst) : Int) ∧ List.take (Int.toNat i) x.fst = List.take (Int.toNat i) x.snd → bcase (decide (i < (↑(List.length x.fst) : Int))) (true = true ∧ true = true ∧ ((0 : Int) ≤ i ∧ i < (↑(List.length x.fst) : Int)) ∧ ∀ (e : Nd), x.fst[Int.toNat i]? = some e → ((0 : Int) ≤ i ∧ i < (↑(List.length x.snd) : Int)) ∧ ∀ (e_1 : Nd), x.snd[Int.toNat i]? = some e_1 → ∃ (x_1 : Nd × Nd), (smallNd x_1.fst ∧ smallNd x_1.snd) ∧ e.kind = x_1.fst.kind ∧ e.text = x_1.fst.text ∧ AV.sl false (0 : Nat) (1 : Nat) Int intA e.kids = AV.sl false (0 : Nat) (1 : Nat) Int intA x_1.fst.kids ∧ e.blank = x_1.fst.blank ∧ e_1.kind = x_1.snd.kind ∧ e_1.text = x_1.snd.text ∧ AV.sl false (0 : Nat) (1 : Nat) Int intA e_1.kids = AV.sl false (0 : Nat) (1 : Nat) Int intA x_1.snd.kids ∧ e_1.blank = x_1.snd.blank ∧ ∃ (y0 : Unit), (∀ (y : Unit), True → AV.bool (beqNd x_1.fst x_1.snd) = AV.bool (beqNd x_1.fst x_1.snd)) ∧ true = true ∧ bcase (!beqNd x_1.fst x_1.snd) (∃ (y : Unit), True ∧ false = beqNds x.fst x.snd ∧ True) (inR IntKind.i64 (i + (1 : Int)) ∧ ∃ (i' : Int), ((0 : Int) ≤ i' ∧ i' ≤ (↑(List.length x.fst) : Int) ∧ List.take (Int.toNat i') x.fst = List.take (Int.toNat i') x.snd) ∧ List.length x.fst - Int.toNat i' < List.length x.fst - Int.toNat i ∧ (AV.sl false (0 : Nat) (4 : Nat) Nd (ndA false) x.fst = AV.sl false (0 : Nat) (4 : Nat) Nd (ndA false) x.fst ∧ AV.sl false (0 : Nat) (4 : Nat) Nd (ndA false) x.snd = AV.sl false (0 : Nat) (4 : Nat) Nd (ndA false) x.snd ∧ i + (1 : Int) = i' ∧ True) ∧ True)) (∃ (y : Unit), True ∧ true = beqNds x.fst x.snd ∧ True))) := by kernel_rfl
theorem eqNds_ok  : Contract G Tryz.prog 15 s_eqNds :=
  vcFun_ok (Γ := Γof [(58, 0, s_eqNd)]) (E := Eof []) (ov := false) (L := fun x => Lof ([(4,lEqNds x)])) Tryz.func15 rfl (by decide) (Γof_ok (l := [(58, 0, s_eqNd)]) ⟨eqNd_ok, trivial⟩) fun (x : List Nd × List Nd) (hx : smallNds x.1 ∧ smallNds x.2) => (eqNds_vc  x).mpr (by
  obtain ⟨h1, h2⟩ := hx; have hl1 := h1.1; have hl2 := h2.1
  (repeat' first | with_reducible rfl | exact True.intro | refine inR_i64 ?_ ?_ | with_reducible refine And.intro ?_ ?_ | with_reducible refine bcase_dec (fun _ => ?_) (fun _ => ?_) | with_reducible refine bcase_bne (fun _ => ?_) (fun _ => ?_) | with_reducible refine bcase_beq (fun _ => ?_) (fun _ => ?_) | with_reducible refine bcase_not (fun _ => ?_) (fun _ => ?_) | refine bcase_intro (fun _ => ?_) (fun _ => ?_) | refine sl_eq ?_ | refine ex_flip () ?_ ?_ | (apply ex_flip6 <;> try dsimp only) | (apply ex_flip5 <;> try dsimp only) | (apply ex_flip4 <;> try dsimp only) | (apply ex_flip3 <;> try dsimp only) | (apply ex_flip2 <;> try dsimp only) | apply ex_flip | (refine Prod.forall.2 ?_; intro _; try dsimp only) | (intro _; try dsimp only)) <;> (try dsimp only at *) <;> (try simp only [i64max, List.length_cons, List.length_nil]) <;> (try omega)
  · rename_i h; exact beqNds_false (fun e => h (by rw [e]))
  · rfl
  · rename_i h i hi hl e he f hf hn
    exact beqNds_false (fun e => by rw [e, hf] at he; rw [Option.some.inj he, beqNd_self] at hn; cases hn)
  · rename_i h i hi hl e he f hf hn
    exact takeEq hi.1 hi.2.2 he hf (beqNd_eq.1 hn)
  · rename_i h i hi hl e he f hf
    exact h1.2 _ (memE he)
  · rename_i h i hi hl e he f hf
    exact h2.2 _ (memE hf)
  · rename_i h i hi hl
    exact beqNds_true (takeAll (by omega) hi.2.2 (by omega)))

end Go.My
end
section
/- Groups: keys, and what GroupsOf returns. -/
set_option linter.unusedVariables false
set_option linter.unusedSimpArgs false
namespace Go.My
open Go.Eng Go.Proofs
variable {G : GInv}

structure Gr where
  notes : List Int
  member : Int
def grA (o : Bool) : Gr → List AV := fun g => [.sl o 0 1 Int intA g.notes, .int .i64 g.member]
def grs (l : List Gr) : AV := .sl false 0 2 Gr (grA false) l
def ogrs (l : List Gr) : AV := .sl true 0 2 Gr (grA true) l
def gkey (l : List Nd) (m : Int) : List UInt8 :=
  if isNd l m then (if kindAt l m = 12 then [97] ++ (ndAt l m).text else if kindAt l m = 21 then [98] ++ (ndAt l m).text else if kindAt l m = 20 then [99] ++ (ndAt l m).text else [100])
  else [100]
theorem gkey_of {l : List Nd} {m : Int} {x : Nd} (hx : l[m.toNat]? = some x) (h : isNd l m = true) : gkey l m = if x.kind = 12 then [97] ++ x.text else if x.kind = 21 then [98] ++ x.text else if x.kind = 20 then [99] ++ x.text else [100] := by
  rw [gkey, if_pos h, kindAt, ndAt_of hx]
def s_iGroupKey  : Sig := { X := List Nd × Int, args := fun x => [nds x.1, .agg [.any, .int .i64 x.2]], pre := fun x => x.1.length < 2 ^ 62 ∧ ∀ e ∈ x.1, e.text.length ≤ 2 ^ 40, Y := Unit, post := fun x y => True, res := fun x y => .str (gkey x.1 x.2), outs := fun x y => [.top, .top], keep := false }
theorem iGroupKey_vc (x : List Nd × Int) : vcFun Go.Proofs.Tryz.prog (Γof [(118, 0, s_isNode)]) (Eof []) false (Lof ([])) Go.Proofs.Tryz.f67.ntmps Go.Proofs.Tryz.f67.results.toList (Go.Proofs.Tryz.f67.body.getD .skip) s_iGroupKey x = ((∀ (y : Unit), True → True ∧ True ∧ True ∧ True) ∧ ∃ (x_1 : List Nd × Int), List.length x_1.fst < (4611686018427387904 : Nat) ∧ AV.sl false (0 : Nat) (4 : Nat) Nd (ndA false) x.fst = AV.sl false (0 : Nat) (4 : Nat) Nd (ndA false) x_1.fst ∧ x.snd = x_1.snd ∧ ∀ (y : Unit), True → bcase (!isNd x_1.fst x_1.snd) (∃ (y : Unit), True ∧ #[(100 : UInt8)].toList = gkey x.fst x.snd ∧ True) (((0 : Int) ≤ x.snd ∧ x.snd < (↑(List.length x.fst) : Int)) ∧ ∀ (e : Nd), x.fst[Int.toNat x.snd]? = some e → bcase (e.kind == (12 : Int)) ((↑((1 : Nat) + List.length e.text) : Int) ≤ IntKind.max IntKind.i64 ∧ ∃ (y : Unit), True ∧ #[(97 : UInt8)].toList ++ e.text = gkey x.fst x.snd ∧ True) (bcase (e.kind == (21 : Int)) ((↑((1 : Nat) + List.length e.text) : Int) ≤ IntKind.max IntKind.i64 ∧ ∃ (y : Unit), True ∧ #[(98 : UInt8)].toList ++ e.text = gkey x.fst x.snd ∧ True) (bcase (e.kind == (20 : Int)) ((↑((1 : Nat) + List.length e.text) : Int) ≤ IntKind.max IntKind.i64 ∧ ∃ (y : Unit), True ∧ #[(99 : UInt8)].toList ++ e.text = gkey x.fst x.snd ∧ True) (∃ (y : Unit), True ∧ #[(100 : UInt8)].toList = gkey x.fst x.snd ∧ True))))) := by kernel_rfl
theorem iGroupKey_ok  : Contract G Tryz.prog 67 s_iGroupKey :=
  vcFun_ok (Γ := Γof [(118, 0, s_isNode)]) (E := Eof []) (ov := false) (L := fun x => Lof ([])) Tryz.func67 rfl (by decide) (Γof_ok (l := [(118, 0, s_isNode)]) ⟨isNode_ok, trivial⟩) fun (x : List Nd × Int) (hx : x.1.length < 2 ^ 62 ∧ ∀ e ∈ x.1, e.text.length ≤ 2 ^ 40) => (iGroupKey_vc  x).mpr (by
  obtain ⟨h1, h2⟩ := hx
  (repeat' first | with_reducible rfl | exact True.intro | refine inR_i64 ?_ ?_ | with_reducible refine And.intro ?_ ?_ | with_reducible refine bcase_dec (fun _ => ?_) (fun _ => ?_) | with_reducible refine bcase_bne (fun _ => ?_) (fun _ => ?_) | with_reducible refine bcase_beq (fun _ => ?_) (fun _ => ?_) | with_reducible refine bcase_not (fun _ => ?_) (fun _ => ?_) | refine bcase_intro (fun _ => ?_) (fun _ => ?_) | refine sl_eq ?_ | refine ex_flip () ?_ ?_ | (apply ex_flip6 <;> try dsimp only) | (apply ex_flip5 <;> try dsimp only) | (apply ex_flip4 <;> try dsimp only) | (apply ex_flip3 <;> try dsimp only) | (apply ex_flip2 <;> try dsimp only) | apply ex_flip | (refine Prod.forall.2 ?_; intro _; try dsimp only) | (intro _; try dsimp only))
  all_goals first
    | omega
    | (have hn := isNd_iff.1 (show isNd x.1 x.2 = true by assumption); omega)
    | (have ht := h2 _ (memE (show x.1[Int.toNat _]? = some _ by assumption)); simp; omega)
    | (rw [gkey_of (by assumption) (by assumption)]; simp [*]; done)
    | (simp [gkey, *]; done)
    | skip)

def s_sGroupKey  : Sig := { X := List Nd × Int, args := fun x => [nds x.1, .agg [.any, .int .i64 x.2]], pre := fun x => x.1.length < 2 ^ 62 ∧ ∀ e ∈ x.1, e.text.length ≤ 2 ^ 40, Y := Unit, post := fun x y => True, res := fun x y => .str (gkey x.1 x.2), outs := fun x y => [.top, .top], keep := false }
theorem sGroupKey_vc (x : List Nd × Int) : vcFun Go.Proofs.Tryz.prog (Γof [(84, 0, s_l01In)]) (Eof []) false (Lof ([])) Go.Proofs.Tryz.f62.ntmps Go.Proofs.Tryz.f62.results.toList (Go.Proofs.Tryz.f62.body.getD .skip) s_sGroupKey x = ((∀ (y : Unit), True → True ∧ True ∧ True ∧ True) ∧ inR IntKind.i64 ((↑(List.length x.fst) : Int) - (1 : Int)) ∧ ∃ (x_1 : Int × Int × Int), True ∧ x.snd = x_1.fst ∧ (0 : Int) = x_1.snd.fst ∧ (↑(List.length x.fst) : Int) - (1 : Int) = x_1.snd.snd ∧ ∀ (y : Unit), True → bcase (!inn x_1.fst x_1.snd.fst x_1.snd.snd) (∃ (y : Unit), True ∧ #[(100 : UInt8)].toList = gkey x.fst x.snd ∧ True) (((0 : Int) ≤ x.snd ∧ x.snd < (↑(List.length x.fst) : Int)) ∧ ∀ (e : Nd), x.fst[Int.toNat x.snd]? = some e → bcase (e.kind == (12 : Int)) ((↑((1 : Nat) + List.length e.text) : Int) ≤ IntKind.max IntKind.i64 ∧ ∃ (y : Unit), True ∧ #[(97 : UInt8)].toList ++ e.text = gkey x.fst x.snd ∧ True) (bcase (e.kind == (21 : Int)) ((↑((1 : Nat) + List.length e.text) : Int) ≤ IntKind.max IntKind.i64 ∧ ∃ (y : Unit), True ∧ #[(98 : UInt8)].toList ++ e.text = gkey x.fst x.snd ∧ True) (bcase (e.kind == (20 : Int)) ((↑((1 : Nat) + List.length e.text) : Int) ≤ IntKind.max IntKind.i64 ∧ ∃ (y : Unit), True ∧ #[(99 : UInt8)].toList ++ e.text = gkey x.fst x.snd ∧ True) (∃ (y : Unit), True ∧ #[(100 : UInt8)].toList = gkey x.fst x.snd ∧ True))))) := by kernel_rfl
theorem sGroupKey_ok  : Contract G Tryz.prog 62 s_sGroupKey :=
  vcFun_ok (Γ := Γof [(84, 0, s_l01In)]) (E := Eof []) (ov := false) (L := fun x => Lof ([])) Tryz.func62 rfl (by decide) (Γof_ok (l := [(84, 0, s_l01In)]) ⟨l01In_ok, trivial⟩) fun (x : List Nd × Int) (hx : x.1.length < 2 ^ 62 ∧ ∀ e ∈ x.1, e.text.length ≤ 2 ^ 40) => (sGroupKey_vc  x).mpr (by
  obtain ⟨h1, h2⟩ := hx
  (repeat' first | with_reducible rfl | exact True.intro | refine inR_i64 ?_ ?_ | with_reducible refine And.intro ?_ ?_ | with_reducible refine bcase_dec (fun _ => ?_) (fun _ => ?_) | with_reducible refine bcase_bne (fun _ => ?_) (fun _ => ?_) | with_reducible refine bcase_beq (fun _ => ?_) (fun _ => ?_) | with_reducible refine bcase_not (fun _ => ?_) (fun _ => ?_) | refine bcase_intro (fun _ => ?_) (fun _ => ?_) | refine sl_eq ?_ | refine ex_flip () ?_ ?_ | (apply ex_flip6 <;> try dsimp only) | (apply ex_flip5 <;> try dsimp only) | (apply ex_flip4 <;> try dsimp only) | (apply ex_flip3 <;> try dsimp only) | (apply ex_flip2 <;> try dsimp only) | apply ex_flip | (refine Prod.forall.2 ?_; intro _; try dsimp only) | (intro _; try dsimp only))
  all_goals try rw [isNd_inn] at *
  all_goals first
    | ((try simp only [i64max]); omega)
    | (have hn := isNd_iff.1 (show isNd x.1 x.2 = true by assumption); omega)
    | (have ht := h2 _ (memE (show x.1[Int.toNat _]? = some _ by assumption)); simp; omega)
    | (rw [gkey_of (by assumption) (by assumption)]; simp [*]; done)
    | (simp [gkey, *]; done)
    | skip)

/- the groups -/
def grp (ns : List Nd) : List Int → List Int → List Gr
  | [], notes => if 0 < notes.length then [⟨notes, -1⟩] else []
  | c :: l, notes => if kindAt ns c = 19 then grp ns l (notes ++ [c]) else ⟨notes, c⟩ :: grp ns l []
def fileKids (ns : List Nd) : List Int := (ndAt ns (ns.length - 1)).kids
def groupsOf (ns : List Nd) : List Gr := if treeOk ns then grp ns (fileKids ns) [] else []
def gI (ns : List Nd) (i : Int) (out : List Gr) (notes : List Int) : Prop :=
  treeOk ns = true ∧ 0 ≤ i ∧ i ≤ (fileKids ns).length ∧ out ++ grp ns ((fileKids ns).drop i.toNat) notes = groupsOf ns ∧ out.length ≤ i ∧ notes.length ≤ i
theorem treeOk_last {ns : List Nd} (h : treeOk ns = true) : 1 ≤ ns.length ∧ nodeOk ns (ns.length - 1) = true := by
  simp only [treeOk, Bool.and_eq_true, decide_eq_true_eq, Bool.not_eq_true', decide_eq_false_iff_not] at h
  exact ⟨h.1.1, okUp_at (okUp_of h.2.2.1)⟩
theorem fileKids_ok {ns : List Nd} (h : treeOk ns = true) : (fileKids ns).length ≤ 12 ∧ ∀ c ∈ fileKids ns, 0 ≤ c ∧ c < ns.length - 1 := by
  have := nodeOk_parts (treeOk_last h).2
  exact ⟨this.2.1, this.2.2.2.1⟩
theorem gI_init {ns : List Nd} (h : treeOk ns = true) : gI ns 0 [] [] := ⟨h, by omega, by omega, by simp [groupsOf, h], by simp, by simp⟩
theorem gI_note {ns : List Nd} {i c c' : Int} {out : List Gr} {notes : List Int} {y : Nd} (h : gI ns i out notes) (hy : ns[c'.toNat]? = some y) (hk : y.kind = 19) (hc' : (fileKids ns)[i.toNat]? = some c') (hc : (fileKids ns)[i.toNat]? = some c) : gI ns (i + 1) out (notes ++ [c]) := by
  obtain ⟨h0, h1, h2, h3, h4, h5⟩ := h
  obtain rfl : c' = c := Option.some.inj (hc'.symm.trans hc)
  have := (getE hc).1
  refine ⟨h0, by omega, by omega, ?_, by omega, by simp; omega⟩
  rw [← h3, dropE hc, toNat1 h1, grp, if_pos (by rw [kindAt, ndAt_of hy, hk])]
theorem gI_mem {ns : List Nd} {i c c' : Int} {out : List Gr} {notes : List Int} {y : Nd} (h : gI ns i out notes) (hy : ns[c'.toNat]? = some y) (hk : y.kind ≠ 19) (hc' : (fileKids ns)[i.toNat]? = some c') (hc : (fileKids ns)[i.toNat]? = some c) : gI ns (i + 1) (out ++ [⟨notes, c⟩]) [] := by
  obtain ⟨h0, h1, h2, h3, h4, h5⟩ := h
  obtain rfl : c' = c := Option.some.inj (hc'.symm.trans hc)
  have := (getE hc).1
  refine ⟨h0, by omega, by omega, ?_, by simp; omega, by simp; omega⟩
  rw [← h3, dropE hc, toNat1 h1, grp, if_neg (by rw [kindAt, ndAt_of hy]; exact hk), List.append_assoc]; rfl
theorem gI_end1 {ns : List Nd} {i : Int} {out : List Gr} {notes : List Int} (h : gI ns i out notes) (hl : ¬ i < (fileKids ns).length) (hn : (notes.length : Int) > 0) : out ++ [⟨notes, -1⟩] = groupsOf ns := by
  have h3 := h.2.2.2.1
  rw [List.drop_eq_nil_of_le (by have := h.2.1; omega), grp, if_pos (by omega)] at h3; exact h3
theorem gI_end2 {ns : List Nd} {i : Int} {out : List Gr} {notes : List Int} (h : gI ns i out notes) (hl : ¬ i < (fileKids ns).length) (hn : ¬ (notes.length : Int) > 0) : out = groupsOf ns := by
  have h3 := h.2.2.2.1
  rw [List.drop_eq_nil_of_le (by have := h.2.1; omega), grp, if_neg (by omega)] at h3; simpa using h3
theorem gI_none {ns : List Nd} (h : treeOk ns = false) : groupsOf ns = [] := by simp [groupsOf, h]
theorem gI_kid {ns : List Nd} {i c : Int} {out : List Gr} {notes : List Int} (h : gI ns i out notes) (hc : (fileKids ns)[i.toNat]? = some c) : 0 ≤ c ∧ c < ns.length := by
  have := (fileKids_ok h.1).2 c (memE hc); omega
theorem gI_len {ns : List Nd} {i : Int} {out : List Gr} {notes : List Int} (h : gI ns i out notes) : (0 ≤ i ∧ i ≤ (fileKids ns).length) ∧ (fileKids ns).length ≤ 12 ∧ out.length ≤ 12 ∧ notes.length ≤ 12 := by
  have h1 := (fileKids_ok h.1).1
  obtain ⟨_, h2, h3, _, h4, h5⟩ := h
  omega
def lGr (x : List Nd) : LS := {
  ι := Int × List Gr × List Int, inv := fun i => gI x i.1 i.2.1 i.2.2,
  regs := fun i => [(0, nds x), (3, ogrs i.2.1), (4, oints i.2.2), (16, ints (fileKids x)), (17, .int .i64 (fileKids x).length), (18, .int .i64 i.1)], als := [], meas := fun i => (fileKids x).length - i.1.toNat }
theorem grp_len {ns : List Nd} : ∀ {l notes : List Int}, (grp ns l notes).length ≤ l.length + (if 0 < notes.length then 1 else 0) ∧ ∀ g ∈ grp ns l notes, g.notes.length ≤ l.length + notes.length
  | [], notes => by
    unfold grp
    split
    · rename_i h; simp [h]
    · simp
  | c :: l, notes => by
    unfold grp
    split
    · obtain ⟨h1, h2⟩ := @grp_len ns l (notes ++ [c])
      refine ⟨?_, fun g hg => ?_⟩
      · simp at h1 ⊢; omega
      · have := h2 g hg; simp at this ⊢; omega
    · obtain ⟨h1, h2⟩ := @grp_len ns l []
      refine ⟨?_, fun g hg => ?_⟩
      · simp at h1 ⊢; omega
      · rcases List.mem_cons.1 hg with h | h
        · subst h; simp
        · have := h2 g h; simp at this ⊢; omega
theorem groupsOf_len {ns : List Nd} : (groupsOf ns).length ≤ 12 ∧ ∀ g ∈ groupsOf ns, g.notes.length ≤ 12 := by
  unfold groupsOf
  split
  · rename_i h
    have h0 := (fileKids_ok h).1
    obtain ⟨h1, h2⟩ := @grp_len ns (fileKids ns) []
    simp at h1 h2
    exact ⟨by omega, fun g hg => by have := h2 g hg; omega⟩
  · simp
def s_iGroupsOf  : Sig := { X := List Nd, args := fun x => [nds x], pre := fun x => okNds x ∧ x.length ≤ 2 ^ 30, Y := Unit, post := fun x y => True, res := fun x y => ogrs (groupsOf x), outs := fun x y => [.top], keep := false }
theorem iGroupsOf_vc (x : List Nd) : vcFun Go.Proofs.Tryz.prog (Γof [(52, 0, s_iTreeOk)]) (Eof [(39, ⟨Int,intA⟩), (30, ⟨Gr,grA true⟩)]) false (Lof ([(6,lGr x)])) Go.Proofs.Tryz.f63.ntmps Go.Proofs.Tryz.f63.results.toList (Go.Proofs.Tryz.f63.body.getD .skip) s_iGroupsOf x = ((∀ (y : Unit), True → (∀ (x : Gr), (∀ (x : Int), True ∧ True) ∧ True ∧ True) ∧ True ∧ True) ∧ ∃ (x_1 : List Nd), (okNds x_1 ∧ List.length x_1 ≤ (1073741824 : Nat)) ∧ AV.sl false (0 : Nat) (4 : Nat) Nd (ndA false) x = AV.sl false (0 : Nat) (4 : Nat) Nd (ndA false) x_1 ∧ ∀ (y : Unit), True → bcase (!treeOk x_1) (∃ (y : Unit), True ∧ groupsOf x = [] ∧ True) (inR IntKind.i64 ((↑(List.length x) : Int) - (1 : Int)) ∧ ((0 : Int) ≤ (↑(List.length x) : Int) - (1 : Int) ∧ (↑(List.length x) : Int) - (1 : Int) < (↑(List.length x) : Int)) ∧ ∀ (e : Nd), x[Int.toNat ((↑(List.length x) : Int) - (1 : Int))]? = some e → (∃ (i : Int × List Gr × List Int), gI x i.fst i.snd.fst i.snd.snd ∧ (AV.sl false (0 : Nat) (4 : Nat) Nd (ndA false) x = AV.sl false (0 : Nat) (4 : Nat) Nd (ndA false) x ∧ i.snd.fst = [] ∧ i.snd.snd = [] ∧ AV.sl false (0 : Nat) (1 : Nat) Int intA e.kids = AV.sl false (0 : Nat) (1 : Nat) Int intA (fileKids x) ∧ (↑(List.length e.kids) : Int) = (↑(List.length (fileKids x)) : Int) ∧ (0 : Int) = i.fst ∧ True) ∧ True) ∧ ∀ (i : Int × List Gr × List Int), gI x i.fst i.snd.fst i.snd.snd → bcase (decide (i.fst < (↑(List.length (fileKids x)) : Int))) (((0 : Int) ≤ i.fst ∧ i.fst < (↑(List.length (fileKids x)) : Int)) ∧ ∀ (e : Int), (fileKids x)[Int.toNat i.fst]? = some e → ((0 : Int) ≤ e ∧ e < (↑(List.length x) : Int)) ∧ ∀ (e_1 : Nd), x[Int.toNat e]? = some e_1 → bcase (e_1.kind == (19 : Int)) (∃ (x_2 : Int), e = x_2 ∧ ∃ (zs : List Int), AV.sl true (0 : Nat) (1 : Nat) Int intA [x_2] = AV.sl true (0 : Nat) (1 : Nat) Int intA zs ∧ leafy intA ∧ room (List.length i.snd.snd + List.length zs) (8 : Nat) ∧ inR IntKind.i64 (i.fst + (1 : Int)) ∧ ∃ (i' : Int × List Gr × List Int), gI x i'.fst i'.snd.fst i'.snd.snd ∧ List.length (fileKids x) - Int.toNat i'.fst < List.length (fileKids x) - Int.toNat i.fst ∧ (AV.sl false (0 : Nat) (4 : Nat) Nd (ndA false) x = AV.sl false (0 : Nat) (4 : Nat) Nd (ndA false) x ∧ AV.sl true (0 : Nat) (2 : Nat) Gr (grA true) i.snd.fst = AV.sl true (0 : Nat) (2 : Nat) Gr (grA true) i'.snd.fst ∧ AV.sl true (0 : Nat) (1 : Nat) Int intA (i.snd.snd ++ zs) = AV.sl true (0 : Nat) (1 : Nat) Int intA i'.snd.snd ∧ AV.sl false (0 : Nat) (1 : Nat) Int intA (fileKids x) = AV.sl false (0 : Nat) (1 : Nat) Int intA (fileKids x) ∧ (↑(List.length (fileKids x)) : Int) = (↑(List.length (fileKids x)) : Int) ∧ i.fst + (1 : Int) = i'.fst ∧ True) ∧ True) (∃ (x_2 : Gr), AV.sl true (0 : Nat) (1 : Nat) Int intA i.snd.snd = AV.sl true (0 : Nat) (1 : Nat) Int intA x_2.notes ∧ e = x_2.member ∧ ∃ (zs : List Gr), AV.sl true (0 : Nat) (2 : Nat) Gr (grA true) [x_2] = AV.sl true (0 : Nat) (2 : Nat) Gr (grA true) zs ∧ leafy (grA true) ∧ room (List.length i.snd.fst + List.length zs) (32 : Nat) ∧ inR IntKind.i64 (i.fst + (1 : Int)) ∧ ∃ (i' : Int × List Gr × List Int), gI x i'.fst i'.snd.fst i'.snd.snd ∧ List.length (fileKids x) - Int.toNat i'.fst < List.length (fileKids x) - Int.toNat i.fst ∧ (AV.sl false (0 : Nat) (4 : Nat) Nd (ndA false) x = AV.sl false (0 : Nat) (4 : Nat) Nd (ndA false) x ∧ AV.sl true (0 : Nat) (2 : Nat) Gr (grA true) (i.snd.fst ++ zs) = AV.sl true (0 : Nat) (2 : Nat) Gr (grA true) i'.snd.fst ∧ i'.snd.snd = [] ∧ AV.sl false (0 : Nat) (1 : Nat) Int intA (fileKids x) = AV.sl false (0 : Nat) (1 : Nat) Int intA (fileKids x) ∧ (↑(List.length (fileKids x)) : Int) = (↑(List.length (fileKids x)) : Int) ∧ i.fst + (1 : Int) = i'.fst ∧ True) ∧ True)) (bcase (decide ((↑(List.length i.snd.snd) : Int) > (0 : Int))) (∃ (x_2 : Gr), AV.sl true (0 : Nat) (1 : Nat) Int intA i.snd.snd = AV.sl true (0 : Nat) (1 : Nat) Int intA x_2.notes ∧ (-1 : Int) = x_2.member ∧ ∃ (zs : List Gr), AV.sl true (0 : Nat) (2 : Nat) Gr (grA true) [x_2] = AV.sl true (0 : Nat) (2 : Nat) Gr (grA true) zs ∧ leafy (grA true) ∧ room (List.length i.snd.fst + List.length zs) (32 : Nat) ∧ ∃ (y : Unit), True ∧ AV.sl true (0 : Nat) (2 : Nat) Gr (grA true) (i.snd.fst ++ zs) = AV.sl true (0 : Nat) (2 : Nat) Gr (grA true) (groupsOf x) ∧ True) (∃ (y : Unit), True ∧ AV.sl true (0 : Nat) (2 : Nat) Gr (grA true) i.snd.fst = AV.sl true (0 : Nat) (2 : Nat) Gr (grA true) (groupsOf x) ∧ True)))) := by kernel_rfl
theorem iGroupsOf_ok  : Contract G Tryz.prog 63 s_iGroupsOf :=
  vcFun_ok (Γ := Γof [(52, 0, s_iTreeOk)]) (E := Eof [(39, ⟨Int,intA⟩), (30, ⟨Gr,grA true⟩)]) (ov := false) (L := fun x => Lof ([(6,lGr x)])) Tryz.func63 rfl (by decide) (Γof_ok (l := [(52, 0, s_iTreeOk)]) ⟨iTreeOk_ok, trivial⟩) fun (x : List Nd) (hx : okNds x ∧ x.length ≤ 2 ^ 30) => (iGroupsOf_vc  x).mpr (by
  obtain ⟨h1, h2⟩ := hx; have hl := h1.1
  (repeat' first | with_reducible rfl | exact True.intro | refine inR_i64 ?_ ?_ | with_reducible refine And.intro ?_ ?_ | with_reducible refine bcase_dec (fun _ => ?_) (fun _ => ?_) | with_reducible refine bcase_bne (fun _ => ?_) (fun _ => ?_) | with_reducible refine bcase_beq (fun _ => ?_) (fun _ => ?_) | with_reducible refine bcase_not (fun _ => ?_) (fun _ => ?_) | refine bcase_intro (fun _ => ?_) (fun _ => ?_) | refine sl_eq ?_ | refine ex_flip () ?_ ?_ | (apply ex_flip6 <;> try dsimp only) | (apply ex_flip5 <;> try dsimp only) | (apply ex_flip4 <;> try dsimp only) | (apply ex_flip3 <;> try dsimp only) | (apply ex_flip2 <;> try dsimp only) | apply ex_flip | (refine Prod.forall.2 ?_; intro _; try dsimp only) | (intro _; try dsimp only))
  all_goals first
    | rfl
    | exact h1
    | exact h2
    | exact gI_init (by assumption)
    | exact gI_none (by assumption)
    | (symm; exact gI_none (by assumption))
    | (rw [fileKids, ndAt_of (by assumption)]; done)
    | ((try simp only [i64max]); omega)
    | exact gI_note (by assumption) (by assumption) (by assumption) (by assumption) (by assumption)
    | exact gI_mem (by assumption) (by assumption) (by assumption) (by assumption) (by assumption)
    | exact gI_end1 (by assumption) (by assumption) (by assumption)
    | exact gI_end2 (by assumption) (by assumption) (by assumption)
    | exact (gI_kid (by assumption) (by assumption)).1
    | exact (gI_kid (by assumption) (by assumption)).2
    | (have ht0 := treeOk_last (show treeOk x = true by assumption); (try simp only [i64max]); omega)
    | (have hg := gI_len (by assumption); (try simp only [i64max, room, List.length_cons, List.length_nil]); omega)
    | skip
  all_goals try rfl)

def lSGrC (x : List Nd) (i : Int) : LS := {
  ι := List Gr × List Int, inv := fun o => gI x (i + 1) o.1 o.2,
  regs := fun o => [(0, nds x), (3, ogrs o.1), (4, .box 0 [oints o.2, .int .i64 (-1)]), (5, ints (fileKids x)), (6, .int .i64 i)], als := [], meas := fun _ => 0 }
def lSGr (x : List Nd) : LS := {
  ι := Int × List Gr × List Int, inv := fun i => gI x i.1 i.2.1 i.2.2,
  regs := fun i => [(0, nds x), (3, ogrs i.2.1), (4, .box 0 [oints i.2.2, .int .i64 (-1)]), (5, ints (fileKids x)), (6, .int .i64 i.1)], als := [], meas := fun i => (fileKids x).length - i.1.toNat, sub := fun i => [(100010, lSGrC x i.1)] }
def s_sGroupsOf  : Sig := { X := List Nd, args := fun x => [nds x], pre := fun x => okNds x ∧ x.length ≤ 2 ^ 30, Y := Unit, post := fun x y => True, res := fun x y => ogrs (groupsOf x), outs := fun x y => [.top], keep := false }
theorem sGroupsOf_vc (x : List Nd) : vcFun Go.Proofs.Tryz.prog (Γof [(48, 0, s_sTreeOk)]) (Eof [(39, ⟨Int,intA⟩), (30, ⟨Gr,grA true⟩)]) false (Lof ([(7,lSGr x)])) Go.Proofs.Tryz.f61.ntmps Go.Proofs.Tryz.f61.results.toList (Go.Proofs.Tryz.f61.body.getD .skip) s_sGroupsOf x = ((∀ (y : Unit), True → (∀ (x : Gr), (∀ (x : Int), True ∧ True) ∧ True ∧ True) ∧ True ∧ True) ∧ ∃ (x_1 : List Nd), (okNds x_1 ∧ List.length x_1 ≤ (1073741824 : Nat)) ∧ AV.sl false (0 : Nat) (4 : Nat) Nd (ndA false) x = AV.sl false (0 : Nat) (4 : Nat) Nd (ndA false) x_1 ∧ ∀ (y : Unit), True → bcase (!treeOk x_1) (∃ (y : Unit), True ∧ AV.sl true (0 : Nat) (2 : Nat) Gr (grA true) [] = AV.sl true (0 : Nat) (2 : Nat) Gr (grA true) (groupsOf x) ∧ True) (inR IntKind.i64 ((↑(List.length x) : Int) - (1 : Int)) ∧ ((0 : Int) ≤ (↑(List.length x) : Int) - (1 : Int) ∧ (↑(List.length x) : Int) - (1 : Int) < (↑(List.length x) : Int)) ∧ ∀ (e : Nd), x[Int.toNat ((↑(List.length x) : Int) - (1 : Int))]? = some e → (∃ (i : Int × List Gr × List Int), gI x i.fst i.snd.fst i.snd.snd ∧ (AV.sl false (0 : Nat) (4 : Nat) Nd (ndA false) x = AV.sl false (0 : Nat) (4 : Nat) Nd (ndA false) x ∧ AV.sl true (0 : Nat) (2 : Nat) Gr (grA true) [] = AV.sl true (0 : Nat) (2 : Nat) Gr (grA true) i.snd.fst ∧ AV.sl true (0 : Nat) (1 : Nat) Int intA [] = AV.sl true (0 : Nat) (1 : Nat) Int intA i.snd.snd ∧ (-1 : Int) = (-1 : Int) ∧ AV.sl false (0 : Nat) (1 : Nat) Int intA e.kids = AV.sl false (0 : Nat) (1 : Nat) Int intA (fileKids x) ∧ (0 : Int) = i.fst ∧ True) ∧ True) ∧ ∀ (i : Int × List Gr × List Int), gI x i.fst i.snd.fst i.snd.snd → bcase (decide (i.fst < (↑(List.length (fileKids x)) : Int))) (((0 : Int) ≤ i.fst ∧ i.fst < (↑(List.length (fileKids x)) : Int)) ∧ ∀ (e : Int), (fileKids x)[Int.toNat i.fst]? = some e → ((0 : Int) ≤ e ∧ e < (↑(List.length x) : Int)) ∧ ∀ (e_1 : Nd), x[Int.toNat e]? = some e_1 → bcase (e_1.kind == (19 : Int)) (true = true ∧ (((0 : Int) ≤ i.fst ∧ i.fst < (↑(List.length (fileKids x)) : Int)) ∧ ∀ (e : Int), (fileKids x)[Int.toNat i.fst]? = some e → (∃ (x_2 : Int), e = x_2 ∧ ∃ (zs : List Int), AV.sl true (0 : Nat) (1 : Nat) Int intA [x_2] = AV.sl true (0 : Nat) (1 : Nat) Int intA zs ∧ leafy intA ∧ room (List.length i.snd.snd + List.length zs) (8 : Nat) ∧ true = true ∧ ∃ (i_1 : List Gr × List Int), gI x (i.fst + (1 : Int)) i_1.fst i_1.snd ∧ (AV.sl false (0 : Nat) (4 : Nat) Nd (ndA false) x = AV.sl false (0 : Nat) (4 : Nat) Nd (ndA false) x ∧ AV.sl true (0 : Nat) (2 : Nat) Gr (grA true) i.snd.fst = AV.sl true (0 : Nat) (2 : Nat) Gr (grA true) i_1.fst ∧ AV.sl true (0 : Nat) (1 : Nat) Int intA (i.snd.snd ++ zs) = AV.sl true (0 : Nat) (1 : Nat) Int intA i_1.snd ∧ (-1 : Int) = (-1 : Int) ∧ AV.sl false (0 : Nat) (1 : Nat) Int intA (fileKids x) = AV.sl false (0 : Nat) (1 : Nat) Int intA (fileKids x) ∧ i.fst = i.fst ∧ True) ∧ True) ∧ ∃ (x_2 : Int), e = x_2 ∧ ∃ (zs : List Int), AV.sl true (0 : Nat) (1 : Nat) Int intA [x_2] = AV.sl true (0 : Nat) (1 : Nat) Int intA zs ∧ leafy intA ∧ room (List.length i.snd.snd + List.length zs) (8 : Nat) ∧ true = true ∧ ∃ (i_1 : List Gr × List Int), gI x (i.fst + (1 : Int)) i_1.fst i_1.snd ∧ (AV.sl false (0 : Nat) (4 : Nat) Nd (ndA false) x = AV.sl false (0 : Nat) (4 : Nat) Nd (ndA false) x ∧ AV.sl true (0 : Nat) (2 : Nat) Gr (grA true) i.snd.fst = AV.sl true (0 : Nat) (2 : Nat) Gr (grA true) i_1.fst ∧ AV.sl true (0 : Nat) (1 : Nat) Int intA (i.snd.snd ++ zs) = AV.sl true (0 : Nat) (1 : Nat) Int intA i_1.snd ∧ (-1 : Int) = (-1 : Int) ∧ AV.sl false (0 : Nat) (1 : Nat) Int intA (fileKids x) = AV.sl false (0 : Nat) (1 : Nat) Int intA (fileKids x) ∧ i.fst = i.fst ∧ True) ∧ True) ∧ ∀ (i_1 : List Gr × List Int), gI x (i.fst + (1 : Int)) i_1.fst i_1.snd → inR IntKind.i64 (i.fst + (1 : Int)) ∧ ∃ (i' : Int × List Gr × List Int), gI x i'.fst i'.snd.fst i'.snd.snd ∧ List.length (fileKids x) - Int.toNat i'.fst < List.length (fileKids x) - Int.toNat i.fst ∧ (AV.sl false (0 : Nat) (4 : Nat) Nd (ndA false) x = AV.sl false (0 : Nat) (4 : Nat) Nd (ndA false) x ∧ AV.sl true (0 : Nat) (2 : Nat) Gr (grA true) i_1.fst = AV.sl true (0 : Nat) (2 : Nat) Gr (grA true) i'.snd.fst ∧ AV.sl true (0 : Nat) (1 : Nat) Int intA i_1.snd = AV.sl true (0 : Nat) (1 : Nat) Int intA i'.snd.snd ∧ (-1 : Int) = (-1 : Int) ∧ AV.sl false (0 : Nat) (1 : Nat) Int intA (fileKids x) = AV.sl false (0 : Nat) (1 : Nat) Int intA (fileKids x) ∧ i.fst + (1 : Int) = i'.fst ∧ True) ∧ True) (((0 : Int) ≤ i.fst ∧ i.fst < (↑(List.length (fileKids x)) : Int)) ∧ ∀ (e : Int), (fileKids x)[Int.toNat i.fst]? = some e → ∃ (x_2 : Gr), AV.sl true (0 : Nat) (1 : Nat) Int intA i.snd.snd = AV.sl true (0 : Nat) (1 : Nat) Int intA x_2.notes ∧ e = x_2.member ∧ ∃ (zs : List Gr), AV.sl true (0 : Nat) (2 : Nat) Gr (grA true) [x_2] = AV.sl true (0 : Nat) (2 : Nat) Gr (grA true) zs ∧ leafy (grA true) ∧ room (List.length i.snd.fst + List.length zs) (32 : Nat) ∧ inR IntKind.i64 (i.fst + (1 : Int)) ∧ ∃ (i' : Int × List Gr × List Int), gI x i'.fst i'.snd.fst i'.snd.snd ∧ List.length (fileKids x) - Int.toNat i'.fst < List.length (fileKids x) - Int.toNat i.fst ∧ (AV.sl false (0 : Nat) (4 : Nat) Nd (ndA false) x = AV.sl false (0 : Nat) (4 : Nat) Nd (ndA false) x ∧ AV.sl true (0 : Nat) (2 : Nat) Gr (grA true) (i.snd.fst ++ zs) = AV.sl true (0 : Nat) (2 : Nat) Gr (grA true) i'.snd.fst ∧ AV.sl true (0 : Nat) (1 : Nat) Int intA [] = AV.sl true (0 : Nat) (1 : Nat) Int intA i'.snd.snd ∧ (-1 : Int) = (-1 : Int) ∧ AV.sl false (0 : Nat) (1 : Nat) Int intA (fileKids x) = AV.sl false (0 : Nat) (1 : Nat) Int intA (fileKids x) ∧ i.fst + (1 : Int) = i'.fst ∧ True) ∧ True)) (bcase (decide ((↑(List.length i.snd.snd) : Int) > (0 : Int))) (∃ (x_2 : Gr), AV.sl true (0 : Nat) (1 : Nat) Int intA i.snd.snd = AV.sl true (0 : Nat) (1 : Nat) Int intA x_2.notes ∧ (-1 : Int) = x_2.member ∧ ∃ (zs : List Gr), AV.sl true (0 : Nat) (2 : Nat) Gr (grA true) [x_2] = AV.sl true (0 : Nat) (2 : Nat) Gr (grA true) zs ∧ leafy (grA true) ∧ room (List.length i.snd.fst + List.length zs) (32 : Nat) ∧ ∃ (y : Unit), True ∧ AV.sl true (0 : Nat) (2 : Nat) Gr (grA true) (i.snd.fst ++ zs) = AV.sl true (0 : Nat) (2 : Nat) Gr (grA true) (groupsOf x) ∧ True) (∃ (y : Unit), True ∧ AV.sl true (0 : Nat) (2 : Nat) Gr (grA true) i.snd.fst = AV.sl true (0 : Nat) (2 : Nat) Gr (grA true) (groupsOf x) ∧ True)))) := by kernel_rfl
theorem sGroupsOf_ok  : Contract G Tryz.prog 61 s_sGroupsOf :=
  vcFun_ok (Γ := Γof [(48, 0, s_sTreeOk)]) (E := Eof [(39, ⟨Int,intA⟩), (30, ⟨Gr,grA true⟩)]) (ov := false) (L := fun x => Lof ([(7,lSGr x)])) Tryz.func61 rfl (by decide) (Γof_ok (l := [(48, 0, s_sTreeOk)]) ⟨sTreeOk_ok, trivial⟩) fun (x : List Nd) (hx : okNds x ∧ x.length ≤ 2 ^ 30) => (sGroupsOf_vc  x).mpr (by
  obtain ⟨h1, h2⟩ := hx; have hl := h1.1
  (repeat' first | with_reducible rfl | exact True.intro | refine inR_i64 ?_ ?_ | with_reducible refine And.intro ?_ ?_ | with_reducible refine bcase_dec (fun _ => ?_) (fun _ => ?_) | with_reducible refine bcase_bne (fun _ => ?_) (fun _ => ?_) | with_reducible refine bcase_beq (fun _ => ?_) (fun _ => ?_) | with_reducible refine bcase_not (fun _ => ?_) (fun _ => ?_) | refine bcase_intro (fun _ => ?_) (fun _ => ?_) | refine sl_eq ?_ | refine ex_flip () ?_ ?_ | (apply ex_flip6 <;> try dsimp only) | (apply ex_flip5 <;> try dsimp only) | (apply ex_flip4 <;> try dsimp only) | (apply ex_flip3 <;> try dsimp only) | (apply ex_flip2 <;> try dsimp only) | apply ex_flip | (refine Prod.forall.2 ?_; intro _; try dsimp only) | (intro _; try dsimp only))
  all_goals first
    | rfl
    | exact h1
    | exact h2
    | exact gI_init (by assumption)
    | exact gI_none (by assumption)
    | (symm; exact gI_none (by assumption))
    | (rw [fileKids, ndAt_of (by assumption)]; done)
    | ((try simp only [i64max]); omega)
    | exact gI_note (by assumption) (by assumption) (by assumption) (by assumption) (by assumption)
    | exact gI_mem (by assumption) (by assumption) (by assumption) (by assumption) (by assumption)
    | exact gI_end1 (by assumption) (by assumption) (by assumption)
    | exact gI_end2 (by assumption) (by assumption) (by assumption)
    | exact (gI_kid (by assumption) (by assumption)).1
    | exact (gI_kid (by assumption) (by assumption)).2
    | (have ht0 := treeOk_last (show treeOk x = true by assumption); (try simp only [i64max]); omega)
    | (have hg := gI_len (by assumption); (try simp only [i64max, room, List.length_cons, List.length_nil]); omega)
    | (rename gI x (_ + 1) _ _ => q1; clear q1; have hg := gI_len (by assumption); omega)
    | skip
  all_goals try rfl)

end Go.My
end
section
/- Sorting, plainly: putting one behind the other into its place, from the left and from the right. -/
set_option linter.unusedVariables false
set_option linter.unusedSimpArgs false
namespace Go.My
open Go.Eng

abbrev bLt := Op.bytesLess
theorem bLt_asym : ∀ {a b : List UInt8}, bLt a b = true → bLt b a = false
  | _, [], h => by simp [bLt, Op.bytesLess] at h
  | [], _ :: _, _ => by simp [bLt, Op.bytesLess]
  | x :: a, y :: b, h => by
    have ih := @bLt_asym a b
    simp only [bLt, Op.bytesLess, Bool.or_eq_true, Bool.and_eq_true, decide_eq_true_eq, beq_iff_eq, Bool.or_eq_false_iff, Bool.and_eq_false_imp, decide_eq_false_iff_not, UInt8.lt_iff_toNat_lt] at h ih ⊢
    rcases h with h | ⟨rfl, h⟩
    · exact ⟨by omega, fun e => by subst e; omega⟩
    · exact ⟨by omega, fun _ => ih h⟩
theorem bLt_nt : ∀ {a b c : List UInt8}, bLt a c = true → bLt b c = false → bLt a b = true
  | _, _, [], h, _ => by simp [bLt, Op.bytesLess] at h
  | [], [], _ :: _, _, h => by simp [bLt, Op.bytesLess] at h
  | [], _ :: _, _ :: _, _, _ => by simp [bLt, Op.bytesLess]
  | _ :: _, [], _ :: _, _, h => by simp [bLt, Op.bytesLess] at h
  | x :: a, y :: b, z :: c, h1, h2 => by
    have ih := @bLt_nt a b c
    simp only [bLt, Op.bytesLess, Bool.or_eq_true, Bool.and_eq_true, decide_eq_true_eq, beq_iff_eq, Bool.or_eq_false_iff, Bool.and_eq_false_imp, decide_eq_false_iff_not, UInt8.lt_iff_toNat_lt, ← UInt8.toNat_inj] at h1 h2 ih ⊢
    obtain ⟨h2, h3⟩ := h2
    rcases h1 with h1 | ⟨h0, h1⟩
    · left; omega
    · by_cases e : y.toNat = z.toNat
      · exact .inr ⟨by omega, ih h1 (h3 e)⟩
      · left; omega
section
variable {α : Type} (lt : α → α → Bool)
def insS (e : α) : List α → List α
  | [] => [e]
  | x :: l => if lt e x then e :: x :: l else x :: insS e l
def isort (l : List α) : List α := l.foldl (fun out e => insS lt e out) []
def sortedL (l : List α) : Prop := ∀ (i j : Nat) (a b : α), i < j → l[i]? = some a → l[j]? = some b → lt b a = false
def asc (l : List α) : Bool := (List.range (l.length - 1)).all fun i => match l[i + 1]?, l[i]? with
  | some b, some a => !lt b a
  | _, _ => true
variable {lt}
theorem insS_len {e : α} : ∀ {l : List α}, (insS lt e l).length = l.length + 1
  | [] => rfl
  | x :: l => by unfold insS; split <;> simp [insS_len]
theorem isort_snoc {l : List α} {e : α} : isort lt (l ++ [e]) = insS lt e (isort lt l) := by simp [isort, List.foldl_append]
theorem isort_len {l : List α} : (isort lt l).length = l.length := by
  have : ∀ (l out : List α), (l.foldl (fun out e => insS lt e out) out).length = out.length + l.length := by
    intro l
    induction l with
    | nil => intro out; simp
    | cons e l ih => intro out; simp only [List.foldl_cons, ih, insS_len, List.length_cons]; omega
  simpa [isort] using this l []
/- from the left -/
theorem insS_take {e : α} : ∀ {l : List α} {j : Nat}, (∀ x ∈ l.take j, lt e x = false) → (∀ x, l[j]? = some x → lt e x = true) → insS lt e l = l.take j ++ e :: l.drop j
  | [], j, _, _ => by simp [insS]
  | x :: l, 0, _, h => by have := h x rfl; simp [insS, this]
  | x :: l, j + 1, h1, h2 => by
    have := h1 x (by simp)
    simp only [insS, this, Bool.false_eq_true, if_false, List.take_succ_cons, List.cons_append, List.drop_succ_cons]
    rw [insS_take (j := j) (fun y hy => h1 y (by simp [hy])) (fun y hy => h2 y (by simpa using hy))]
theorem insS_sorted (hnt : ∀ a b c : α, lt a c = true → lt b c = false → lt a b = true) (has : ∀ a b : α, lt a b = true → lt b a = false) {e : α} : ∀ {l : List α}, sortedL lt l → sortedL lt (insS lt e l) := by
  intro l
  have hmem : ∀ {l : List α} {y : α}, y ∈ insS lt e l → y = e ∨ y ∈ l := by
    intro l
    induction l with
    | nil => intro y hy; simpa [insS] using hy
    | cons x l ih =>
      intro y hy
      unfold insS at hy; split at hy
      · simpa using hy
      · rcases List.mem_cons.1 hy with h | h
        · exact .inr (by simp [h])
        · exact (ih h).imp id (fun h => by simp [h])
  have hcons : ∀ {x : α} {l : List α}, sortedL lt (x :: l) ↔ (∀ y ∈ l, lt y x = false) ∧ sortedL lt l := by
    intro x l
    constructor
    · intro h
      refine ⟨fun y hy => ?_, fun i j a b hij ha hb => h (i + 1) (j + 1) a b (by omega) (by simpa using ha) (by simpa using hb)⟩
      obtain ⟨i, hi⟩ := List.mem_iff_getElem?.1 hy
      exact h 0 (i + 1) x y (by omega) rfl (by simpa using hi)
    · rintro ⟨h1, h2⟩ i j a b hij ha hb
      cases j with
      | zero => omega
      | succ j =>
        cases i with
        | zero => simp at ha; subst ha; exact h1 b (List.mem_of_getElem? (by simpa using hb))
        | succ i => exact h2 i j a b (by omega) (by simpa using ha) (by simpa using hb)
  induction l with
  | nil =>
    intro _ i j a b hij ha hb
    cases j with
    | zero => omega
    | succ j => simp [insS] at hb
  | cons x l ih =>
    intro hs
    obtain ⟨h1, h2⟩ := hcons.1 hs
    unfold insS; split
    · rename_i hl
      refine hcons.2 ⟨fun y hy => ?_, hs⟩
      rcases List.mem_cons.1 hy with h | h
      · rw [h]
        exact has _ _ hl
      · cases hh : lt y e
        · rfl
        · have h3 := hnt y x e hh (has _ _ hl)
          rw [h1 y h] at h3; exact h3.symm
    · rename_i hl
      refine hcons.2 ⟨fun y hy => ?_, ih h2⟩
      rcases hmem hy with h | h
      · subst h; simpa using hl
      · exact h1 y h
theorem isort_sorted (hnt : ∀ a b c : α, lt a c = true → lt b c = false → lt a b = true) (has : ∀ a b : α, lt a b = true → lt b a = false) {l : List α} : sortedL lt (isort lt l) := by
  have : ∀ (l out : List α), sortedL lt out → sortedL lt (l.foldl (fun out e => insS lt e out) out) := by
    intro l
    induction l with
    | nil => intro out h; exact h
    | cons e l ih => intro out h; exact ih _ (insS_sorted hnt has h)
  exact this l [] (fun i j a b _ _ h => by simp at h)
/- from the right: one place is found where the one ahead is not greater -/
theorem ins_right (hnt : ∀ a b c : α, lt a c = true → lt b c = false → lt a b = true) {P : List α} (hs : sortedL lt P) {e : α} {j : Nat} (hj : j ≤ P.length) (h1 : ∀ x, P[j]? = some x → lt e x = true)
    (h2 : j = 0 ∨ ∃ x, P[j - 1]? = some x ∧ lt e x = false) : insS lt e P = P.take j ++ e :: P.drop j := by
  refine insS_take (fun x hx => ?_) h1
  obtain ⟨i, hi⟩ := List.mem_iff_getElem?.1 hx
  have hij : i < j := by
    rcases Nat.lt_or_ge i j with h | h
    · exact h
    · rw [List.getElem?_eq_none (by simp; omega)] at hi; cases hi
  rw [List.getElem?_take_of_lt hij] at hi
  rcases h2 with h2 | ⟨y, hy, h2⟩
  · omega
  · by_cases e2 : i = j - 1
    · subst e2; rw [hi] at hy; cases hy; exact h2
    · cases hh : lt e x
      · rfl
      · have h3 := hs i (j - 1) x y (by omega) hi hy
        rw [hnt e y x hh h3] at h2; cases h2
theorem insS_map {β : Type} {f : α → β} {lt' : β → β → Bool} (h : ∀ a b, lt a b = lt' (f a) (f b)) {e : α} : ∀ {l : List α}, (insS lt e l).map f = insS lt' (f e) (l.map f)
  | [] => rfl
  | x :: l => by
    simp only [insS, List.map_cons, h]
    split
    · rfl
    · rw [List.map_cons, insS_map h]
theorem isort_map {β : Type} {f : α → β} {lt' : β → β → Bool} (h : ∀ a b, lt a b = lt' (f a) (f b)) {l : List α} : (isort lt l).map f = isort lt' (l.map f) := by
  have : ∀ (l out : List α), (l.foldl (fun out e => insS lt e out) out).map f = (l.map f).foldl (fun out e => insS lt' e out) (out.map f) := by
    intro l
    induction l with
    | nil => intro out; rfl
    | cons e l ih => intro out; simp only [List.foldl_cons, List.map_cons, ih, insS_map h]
  exact this l []
theorem insS_perm {e : α} : ∀ {l : List α}, (insS lt e l).Perm (e :: l)
  | [] => .refl _
  | x :: l => by
    unfold insS; split
    · exact .refl _
    · exact ((insS_perm (l := l)).cons x).trans (.swap ..)
theorem isort_perm {l : List α} : (isort lt l).Perm l := by
  have : ∀ (l out : List α), (l.foldl (fun out e => insS lt e out) out).Perm (out ++ l) := by
    intro l
    induction l with
    | nil => intro out; simp
    | cons e l ih =>
      intro out
      refine (ih _).trans ?_
      refine ((insS_perm (e := e) (l := out)).append_right l).trans ?_
      simpa using (List.perm_middle (l₁ := out) (l₂ := l) (a := e)).symm
  exact this l []
end
end Go.My
end
section
/- The laws' helpers over groups, and marks: what is written into what came back, and looked at again. -/
set_option linter.unusedVariables false
set_option linter.unusedSimpArgs false
namespace Go.My
open Go.Eng Go.Proofs
variable {G : GInv}

/- equality of groups -/
def beqGr (a b : Gr) : Bool := a.notes == b.notes && a.member == b.member
theorem beqGr_eq {a b : Gr} : beqGr a b = true ↔ a = b := by
  cases a; cases b; simp [beqGr]
theorem beqGr_self (a : Gr) : beqGr a a = true := beqGr_eq.2 rfl
def beqGrs : List Gr → List Gr → Bool
  | [], [] => true
  | a :: l, b :: m => beqGr a b && beqGrs l m
  | _, _ => false
theorem beqGrs_eq : ∀ {a b : List Gr}, beqGrs a b = true ↔ a = b
  | [], [] => by simp [beqGrs]
  | [], _ :: _ => by simp [beqGrs]
  | _ :: _, [] => by simp [beqGrs]
  | a :: l, b :: m => by simp [beqGrs, beqGr_eq, beqGrs_eq (a := l) (b := m)]
theorem beqGrs_false {a b : List Gr} (h : a ≠ b) : false = beqGrs a b := by
  cases hb : beqGrs a b
  · rfl
  · exact (h (beqGrs_eq.1 hb)).elim
theorem beqGrs_true {a b : List Gr} (h : a = b) : true = beqGrs a b := (beqGrs_eq.2 h).symm
theorem beqGrs_self (a : List Gr) : beqGrs a a = true := beqGrs_eq.2 rfl
def smallGrs (l : List Gr) : Prop := l.length < 2 ^ 40 ∧ ∀ g ∈ l, g.notes.length < 2 ^ 40
theorem fz_grs {l : List Gr} : AV.sl false 0 2 Gr (fun x => fzL (grA true x)) l = AV.sl false 0 2 Gr (grA false) l := rfl

/- marks -/
def mkI (k : Int) (n : Nat) : List Int := (List.range n).map fun j : Nat => k + (j : Int)
theorem mkI_len {k : Int} {n : Nat} : (mkI k n).length = n := by simp [mkI]
theorem mkI_at {k : Int} {n i : Nat} (h : i < n) : (mkI k n)[i]? = some (k + i) := by simp [mkI, h]
theorem mkI_set {k : Int} {l : List Int} {i : Nat} (h : i < l.length) : (mkI k i ++ l.drop i).set i (k + i) = mkI k (i + 1) ++ l.drop (i + 1) := by
  rw [List.set_append_right _ _ (by rw [mkI_len]; exact Nat.le_refl i), mkI_len, Nat.sub_self, List.drop_eq_getElem_cons h, List.set_cons_zero]
  simp [mkI, List.range_succ]
theorem mkI_full {k : Int} {l : List Int} {i : Nat} (h : l.length ≤ i) (h2 : i ≤ l.length) : mkI k i ++ l.drop i = mkI k l.length := by
  obtain rfl : i = l.length := by omega
  simp
def mkG (k : Int) (g : Gr) : Gr := ⟨mkI k g.notes.length, k + g.notes.length⟩
def totG : List Gr → Int
  | [] => 0
  | g :: l => g.notes.length + 1 + totG l
def mkGs (k : Int) : List Gr → List Gr
  | [] => []
  | g :: l => mkG k g :: mkGs (k + g.notes.length + 1) l
theorem totG_snoc : ∀ {l : List Gr} {g : Gr}, totG (l ++ [g]) = totG l + g.notes.length + 1
  | [], g => by simp [totG]
  | x :: l, g => by simp only [List.cons_append, totG]; rw [totG_snoc]; omega
theorem totG_cons {l : List Gr} {g : Gr} : totG (g :: l) = g.notes.length + 1 + totG l := rfl
theorem mkGs_snoc : ∀ {l : List Gr} {g : Gr} {k : Int}, mkGs k (l ++ [g]) = mkGs k l ++ [mkG (k + totG l) g]
  | [], g, k => by simp [mkGs, totG]
  | x :: l, g, k => by
    simp only [List.cons_append, mkGs]; rw [mkGs_snoc, totG_cons]
    rw [show k + (x.notes.length : Int) + 1 + totG l = k + (x.notes.length + 1 + totG l) by omega]
theorem mkGs_len : ∀ {l : List Gr} {k : Int}, (mkGs k l).length = l.length
  | [], k => rfl
  | x :: l, k => by simp [mkGs, mkGs_len]
theorem mkGs_at : ∀ {l : List Gr} {k : Int} {i : Nat} {g : Gr}, l[i]? = some g → (mkGs k l)[i]? = some (mkG (k + totG (l.take i)) g)
  | [], k, i, g, h => by simp at h
  | x :: l, k, 0, g, h => by simp at h; subst h; simp [mkGs, totG]
  | x :: l, k, i + 1, g, h => by
    simp only [mkGs, List.getElem?_cons_succ, List.take_succ_cons] at h ⊢
    rw [mkGs_at h, totG_cons]; congr 2; omega
theorem totG_bd : ∀ {l : List Gr} {n : Nat}, (∀ g ∈ l, g.notes.length ≤ n) → 0 ≤ totG l ∧ totG l ≤ l.length * (n + 1)
  | [], n, h => by simp [totG]
  | x :: l, n, h => by
    have h1 := h x (by simp)
    have h2 := totG_bd (l := l) (n := n) fun g hg => h g (by simp [hg])
    rw [totG_cons, List.length_cons]
    have e : ((l.length + 1 : Nat) : Int) * ((n : Int) + 1) = l.length * (n + 1) + (n + 1) := by rw [Int.natCast_add, Int.add_mul]; simp
    rw [e]; omega
theorem mkGs_set {l : List Gr} {k : Int} {i : Nat} {g : Gr} (h : l[i]? = some g) : (mkGs k (l.take i) ++ l.drop i).set i (mkG (k + totG (l.take i)) g) = mkGs k (l.take (i + 1)) ++ l.drop (i + 1) := by
  have hi := (getE h).1
  have e : (mkGs k (l.take i)).length = i := by rw [mkGs_len, List.length_take]; omega
  rw [List.set_append_right _ _ (by rw [e]; exact Nat.le_refl i), e, Nat.sub_self, dropE h, List.set_cons_zero, takeE h, mkGs_snoc]
  simp

/- order -/
theorem asc_iff {α : Type} {lt : α → α → Bool} {l : List α} : asc lt l = true ↔ ∀ (j : Nat) (a b : α), l[j + 1]? = some b → l[j]? = some a → lt b a = false := by
  unfold asc
  rw [List.all_eq_true]
  constructor
  · intro h j a b hb ha
    have := h j (List.mem_range.2 (by have := (getE hb).1; omega))
    rw [hb, ha] at this
    simpa using this
  · intro h j hj
    have hj := List.mem_range.1 hj
    have e1 : l[j + 1]? = some l[j + 1] := by simp
    have e2 : l[j]? = some l[j] := by simp
    rw [e1, e2]
    simp [h j _ _ e1 e2]
theorem asc_not {α : Type} {lt : α → α → Bool} {l : List α} {j : Nat} {a b : α} (hb : l[j + 1]? = some b) (ha : l[j]? = some a) (h : lt b a = true) : asc lt l = false := by
  rw [Bool.eq_false_iff]; intro hh
  rw [asc_iff.1 hh j a b hb ha] at h; cases h
def ltG (ns : List Nd) (a b : Gr) : Bool := bLt (gkey ns a.member) (gkey ns b.member)
def cmpV (a b : List UInt8) : Int := if bLt a b then -1 else if !(bLt a b || a == b) then 1 else 0
theorem cmpV_neg {a b : List UInt8} : cmpV a b < 0 ↔ bLt a b = true := by
  unfold cmpV
  by_cases h : bLt a b = true
  · simp [h]
  · rw [if_neg h]; split <;> simp [h]
def s_isNaN  : Sig := { X := List UInt8, args := fun x => [.str x], pre := fun x => True, Y := Unit, post := fun x y => True, res := fun x y => .bool false, outs := fun x y => [.top], keep := false }
theorem isNaN_vc (x : List UInt8) : vcFun Go.Proofs.Tryz.prog (Γof []) (Eof []) false (Lof ([])) Go.Proofs.Tryz.f117.ntmps Go.Proofs.Tryz.f117.results.toList (Go.Proofs.Tryz.f117.body.getD .skip) s_isNaN x = ((∀ (y : Unit), True → True ∧ True ∧ True) ∧ ∃ (y : Unit), True ∧ (!x == x) = false ∧ True) := by kernel_rfl
theorem isNaN_ok  : Contract G Tryz.prog 117 s_isNaN :=
  vcFun_ok (Γ := Γof []) (E := Eof []) (ov := false) (L := fun x => Lof ([])) Tryz.func117 rfl (by decide) (Γof_ok (l := []) trivial) fun (x : List UInt8) (hx : True) => (isNaN_vc  x).mpr (by
  (repeat' first | with_reducible rfl | exact True.intro | refine inR_i64 ?_ ?_ | with_reducible refine And.intro ?_ ?_ | with_reducible refine bcase_dec (fun _ => ?_) (fun _ => ?_) | with_reducible refine bcase_bne (fun _ => ?_) (fun _ => ?_) | with_reducible refine bcase_beq (fun _ => ?_) (fun _ => ?_) | with_reducible refine bcase_not (fun _ => ?_) (fun _ => ?_) | refine bcase_intro (fun _ => ?_) (fun _ => ?_) | refine sl_eq ?_ | refine ex_flip () ?_ ?_ | (apply ex_flip6 <;> try dsimp only) | (apply ex_flip5 <;> try dsimp only) | (apply ex_flip4 <;> try dsimp only) | (apply ex_flip3 <;> try dsimp only) | (apply ex_flip2 <;> try dsimp only) | apply ex_flip | (refine Prod.forall.2 ?_; intro _; try dsimp only) | (intro _; try dsimp only)) <;> (try dsimp only at *) <;> (try simp only [i64max, List.length_cons, List.length_nil]) <;> (try omega)
  all_goals simp)

def s_cmpStr  : Sig := { X := List UInt8 × List UInt8, args := fun x => [.str x.1, .str x.2], pre := fun x => True, Y := Unit, post := fun x y => True, res := fun x y => .int .i64 (cmpV x.1 x.2), outs := fun x y => [.top, .top], keep := false }
theorem cmpStr_vc (x : List UInt8 × List UInt8) : vcFun Go.Proofs.Tryz.prog (Γof [(117, 0, s_isNaN)]) (Eof []) false (Lof ([])) Go.Proofs.Tryz.f66.ntmps Go.Proofs.Tryz.f66.results.toList (Go.Proofs.Tryz.f66.body.getD .skip) s_cmpStr x = ((∀ (y : Unit), True → True ∧ True ∧ True ∧ True) ∧ ∃ (x_1 : List UInt8), True ∧ x.fst = x_1 ∧ ∀ (y : Unit), True → ∃ (x_2 : List UInt8), True ∧ x.snd = x_2 ∧ ∀ (y : Unit), True → bcase (Op.bytesLess x.fst x.snd) (∃ (y : Unit), True ∧ (-1 : Int) = cmpV x.fst x.snd ∧ True) (bcase (!(Op.bytesLess x.fst x.snd || x.fst == x.snd)) (∃ (y : Unit), True ∧ (1 : Int) = cmpV x.fst x.snd ∧ True) (∃ (y : Unit), True ∧ (0 : Int) = cmpV x.fst x.snd ∧ True))) := by kernel_rfl
theorem cmpStr_ok  : Contract G Tryz.prog 66 s_cmpStr :=
  vcFun_ok (Γ := Γof [(117, 0, s_isNaN)]) (E := Eof []) (ov := false) (L := fun x => Lof ([])) Tryz.func66 rfl (by decide) (Γof_ok (l := [(117, 0, s_isNaN)]) ⟨isNaN_ok, trivial⟩) fun (x : List UInt8 × List UInt8) (hx : True) => (cmpStr_vc  x).mpr (by
  (repeat' first | with_reducible rfl | exact True.intro | refine inR_i64 ?_ ?_ | with_reducible refine And.intro ?_ ?_ | with_reducible refine bcase_dec (fun _ => ?_) (fun _ => ?_) | with_reducible refine bcase_bne (fun _ => ?_) (fun _ => ?_) | with_reducible refine bcase_beq (fun _ => ?_) (fun _ => ?_) | with_reducible refine bcase_not (fun _ => ?_) (fun _ => ?_) | refine bcase_intro (fun _ => ?_) (fun _ => ?_) | refine sl_eq ?_ | refine ex_flip () ?_ ?_ | (apply ex_flip6 <;> try dsimp only) | (apply ex_flip5 <;> try dsimp only) | (apply ex_flip4 <;> try dsimp only) | (apply ex_flip3 <;> try dsimp only) | (apply ex_flip2 <;> try dsimp only) | apply ex_flip | (refine Prod.forall.2 ?_; intro _; try dsimp only) | (intro _; try dsimp only)) <;> (try dsimp only at *) <;> (try simp only [i64max, List.length_cons, List.length_nil]) <;> (try omega)
  all_goals simp_all [cmpV])

end Go.My
end
