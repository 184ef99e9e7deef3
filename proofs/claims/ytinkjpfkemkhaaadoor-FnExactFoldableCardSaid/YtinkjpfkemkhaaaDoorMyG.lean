/- Depths and trees: the program's functions. -/
import Derived.Test.YtinkjpfkemkhaaaDoorMyF
set_option linter.unusedVariables false
set_option linter.unusedSimpArgs false
namespace Go.My
open Go.Eng Go.Proofs

def dl (k i : Int) (ds : List Int) : List Int := ds ++ List.replicate (k + 1 - i).toNat 0
def dI (ns : List Nd) (k i : Int) (ds : List Int) : Prop := isNd ns k = true ∧ 0 ≤ i ∧ i ≤ k + 1 ∧ deeps ns i.toNat = some ds
def dJ (ns : List Nd) (k i : Int) (ds : List Int) (j d : Int) : Prop := dI ns k i ds ∧ i ≤ k ∧ nodeOk ns i = true ∧ 0 ≤ j ∧ j ≤ (ndAt ns i).kids.length ∧ 0 ≤ d ∧ d ≤ 14 ∧ mx ds ((ndAt ns i).kids.drop j.toNat) d = mx ds (ndAt ns i).kids 0
theorem dI_init {ns : List Nd} {k : Int} (h : isNd ns k = true) : dI ns k 0 [] := ⟨h, by omega, by have := isNd_iff.1 h; omega, rfl⟩
theorem dl_init {k : Int} : List.replicate (k + 1).toNat 0 = dl k 0 [] := by simp [dl]
theorem dI_len {ns : List Nd} {k i : Int} {ds : List Int} (h : dI ns k i ds) : ((dl k i ds).length : Int) = k + 1 := by
  obtain ⟨h0, h1, h2, h3⟩ := h
  have := deeps_length h3
  rw [dl, List.length_append, List.length_replicate]; omega
theorem dI_bad {ns : List Nd} {k i : Int} {ds : List Int} (h : dI ns k i ds) (hl : i < k + 1) (hn : nodeOk ns i = false) : 0 = deepOf ns k := by
  obtain ⟨h0, h1, h2, h3⟩ := h
  have : deeps ns (i.toNat + 1) = none := by
    unfold deeps; rw [h3]; simp only
    rw [show ((i.toNat : Nat) : Int) = i by omega, hn]; rfl
  unfold deepOf; rw [if_pos h0, deeps_none_le this (by omega)]
theorem dJ_init {ns : List Nd} {k i : Int} {ds : List Int} (h : dI ns k i ds) (hl : i < k + 1) (hn : nodeOk ns i = true) : dJ ns k i ds 0 0 :=
  ⟨h, by omega, hn, by omega, by omega, by omega, by omega, by simp⟩
theorem dJ_kid {ns : List Nd} {k i : Int} {ds : List Int} {j d c : Int} (h : dJ ns k i ds j d) (hc : (ndAt ns i).kids[j.toNat]? = some c) : 0 ≤ c ∧ c < i := by
  exact (nodeOk_parts h.2.2.1).2.2.2.1 c (memE hc)
theorem dJ_in {ns : List Nd} {k i : Int} {ds : List Int} {j d c : Int} (h : dJ ns k i ds j d) (hc : (ndAt ns i).kids[j.toNat]? = some c) : 0 ≤ c ∧ c < (dl k i ds).length := by
  have := dJ_kid h hc; have := dI_len h.1; have := h.1.2.2; omega
theorem dJ_val {ns : List Nd} {k i : Int} {ds : List Int} {j d c v : Int} (h : dJ ns k i ds j d) (hc : (ndAt ns i).kids[j.toNat]? = some c) (hv : (dl k i ds)[c.toNat]? = some v) : ds.getD c.toNat 0 = v ∧ 1 ≤ v ∧ v ≤ 14 := by
  have h1 := dJ_kid h hc
  have h2 := deeps_length h.1.2.2.2
  rw [dl, List.getElem?_append_left (by omega)] at hv
  refine ⟨by simp [List.getD, hv], ?_⟩
  exact deeps_pos h.1.2.2.2 v (memE hv)
theorem dJ_next {ns : List Nd} {k i : Int} {ds : List Int} {j d c v : Int} (h : dJ ns k i ds j d) (hc : (ndAt ns i).kids[j.toNat]? = some c) (hv : (dl k i ds)[c.toNat]? = some v) : dJ ns k i ds (j + 1) (max d v) := by
  obtain ⟨hv1, hv2, hv3⟩ := dJ_val h hc hv
  obtain ⟨h1, h2, h3, h4, h5, h6, h7, h8⟩ := h
  have := (getE hc).1
  refine ⟨h1, h2, h3, by omega, by omega, by omega, by omega, ?_⟩
  rw [← h8, dropE hc, toNat1 h4]; simp only [mx, hv1]
theorem dJ_mx {ns : List Nd} {k i : Int} {ds : List Int} {j d : Int} (h : dJ ns k i ds j d) (hl : ¬ j < (ndAt ns i).kids.length) : d = mx ds (ndAt ns i).kids 0 := by
  obtain ⟨h1, h2, h3, h4, h5, h6, h7, h8⟩ := h
  rw [List.drop_eq_nil_of_le (by omega)] at h8; exact h8
theorem dJ_over {ns : List Nd} {k i : Int} {ds : List Int} {j d : Int} (h : dJ ns k i ds j d) (hl : ¬ j < (ndAt ns i).kids.length) (hd : d ≥ 14) : 0 = deepOf ns k := by
  have hm := dJ_mx h hl
  obtain ⟨⟨ha, hb, he, hf⟩, h2, h3, _⟩ := h
  have e : ((i.toNat : Nat) : Int) = i := by omega
  have : deeps ns (i.toNat + 1) = none := by
    unfold deeps; rw [hf]; simp only
    rw [e, h3, if_pos rfl, if_pos (by omega)]
  unfold deepOf; rw [if_pos ha, deeps_none_le this (by omega)]
theorem dJ_out {ns : List Nd} {k i : Int} {ds : List Int} {j d : Int} (h : dJ ns k i ds j d) (hl : ¬ j < (ndAt ns i).kids.length) (hd : ¬ d ≥ 14) : dI ns k (i + 1) (ds ++ [d + 1]) := by
  have hm := dJ_mx h hl
  obtain ⟨⟨ha, hb, he, hf⟩, h2, h3, _⟩ := h
  have e : ((i.toNat : Nat) : Int) = i := by omega
  refine ⟨ha, by omega, by omega, ?_⟩
  rw [toNat1 hb]; unfold deeps; rw [hf]; simp only
  rw [e, h3, if_pos rfl, if_neg (by omega), ← hm]
theorem dJ_set {ns : List Nd} {k i : Int} {ds : List Int} {j d : Int} (h : dJ ns k i ds j d) : (dl k i ds).set i.toNat (d + 1) = dl k (i + 1) (ds ++ [d + 1]) := by
  obtain ⟨⟨ha, hb, he, hf⟩, h2, h3, _⟩ := h
  have hl := deeps_length hf
  have e : (k + 1 - i).toNat = (k + 1 - (i + 1)).toNat + 1 := by omega
  unfold dl; rw [List.set_append_right _ _ (by omega), e, hl]; simp [List.replicate_succ]
theorem dI_end {ns : List Nd} {k i v : Int} {ds : List Int} (h : dI ns k i ds) (hl : ¬ i < k + 1) (hv : (dl k i ds)[k.toNat]? = some v) : v = deepOf ns k := by
  obtain ⟨h0, h1, h2, h3⟩ := h
  obtain rfl : i = k + 1 := by omega
  have := isNd_iff.1 h0
  rw [show (k + 1).toNat = k.toNat + 1 by omega] at h3
  unfold deepOf; rw [if_pos h0, h3]
  simp [dl] at hv
  simp [List.getD, hv]
theorem dp_no {ns : List Nd} {k : Int} (h : isNd ns k = false) : 0 = deepOf ns k := by simp [deepOf, h]
theorem dJ_len {ns : List Nd} {k i : Int} {ds : List Int} {j d : Int} (h : dJ ns k i ds j d) : ((ndAt ns i).kids.length : Int) ≤ 12 := by
  have := (nodeOk_parts h.2.2.1).2.1; omega
def lDeep2 (x : List Nd × Int) (o : Int × List Int) : LS := {
  ι := Int × Int, inv := fun i => dJ x.1 x.2 o.1 o.2 i.1 i.2,
  regs := fun i => [(0, nds x.1), (1, .int .i64 x.2), (5, oints (dl x.2 o.1 o.2)), (18, .int .i64 (x.2 + 1)), (19, .int .i64 o.1), (6, .int .i64 o.1), (7, .int .i64 i.2), (30, ints (ndAt x.1 o.1).kids), (31, .int .i64 (ndAt x.1 o.1).kids.length), (32, .int .i64 i.1)], als := [], meas := fun i => (ndAt x.1 o.1).kids.length - i.1.toNat }
def lDeep (x : List Nd × Int) : LS := {
  ι := Int × List Int, inv := fun i => dI x.1 x.2 i.1 i.2,
  regs := fun i => [(0, nds x.1), (1, .int .i64 x.2), (5, oints (dl x.2 i.1 i.2)), (18, .int .i64 (x.2 + 1)), (19, .int .i64 i.1)], als := [], meas := fun i => x.2.toNat + 1 - i.1.toNat,
  sub := fun i => [(11, lDeep2 x i)] }
def s_iDeepOf  : Sig := { X := List Nd × Int, args := fun x => [nds x.1, .int .i64 x.2], pre := fun x => okNds x.1 ∧ x.1.length ≤ 2 ^ 30, Y := Unit, post := fun x y => True, res := fun x y => .int .i64 (deepOf x.1 x.2), outs := fun x y => [.top, .top], keep := false }
theorem iDeepOf_vc (x : List Nd × Int) : vcFun Go.Proofs.Tryd.prog (Γof [(48, 0, s_isNode), (58, 0, s_iNodeOk)]) (Eof [(39, ⟨Int,intA⟩)]) false (Lof ([(5,lDeep x)])) Go.Proofs.Tryd.f50.ntmps Go.Proofs.Tryd.f50.results.toList (Go.Proofs.Tryd.f50.body.getD .skip) s_iDeepOf x = ((∀ (y : Unit), True → True ∧ True ∧ True ∧ True) ∧ ∃ (x_1 : List Nd × Int), List.length x_1.fst < (4611686018427387904 : Nat) ∧ AV.sl false (0 : Nat) (4 : Nat) Nd (ndA false) x.fst = AV.sl false (0 : Nat) (4 : Nat) Nd (ndA false) x_1.fst ∧ x.snd = x_1.snd ∧ ∀ (y : Unit), True → bcase (!isNd x_1.fst x_1.snd) (∃ (y : Unit), True ∧ (0 : Int) = deepOf x.fst x.snd ∧ True) (inR IntKind.i64 (x.snd + (1 : Int)) ∧ ((0 : Int) ≤ x.snd + (1 : Int) ∧ x.snd + (1 : Int) ≤ x.snd + (1 : Int) ∧ (↑(8 : Nat) : Int) * (x.snd + (1 : Int)) ≤ (2 : Int) ^ (46 : Nat) ∧ x.snd + (1 : Int) ≤ (2 : Int) ^ (46 : Nat)) ∧ ∃ (x_2 : Int), (0 : Int) = x_2 ∧ (∃ (i : Int × List Int), dI x.fst x.snd i.fst i.snd ∧ (AV.sl false (0 : Nat) (4 : Nat) Nd (ndA false) x.fst = AV.sl false (0 : Nat) (4 : Nat) Nd (ndA false) x.fst ∧ x.snd = x.snd ∧ AV.sl true (0 : Nat) (1 : Nat) Int intA (List.replicate (Int.toNat (x.snd + (1 : Int))) x_2) = AV.sl true (0 : Nat) (1 : Nat) Int intA (dl x.snd i.fst i.snd) ∧ (↑(List.length (List.replicate (Int.toNat (x.snd + (1 : Int))) x_2)) : Int) = x.snd + (1 : Int) ∧ (0 : Int) = i.fst ∧ True) ∧ True) ∧ ∀ (i : Int × List Int), dI x.fst x.snd i.fst i.snd → bcase (decide (i.fst < x.snd + (1 : Int))) (∃ (x_3 : List Nd × Int), okNds x_3.fst ∧ AV.sl false (0 : Nat) (4 : Nat) Nd (ndA false) x.fst = AV.sl false (0 : Nat) (4 : Nat) Nd (ndA false) x_3.fst ∧ i.fst = x_3.snd ∧ ∀ (y : Unit), True → bcase (!nodeOk x_3.fst x_3.snd) (∃ (y : Unit), True ∧ (0 : Int) = deepOf x.fst x.snd ∧ True) (((0 : Int) ≤ i.fst ∧ i.fst < (↑(List.length x.fst) : Int)) ∧ ∀ (e : Nd), x.fst[Int.toNat i.fst]? = some e → (∃ (i_1 : Int × Int), dJ x.fst x.snd i.fst i.snd i_1.fst i_1.snd ∧ (AV.sl false (0 : Nat) (4 : Nat) Nd (ndA false) x.fst = AV.sl false (0 : Nat) (4 : Nat) Nd (ndA false) x.fst ∧ x.snd = x.snd ∧ AV.sl true (0 : Nat) (1 : Nat) Int intA (dl x.snd i.fst i.snd) = AV.sl true (0 : Nat) (1 : Nat) Int intA (dl x.snd i.fst i.snd) ∧ x.snd + (1 : Int) = x.snd + (1 : Int) ∧ i.fst = i.fst ∧ i.fst = i.fst ∧ (0 : Int) = i_1.snd ∧ AV.sl false (0 : Nat) (1 : Nat) Int intA e.kids = AV.sl false (0 : Nat) (1 : Nat) Int intA (ndAt x.fst i.fst).kids ∧ (↑(List.length e.kids) : Int) = (↑(List.length (ndAt x.fst i.fst).kids) : Int) ∧ (0 : Int) = i_1.fst ∧ True) ∧ True) ∧ ∀ (i_1 : Int × Int), dJ x.fst x.snd i.fst i.snd i_1.fst i_1.snd → bcase (decide (i_1.fst < (↑(List.length (ndAt x.fst i.fst).kids) : Int))) (((0 : Int) ≤ i_1.fst ∧ i_1.fst < (↑(List.length (ndAt x.fst i.fst).kids) : Int)) ∧ ∀ (e : Int), (ndAt x.fst i.fst).kids[Int.toNat i_1.fst]? = some e → ((0 : Int) ≤ e ∧ e < (↑(List.length (dl x.snd i.fst i.snd)) : Int)) ∧ Int.toNat e < List.length (dl x.snd i.fst i.snd) ∧ ∀ (x_4 : Int), (dl x.snd i.fst i.snd)[Int.toNat e]? = some x_4 → inR IntKind.i64 (i_1.fst + (1 : Int)) ∧ ∃ (i' : Int × Int), dJ x.fst x.snd i.fst i.snd i'.fst i'.snd ∧ List.length (ndAt x.fst i.fst).kids - Int.toNat i'.fst < List.length (ndAt x.fst i.fst).kids - Int.toNat i_1.fst ∧ (AV.sl false (0 : Nat) (4 : Nat) Nd (ndA false) x.fst = AV.sl false (0 : Nat) (4 : Nat) Nd (ndA false) x.fst ∧ x.snd = x.snd ∧ AV.sl true (0 : Nat) (1 : Nat) Int intA (dl x.snd i.fst i.snd) = AV.sl true (0 : Nat) (1 : Nat) Int intA (dl x.snd i.fst i.snd) ∧ x.snd + (1 : Int) = x.snd + (1 : Int) ∧ i.fst = i.fst ∧ i.fst = i.fst ∧ max i_1.snd x_4 = i'.snd ∧ AV.sl false (0 : Nat) (1 : Nat) Int intA (ndAt x.fst i.fst).kids = AV.sl false (0 : Nat) (1 : Nat) Int intA (ndAt x.fst i.fst).kids ∧ (↑(List.length (ndAt x.fst i.fst).kids) : Int) = (↑(List.length (ndAt x.fst i.fst).kids) : Int) ∧ i_1.fst + (1 : Int) = i'.fst ∧ True) ∧ True) (bcase (decide (i_1.snd ≥ (14 : Int))) (∃ (y : Unit), True ∧ (0 : Int) = deepOf x.fst x.snd ∧ True) (inR IntKind.i64 (i_1.snd + (1 : Int)) ∧ ((0 : Int) ≤ i.fst ∧ i.fst < (↑(List.length (dl x.snd i.fst i.snd)) : Int)) ∧ Int.toNat i.fst < List.length (dl x.snd i.fst i.snd) ∧ ∀ (x_4 : Int), (dl x.snd i.fst i.snd)[Int.toNat i.fst]? = some x_4 → ∃ (x' : Int), ((@List.nil AV) = [] ∧ (@List.nil AV) = []) ∧ i_1.snd + (1 : Int) = x' ∧ inR IntKind.i64 (i.fst + (1 : Int)) ∧ ∃ (i' : Int × List Int), dI x.fst x.snd i'.fst i'.snd ∧ Int.toNat x.snd + (1 : Nat) - Int.toNat i'.fst < Int.toNat x.snd + (1 : Nat) - Int.toNat i.fst ∧ (AV.sl false (0 : Nat) (4 : Nat) Nd (ndA false) x.fst = AV.sl false (0 : Nat) (4 : Nat) Nd (ndA false) x.fst ∧ x.snd = x.snd ∧ AV.sl true (0 : Nat) (1 : Nat) Int intA (List.set (dl x.snd i.fst i.snd) (Int.toNat i.fst) x') = AV.sl true (0 : Nat) (1 : Nat) Int intA (dl x.snd i'.fst i'.snd) ∧ x.snd + (1 : Int) = x.snd + (1 : Int) ∧ i.fst + (1 : Int) = i'.fst ∧ True) ∧ True)))) (((0 : Int) ≤ x.snd ∧ x.snd < (↑(List.length (dl x.snd i.fst i.snd)) : Int)) ∧ Int.toNat x.snd < List.length (dl x.snd i.fst i.snd) ∧ ∀ (x_3 : Int), (dl x.snd i.fst i.snd)[Int.toNat x.snd]? = some x_3 → ∃ (y : Unit), True ∧ x_3 = deepOf x.fst x.snd ∧ True))) := by kernel_rfl
theorem iDeepOf_ok  : Contract Tryd.prog 50 s_iDeepOf :=
  vcFun_ok (Γ := Γof [(48, 0, s_isNode), (58, 0, s_iNodeOk)]) (E := Eof [(39, ⟨Int,intA⟩)]) (ov := false) (L := fun x => Lof ([(5,lDeep x)])) Tryd.func50 rfl (by decide) (Γof_ok (l := [(48, 0, s_isNode), (58, 0, s_iNodeOk)]) ⟨isNode_ok, iNodeOk_ok, trivial⟩) fun (x : List Nd × Int) (hx : okNds x.1 ∧ x.1.length ≤ 2 ^ 30) => (iDeepOf_vc  x).mpr (by
  obtain ⟨h1, h2⟩ := hx; have hl := h1.1
  (repeat' first | with_reducible rfl | exact True.intro | refine inR_i64 ?_ ?_ | with_reducible refine And.intro ?_ ?_ | with_reducible refine bcase_dec (fun _ => ?_) (fun _ => ?_) | with_reducible refine bcase_bne (fun _ => ?_) (fun _ => ?_) | with_reducible refine bcase_beq (fun _ => ?_) (fun _ => ?_) | with_reducible refine bcase_not (fun _ => ?_) (fun _ => ?_) | refine bcase_intro (fun _ => ?_) (fun _ => ?_) | refine sl_eq ?_ | refine ex_flip () ?_ ?_ | (apply ex_flip6 <;> try dsimp only) | (apply ex_flip5 <;> try dsimp only) | (apply ex_flip4 <;> try dsimp only) | (apply ex_flip3 <;> try dsimp only) | (apply ex_flip2 <;> try dsimp only) | apply ex_flip | (refine Prod.forall.2 ?_; intro _; try dsimp only) | (intro _; try dsimp only))
  all_goals try (have nd0 := isNd_iff.1 (show isNd x.1 x.2 = true by assumption))
  all_goals first
    | rfl
    | exact dp_no (by assumption)
    | exact dI_init (by assumption)
    | exact dl_init
    | exact dI_bad (by assumption) (by assumption) (by assumption)
    | exact dJ_init (by assumption) (by assumption) (by assumption)
    | exact (dJ_in (by assumption) (by assumption)).1
    | exact (dJ_in (by assumption) (by assumption)).2
    | exact dJ_next (by assumption) (by assumption) (by assumption)
    | exact dJ_over (by assumption) (by assumption) (by assumption)
    | exact dJ_out (by assumption) (by assumption) (by assumption)
    | exact dJ_set (by assumption)
    | exact dI_end (by assumption) (by assumption) (by assumption)
    | (rw [ndAt_of (by assumption)]; done)
    | (rw [List.length_replicate]; omega)
    | (have := dJ_len (by assumption); obtain ⟨⟨_, _, _, _⟩, _, _, _, _, _, _, _⟩ := ‹dJ _ _ _ _ _ _›; (try simp only [i64max, room] at *); omega)
    | (have := dI_len (by assumption); obtain ⟨_, _, _, _⟩ := ‹dI _ _ _ _›; (try simp only [i64max, room] at *); omega)
    | (have := dJ_in (by assumption) (by assumption); omega)
    | ((try simp only [i64max, room] at *); omega)
    | skip)

end Go.My
