/- A part of the proof: the engine and the contracts, joined. -/
import Derived.Test.YtinkjpfkemkhaaaGreatDoorQJ
import Derived.ProofKit
import Derived.Test.YtinkjpfkemkhaaaGreatDoorProg
section
/- Marks of nodes looked at again. -/
set_option linter.unusedVariables false
set_option linter.unusedSimpArgs false
namespace Go.My
open Go.Eng Go.Proofs
variable {G : GInv}

def lHdNs (x : List Nd × Int) : LS := {
  ι := Int, inv := qhI mkN szN x.2 x.1, regs := fun i => [(0, nds x.1), (1, .int .i64 (x.2 + gTot szN (x.1.take i.toNat))), (5, .int .i64 i)], als := [], meas := fun i => x.1.length - i.toNat }
theorem hN_at {k i : Int} {l : List Nd} {g : Nd} (h : qhI mkN szN k l i) (hg : l[i.toNat]? = some g) : g.kind = k + gTot szN (l.take i.toNat) ∧ g.text = mText (k + gTot szN (l.take i.toNat) + 1) ∧
    g.kids = mkI (k + gTot szN (l.take i.toNat) + 1 + 1) g.kids.length ∧ g.blank = ((k + gTot szN (l.take i.toNat) + 1 + 1 + g.kids.length).tmod 3 == 0) ∧ (szN g : Int) = g.kids.length + 3 := by
  have h2 := qhI_at h hg
  exact ⟨congrArg Nd.kind h2, congrArg Nd.text h2, congrArg Nd.kids h2, congrArg Nd.blank h2, by simp [szN]⟩
def s_heldNds  : Sig := { X := List Nd × Int, args := fun x => [nds x.1, .int .i64 x.2], pre := fun x => (qgB szN x.1 ∧ x.1 = gMk mkN szN x.2 x.1) ∧ 0 ≤ x.2 ∧ x.2 ≤ 2 ^ 50, Y := Unit, post := fun x y => True, res := fun x y => .int .i64 (x.2 + gTot szN x.1), outs := fun x y => [.top, .top], keep := false }
theorem heldNds_vc (x : List Nd × Int) : vcFun Go.Proofs.Tryz.prog (Γof [(60, 0, s_heldInts), (59, 0, s_markText)]) (Eof []) false (Lof ([(2,lHdNs x)])) Go.Proofs.Tryz.f17.ntmps Go.Proofs.Tryz.f17.results.toList (Go.Proofs.Tryz.f17.body.getD .skip) s_heldNds x = ((∀ (y : Unit), True → True ∧ True ∧ True ∧ True) ∧ (∃ (i : Int), qhI mkN szN x.snd x.fst i ∧ (AV.sl false (0 : Nat) (4 : Nat) Nd (ndA false) x.fst = AV.sl false (0 : Nat) (4 : Nat) Nd (ndA false) x.fst ∧ x.snd = x.snd + gTot szN (List.take (Int.toNat i) x.fst) ∧ (0 : Int) = i ∧ True) ∧ True) ∧ ∀ (i : Int), qhI mkN szN x.snd x.fst i → bcase (decide (i < (↑(List.length x.fst) : Int))) (((0 : Int) ≤ i ∧ i < (↑(List.length x.fst) : Int)) ∧ ∀ (e : Nd), x.fst[Int.toNat i]? = some e → bcase (e.kind != x.snd + gTot szN (List.take (Int.toNat i) x.fst)) (∃ (y : Unit), True ∧ (-1 : Int) = x.snd + gTot szN x.fst ∧ True) (inR IntKind.i64 (x.snd + gTot szN (List.take (Int.toNat i) x.fst) + (1 : Int)) ∧ true = true ∧ true = true ∧ ((0 : Int) ≤ i ∧ i < (↑(List.length x.fst) : Int)) ∧ ∀ (e : Nd), x.fst[Int.toNat i]? = some e → ∃ (x_1 : Int), x_1 ≤ (2 : Int) ^ (60 : Nat) ∧ x.snd + gTot szN (List.take (Int.toNat i) x.fst) + (1 : Int) = x_1 ∧ ∃ (y0 : Unit), (∀ (y : Unit), True → AV.str (mText x_1) = AV.str (mText x_1)) ∧ true = true ∧ bcase (!e.text == mText x_1) (∃ (y : Unit), True ∧ (-1 : Int) = x.snd + gTot szN x.fst ∧ True) (inR IntKind.i64 (x.snd + gTot szN (List.take (Int.toNat i) x.fst) + (1 : Int) + (1 : Int)) ∧ ((0 : Int) ≤ i ∧ i < (↑(List.length x.fst) : Int)) ∧ ∀ (e : Nd), x.fst[Int.toNat i]? = some e → ∃ (x_2 : List Int × Int), (x_2.fst = mkI x_2.snd (List.length x_2.fst) ∧ List.length x_2.fst ≤ (1099511627776 : Nat) ∧ (0 : Int) ≤ x_2.snd ∧ x_2.snd ≤ (2 : Int) ^ (60 : Nat)) ∧ AV.sl false (0 : Nat) (1 : Nat) Int intA e.kids = AV.sl false (0 : Nat) (1 : Nat) Int intA x_2.fst ∧ x.snd + gTot szN (List.take (Int.toNat i) x.fst) + (1 : Int) + (1 : Int) = x_2.snd ∧ ∀ (y : Unit), True → bcase (decide (x_2.snd + (↑(List.length x_2.fst) : Int) < (0 : Int))) (∃ (y : Unit), True ∧ (-1 : Int) = x.snd + gTot szN x.fst ∧ True) (((0 : Int) ≤ i ∧ i < (↑(List.length x.fst) : Int)) ∧ ∀ (e : Nd), x.fst[Int.toNat i]? = some e → (3 : Int) ≠ (0 : Int) ∧ bcase (!e.blank == (Int.tmod (x_2.snd + (↑(List.length x_2.fst) : Int)) (3 : Int) == (0 : Int))) (∃ (y : Unit), True ∧ (-1 : Int) = x.snd + gTot szN x.fst ∧ True) (inR IntKind.i64 (x_2.snd + (↑(List.length x_2.fst) : Int) + (1 : Int)) ∧ inR IntKind.i64 (i + (1 : Int)) ∧ ∃ (i' : Int), qhI mkN szN x.snd x.fst i' ∧ List.length x.fst - Int.toNat i' < List.length x.fst - Int.toNat i ∧ (AV.sl false (0 : Nat) (4 : Nat) Nd (ndA false) x.fst = AV.sl false (0 : Nat) (4 : Nat) Nd (ndA false) x.fst ∧ x_2.snd + (↑(List.length x_2.fst) : Int) + (1 : Int) = x.snd + gTot szN (List.take (Int.toNat i') x.fst) ∧ i + (1 : Int) = i' ∧ True) ∧ True))))) (∃ (y : Unit), True ∧ x.snd + gTot szN (List.take (Int.toNat i) x.fst) = x.snd + gTot szN x.fst ∧ True)) := by kernel_rfl
theorem heldNds_ok  : Contract G Tryz.prog 17 s_heldNds :=
  vcFun_ok (Γ := Γof [(60, 0, s_heldInts), (59, 0, s_markText)]) (E := Eof []) (ov := false) (L := fun x => Lof ([(2,lHdNs x)])) Tryz.func17 rfl (by decide) (Γof_ok (l := [(60, 0, s_heldInts), (59, 0, s_markText)]) ⟨heldInts_ok, markText_ok, trivial⟩) fun (x : List Nd × Int) (hx : (qgB szN x.1 ∧ x.1 = gMk mkN szN x.2 x.1) ∧ 0 ≤ x.2 ∧ x.2 ≤ 2 ^ 50) => (heldNds_vc  x).mpr (by
  obtain ⟨⟨h1, h0⟩, h2, h3⟩ := hx
  (repeat' first | with_reducible rfl | exact True.intro | refine inR_i64 ?_ ?_ | with_reducible refine And.intro ?_ ?_ | with_reducible refine bcase_dec (fun _ => ?_) (fun _ => ?_) | with_reducible refine bcase_bne (fun _ => ?_) (fun _ => ?_) | with_reducible refine bcase_beq (fun _ => ?_) (fun _ => ?_) | with_reducible refine bcase_not (fun _ => ?_) (fun _ => ?_) | refine bcase_intro (fun _ => ?_) (fun _ => ?_) | refine sl_eq ?_ | refine ex_flip () ?_ ?_ | (apply ex_flip6 <;> try dsimp only) | (apply ex_flip5 <;> try dsimp only) | (apply ex_flip4 <;> try dsimp only) | (apply ex_flip3 <;> try dsimp only) | (apply ex_flip2 <;> try dsimp only) | apply ex_flip | (refine Prod.forall.2 ?_; intro _; try dsimp only) | (intro _; try dsimp only))
  all_goals (repeat (rename x.1[Int.toNat _]? = some _ => hq; revert hq; rename x.1[Int.toNat _]? = some _ => hr; intro hq; rw [hr] at hq; cases hq))
  all_goals try (have hq1 := hN_at (show qhI _ _ _ _ _ by assumption) (by assumption))
  all_goals first
    | rfl
    | exact ⟨h0, h1, by omega, by omega⟩
    | (simp [gTot]; done)
    | exact (show qhI _ _ _ _ _ by assumption).2.2.1
    | assumption
    | exact qhI_end (by assumption) (by assumption)
    | exact qhI_next (by assumption) (by assumption)
    | exact hq1.2.2.1
    | (exfalso; exact (show _ ≠ _ by assumption) hq1.1)
    | (exfalso; exact (show _ ≠ _ by assumption) hq1.2.1)
    | (exfalso; exact (show _ ≠ _ by assumption) hq1.2.2.2.1)
    | (exfalso; simp [hq1.2.1, hq1.2.2.2.1] at *; done)
    | (rw [qhI_step (by assumption) (by assumption), hq1.2.2.2.2]; omega)
    | (have hi := (show qhI _ _ _ _ _ by assumption); have ht := qgI_tot hi.2; have := hi.2.2.1; have := hi.2.2.2; have := h1.1; (try simp only [i64max]); omega)
    | (have hi := (show qhI _ _ _ _ _ by assumption); have ht := qgI_tot hi.2; have := hi.2.2.1; have := hi.2.2.2; have hg := qhI_sz hi (by assumption); have hg2 := hq1.2.2.2.2; have := h1.1; (try simp only [i64max]); omega)
    | skip)

end Go.My
end
section
/- The law of Ordered. -/
set_option linter.unusedVariables false
set_option linter.unusedSimpArgs false
namespace Go.My
open Go.Eng Go.Proofs
variable {G : GInv}

theorem resB_txt2 {l : List Nd} (h : resB l) : txtB l := ⟨by have := h.1; omega, fun e he => by have := h.2 e he; omega⟩
theorem orderedT_resB {x : List Nd} (hb : resB x) : resB (orderedT x) := by
  unfold orderedT
  split
  · rename_i h
    obtain ⟨h1, h2, h3, h4⟩ := tree1_of h
    have hu := ordT_up h (k := (x.length : Int) - 1) (by omega) (by omega)
    have hlen := putN_bd (@rId_ok (ordT x)) (n := bigN) (out := []) hu (by unfold bigN; omega)
    have hv := ordT_vlen h 1073741824
    rw [← bigN_eq] at hv
    refine ⟨by simp at hlen; omega, ?_⟩
    refine putN_all (@rId_ok (ordT x)) (fun o => by simp [parNd]) (fun k y hy => by cases hy) (fun k ks hu hk => ?_) hu (by unfold bigN; omega) (fun e he => by cases he)
    have hr := isNd_iff.1 hu.1
    rw [ordT_len] at hr
    have hp := (nodeOk_parts (okUp_at hu)).2.1
    refine ⟨?_, by rw [hk]; show (ndAt (ordT x) k).kids.length ≤ _; omega⟩
    have e : x[k.toNat]? = some (x[k.toNat]'(by omega)) := List.getElem?_eq_getElem (by omega)
    have hm := hb.2 _ (memE e)
    have e2 := ndAt_of e
    show (ndAt (ordT x) k).text.length ≤ 1048576
    by_cases hk : k = (x.length : Int) - 1
    · subst hk
      rw [ordT_root h]
      show (ndAt x ((x.length : Nat) - 1 : Int)).text.length ≤ 1048576
      rw [e2]; exact hm.1
    · rw [(ordT_low h hr.1 (by omega)).2.1, e2]; exact hm.1
  · exact hb
def s_lawOrdered  : Sig := { X := List Nd, args := fun x => [nds x], pre := fun x => smallNds x, Y := Unit, post := fun x y => True, res := fun x y => .bool true, outs := fun x y => [.top], keep := false }
theorem lawOrdered_vc (x : List Nd) : vcFun Go.Proofs.Tryz.prog (Γof [(11, 0, s_szNds), (13, 0, s_toNds), (30, 0, s_sOrdered), (31, 0, s_iOrdered), (15, 0, s_eqNds), (16, 0, s_markNds), (17, 0, s_heldNds)]) (Eof []) false (Lof ([])) Go.Proofs.Tryz.f7.ntmps Go.Proofs.Tryz.f7.results.toList (Go.Proofs.Tryz.f7.body.getD .skip) s_lawOrdered x = ((∀ (y : Unit), True → True ∧ True ∧ True) ∧ ∃ (x_1 : List Nd × Int), ((-1 : Int) ≤ x_1.snd ∧ x_1.snd ≤ (2 : Int) ^ (50 : Nat) ∧ smallNds x_1.fst) ∧ AV.sl false (0 : Nat) (4 : Nat) Nd (ndA false) x = AV.sl false (0 : Nat) (4 : Nat) Nd (ndA false) x_1.fst ∧ (1048576 : Int) = x_1.snd ∧ ∀ (y : Unit), True → bcase (decide (szNds x_1.fst x_1.snd < (0 : Int))) (∃ (y : Unit), True ∧ true = true ∧ True) (∃ (x_2 : List Nd), (List.length x_2 ≤ (1073741824 : Nat) ∧ ∀ (e : Nd), e ∈ x_2 → List.length e.kids ≤ (1073741824 : Nat)) ∧ AV.sl false (0 : Nat) (4 : Nat) Nd (ndA false) x = AV.sl false (0 : Nat) (4 : Nat) Nd (ndA false) x_2 ∧ ∀ (y : Unit), True → ∃ (x_3 : List Nd), ((okNds x_3 ∧ kidsB x_3) ∧ txtB x_3) ∧ AV.sl false (0 : Nat) (4 : Nat) Nd (fun (x : Nd) => fzL (ndA true x)) x_2 = AV.sl false (0 : Nat) (4 : Nat) Nd (ndA false) x_3 ∧ ∀ (y : Unit), True → ∃ (x_4 : List Nd), (List.length x_4 ≤ (1073741824 : Nat) ∧ ∀ (e : Nd), e ∈ x_4 → List.length e.kids ≤ (1073741824 : Nat)) ∧ AV.sl false (0 : Nat) (4 : Nat) Nd (ndA false) x = AV.sl false (0 : Nat) (4 : Nat) Nd (ndA false) x_4 ∧ ∀ (y : Unit), True → ∃ (x_5 : List Nd), ((okNds x_5 ∧ kidsB x_5) ∧ txtB x_5) ∧ AV.sl false (0 : Nat) (4 : Nat) Nd (fun (x : Nd) => fzL (ndA true x)) x_4 = AV.sl false (0 : Nat) (4 : Nat) Nd (ndA false) x_5 ∧ ∀ (y : Unit), True → ∃ (x_6 : List Nd × List Nd), (smallNds x_6.fst ∧ smallNds x_6.snd) ∧ AV.sl false (0 : Nat) (4 : Nat) Nd (fun (x : Nd) => fzL (ndA true x)) (orderedT x_5) = AV.sl false (0 : Nat) (4 : Nat) Nd (ndA false) x_6.fst ∧ AV.sl false (0 : Nat) (4 : Nat) Nd (fun (x : Nd) => fzL (ndA true x)) (orderedT x_3) = AV.sl false (0 : Nat) (4 : Nat) Nd (ndA false) x_6.snd ∧ ∀ (y : Unit), True → bcase (!beqNds x_6.fst x_6.snd) (∃ (y : Unit), True ∧ false = true ∧ True) (∃ (x_7 : List Nd), (List.length x_7 ≤ (1073741824 : Nat) ∧ ∀ (e : Nd), e ∈ x_7 → List.length e.kids ≤ (1073741824 : Nat)) ∧ AV.sl false (0 : Nat) (4 : Nat) Nd (ndA false) x = AV.sl false (0 : Nat) (4 : Nat) Nd (ndA false) x_7 ∧ ∀ (y : Unit), True → ∃ (x_8 : List Nd × List Nd), (smallNds x_8.fst ∧ smallNds x_8.snd) ∧ AV.sl false (0 : Nat) (4 : Nat) Nd (fun (x : Nd) => fzL (ndA true x)) x_4 = AV.sl false (0 : Nat) (4 : Nat) Nd (ndA false) x_8.fst ∧ AV.sl false (0 : Nat) (4 : Nat) Nd (fun (x : Nd) => fzL (ndA true x)) x_7 = AV.sl false (0 : Nat) (4 : Nat) Nd (ndA false) x_8.snd ∧ ∀ (y : Unit), True → bcase (!beqNds x_8.fst x_8.snd) (∃ (y : Unit), True ∧ false = true ∧ True) (∃ (x_9 : List Nd × Int), (qgB szN x_9.fst ∧ (0 : Int) ≤ x_9.snd ∧ x_9.snd ≤ (2 : Int) ^ (50 : Nat)) ∧ AV.sl true (0 : Nat) (4 : Nat) Nd (ndA true) x_4 = AV.sl true (0 : Nat) (4 : Nat) Nd (ndA true) x_9.fst ∧ (1 : Int) = x_9.snd ∧ ∀ (y : Unit), True → bcase (decide (x_9.snd + gTot szN x_9.fst < (0 : Int))) (∃ (y : Unit), True ∧ false = true ∧ True) (∃ (x_10 : List Nd × List Nd), (smallNds x_10.fst ∧ smallNds x_10.snd) ∧ AV.sl false (0 : Nat) (4 : Nat) Nd (fun (x : Nd) => fzL (ndA true x)) (orderedT x_5) = AV.sl false (0 : Nat) (4 : Nat) Nd (ndA false) x_10.fst ∧ AV.sl false (0 : Nat) (4 : Nat) Nd (fun (x : Nd) => fzL (ndA true x)) (orderedT x_3) = AV.sl false (0 : Nat) (4 : Nat) Nd (ndA false) x_10.snd ∧ ∀ (y : Unit), True → bcase (!beqNds x_10.fst x_10.snd) (∃ (y : Unit), True ∧ false = true ∧ True) (∃ (x_11 : List Nd × Int), (qgB szN x_11.fst ∧ (0 : Int) ≤ x_11.snd ∧ x_11.snd ≤ (2 : Int) ^ (50 : Nat)) ∧ AV.sl true (0 : Nat) (4 : Nat) Nd (ndA true) (orderedT x_5) = AV.sl true (0 : Nat) (4 : Nat) Nd (ndA true) x_11.fst ∧ (1 : Int) = x_11.snd ∧ ∀ (y : Unit), True → ∃ (x_12 : List Nd × Int), ((qgB szN x_12.fst ∧ x_12.fst = gMk mkN szN x_12.snd x_12.fst) ∧ (0 : Int) ≤ x_12.snd ∧ x_12.snd ≤ (2 : Int) ^ (50 : Nat)) ∧ AV.sl false (0 : Nat) (4 : Nat) Nd (fun (x : Nd) => fzL (ndA true x)) (gMk mkN szN x_11.snd x_11.fst) = AV.sl false (0 : Nat) (4 : Nat) Nd (ndA false) x_12.fst ∧ (1 : Int) = x_12.snd ∧ ∀ (y : Unit), True → bcase (decide (x_12.snd + gTot szN x_12.fst < (0 : Int))) (∃ (y : Unit), True ∧ false = true ∧ True) (bcase (x_12.snd + gTot szN x_12.fst != x_11.snd + gTot szN x_11.fst) (∃ (y : Unit), True ∧ false = true ∧ True) (∃ (x_13 : List Nd), (List.length x_13 ≤ (1073741824 : Nat) ∧ ∀ (e : Nd), e ∈ x_13 → List.length e.kids ≤ (1073741824 : Nat)) ∧ AV.sl false (0 : Nat) (4 : Nat) Nd (ndA false) x = AV.sl false (0 : Nat) (4 : Nat) Nd (ndA false) x_13 ∧ ∀ (y : Unit), True → ∃ (x : List Nd), ((okNds x ∧ kidsB x) ∧ txtB x) ∧ AV.sl false (0 : Nat) (4 : Nat) Nd (fun (x : Nd) => fzL (ndA true x)) x_13 = AV.sl false (0 : Nat) (4 : Nat) Nd (ndA false) x ∧ ∀ (y : Unit), True → ∃ (x_14 : List Nd × List Nd), (smallNds x_14.fst ∧ smallNds x_14.snd) ∧ AV.sl false (0 : Nat) (4 : Nat) Nd (fun (x : Nd) => fzL (ndA true x)) (orderedT x) = AV.sl false (0 : Nat) (4 : Nat) Nd (ndA false) x_14.fst ∧ AV.sl false (0 : Nat) (4 : Nat) Nd (fun (x : Nd) => fzL (ndA true x)) (orderedT x_3) = AV.sl false (0 : Nat) (4 : Nat) Nd (ndA false) x_14.snd ∧ ∀ (y : Unit), True → bcase (!beqNds x_14.fst x_14.snd) (∃ (y : Unit), True ∧ false = true ∧ True) (∃ (x : List Nd × Int), ((qgB szN x.fst ∧ x.fst = gMk mkN szN x.snd x.fst) ∧ (0 : Int) ≤ x.snd ∧ x.snd ≤ (2 : Int) ^ (50 : Nat)) ∧ AV.sl false (0 : Nat) (4 : Nat) Nd (fun (x : Nd) => fzL (ndA true x)) (gMk mkN szN x_11.snd x_11.fst) = AV.sl false (0 : Nat) (4 : Nat) Nd (ndA false) x.fst ∧ (1 : Int) = x.snd ∧ ∀ (y : Unit), True → bcase (decide (x.snd + gTot szN x.fst < (0 : Int))) (∃ (y : Unit), True ∧ false = true ∧ True) (bcase (x.snd + gTot szN x.fst != x_11.snd + gTot szN x_11.fst) (∃ (y : Unit), True ∧ false = true ∧ True) (∃ (y : Unit), True ∧ true = true ∧ True))))))))))) := by kernel_rfl
set_option maxHeartbeats 4000000 in
theorem lawOrdered_ok  : Contract G Tryz.prog 7 s_lawOrdered :=
  vcFun_ok (Γ := Γof [(11, 0, s_szNds), (13, 0, s_toNds), (30, 0, s_sOrdered), (31, 0, s_iOrdered), (15, 0, s_eqNds), (16, 0, s_markNds), (17, 0, s_heldNds)]) (E := Eof []) (ov := false) (L := fun x => Lof ([])) Tryz.func7 rfl (by decide) (Γof_ok (l := [(11, 0, s_szNds), (13, 0, s_toNds), (30, 0, s_sOrdered), (31, 0, s_iOrdered), (15, 0, s_eqNds), (16, 0, s_markNds), (17, 0, s_heldNds)]) ⟨szNds_ok, toNds_ok, sOrdered_ok, iOrdered_ok, eqNds_ok, markNds_ok, heldNds_ok, trivial⟩) fun (x : List Nd) (hx : smallNds x) => (lawOrdered_vc  x).mpr (by
  have h1 : smallNds x := hx
  simp only [fz_nds]
  (repeat' first | with_reducible rfl | exact True.intro | refine inR_i64 ?_ ?_ | with_reducible refine And.intro ?_ ?_ | with_reducible refine bcase_dec (fun _ => ?_) (fun _ => ?_) | with_reducible refine bcase_bne (fun _ => ?_) (fun _ => ?_) | with_reducible refine bcase_beq (fun _ => ?_) (fun _ => ?_) | with_reducible refine bcase_not (fun _ => ?_) (fun _ => ?_) | refine bcase_intro (fun _ => ?_) (fun _ => ?_) | refine sl_eq ?_ | refine ex_flip () ?_ ?_ | (apply ex_flip6 <;> try dsimp only) | (apply ex_flip5 <;> try dsimp only) | (apply ex_flip4 <;> try dsimp only) | (apply ex_flip3 <;> try dsimp only) | (apply ex_flip2 <;> try dsimp only) | apply ex_flip | (refine Prod.forall.2 ?_; intro _; try dsimp only) | (intro _; try dsimp only))
  all_goals try (have hr := resB_of (show ¬ szNds x 1048576 < 0 by assumption); have hr2 := orderedT_resB hr; have hn1 := gTot_nn szN x; have hn2 := gTot_nn szN (orderedT x))
  all_goals try rw [mk_tot] at *
  all_goals first
    | exact h1
    | omega
    | contradiction
    | exact gB6 (by assumption)
    | exact resB_small hr
    | exact resB_small hr2
    | exact resB_ok hr
    | exact resB_kids hr
    | exact resB_txt2 hr
    | exact resB_g hr
    | exact resB_g hr2
    | exact gB_mk szN_mk (resB_g hr2)
    | exact mk_idem _ _
    | exact gB3 (by assumption)
    | (exact fun e he => gB4 (by assumption) he)
    | (have := gB4 (by assumption) (by assumption); omega)
    | (simp only [ne_eq, not_true_eq_false] at *; done)
    | (exfalso; simp [beqNds_self] at *; done)
    | skip)

end Go.My
end
section
/- What a reading of data says, in the engine's words. -/
set_option linter.unusedVariables false
set_option linter.unusedSimpArgs false
namespace Go.Eng

def Old (w : World) : FP := fun b => w.heap.size ≤ b

def Opens (P : Program) (t : TypeId) {α : Type} (f : α → List AV) (good : α → Prop) : Prop :=
  ∀ {H : Type} (enc : TypeId × Value → H) (w : World) (spare : Nat → Bool) (held : Bool) (fuel : Nat) (cs : List Value) (y : DataW H × List MemPlace),
    DataW.trod enc P w 0 spare held fuel t cs = some y → ∃ x : α, good x ∧ rel0L (Old w) w (f x) cs (fun _ => False)

theorem rel0L_one {Z : FP} {w : World} {a : AV} {v : Value} : rel0L Z w [a] [v] (fun _ => False) ↔ rel0 Z w a v (fun _ => False) := by
  simp only [rel0L]
  constructor
  · rintro ⟨u, cs', A, B, e, hj, h1, h2, h3⟩
    simp only [List.cons.injEq] at e
    obtain ⟨rfl, rfl⟩ := e
    have := (emp_of_join hj emp_false).1
    rwa [emp_eq this] at h1
  · intro h
    exact ⟨v, [], fun _ => False, fun _ => False, rfl, join_emp_left _, h, rfl, emp_false⟩

theorem rel0L_cons {Z : FP} {w : World} {a : AV} {azs : List AV} {v : Value} {vs : List Value} (h1 : rel0 Z w a v (fun _ => False)) (h2 : rel0L Z w azs vs (fun _ => False)) :
    rel0L Z w (a :: azs) (v :: vs) (fun _ => False) := by
  simp only [rel0L]
  exact ⟨v, vs, _, _, rfl, join_emp_left _, h1, h2⟩

theorem wf_int {k : IntKind} {n : Int} (h : (Lit.int k n).wf = true) : inR k n := by
  unfold inR
  simpa [Lit.wf] using h

theorem opens_int {P : Program} {t : TypeId} {k : IntKind} (ht : P.underlying t = some (.int k)) : Opens P t (fun n : Int => [.int k n]) (fun n => inR k n) := by
  intro H enc w spare held fuel cs y h
  obtain ⟨n, rfl, _, hw⟩ := DataW.trod_int ht h
  exact ⟨n, wf_int hw, rel0L_one.2 (by simp [rel0, emp])⟩
theorem opens_bool {P : Program} {t : TypeId} (ht : P.underlying t = some .bool) : Opens P t (fun b : Bool => [.bool b]) (fun _ => True) := by
  intro H enc w spare held fuel cs y h
  obtain ⟨n, rfl, _⟩ := DataW.trod_bool ht h
  exact ⟨n, trivial, rel0L_one.2 (by simp [rel0, emp])⟩
theorem opens_str {P : Program} {t : TypeId} (ht : P.underlying t = some .string) : Opens P t (fun s : List UInt8 => [.str s]) (fun s => s.length < 2 ^ 63) := by
  intro H enc w spare held fuel cs y h
  obtain ⟨n, rfl, _, hl⟩ := DataW.trod_string ht h
  refine ⟨n.data.toList, ?_, rel0L_one.2 ?_⟩
  · have : n.data.toList.length ≤ maxLen := hl
    unfold maxLen at this; omega
  · simp only [rel0]; exact ⟨trivial, emp_false⟩

theorem exists_list {α : Type} {p : Nat → α → Prop} : ∀ n, (∀ i, i < n → ∃ x, p i x) → ∃ l : List α, l.length = n ∧ ∀ i x, l[i]? = some x → p i x
  | 0, _ => ⟨[], rfl, fun i x h => by simp at h⟩
  | n + 1, h => by
    obtain ⟨l, hl, hp⟩ := exists_list n fun i hi => h i (by omega)
    obtain ⟨x, hx⟩ := h n (by omega)
    refine ⟨l ++ [x], by simp [hl], fun i y hy => ?_⟩
    by_cases hi : i < l.length
    · rw [List.getElem?_append_left hi] at hy; exact hp i y hy
    · rw [List.getElem?_append_right (by omega)] at hy
      have : i - l.length = 0 := by
        rcases Nat.eq_zero_or_pos (i - l.length) with h | h
        · exact h
        · rw [List.getElem?_eq_none (by simp; omega)] at hy; cases hy
      rw [this] at hy; simp at hy; subst hy
      rwa [show i = n by omega]

theorem rows_of {α : Type} {sz : Nat} {R : α → List Value → FP → Prop} : ∀ (xs : List α) (arr : List Value),
    (∀ (i : Nat) (x : α), xs[i]? = some x → ((arr.drop (i * sz)).take sz).length = sz ∧ R x ((arr.drop (i * sz)).take sz) (fun _ => False)) → Rows sz R xs arr (fun _ => False)
  | [], arr, h => emp_false
  | x :: xs, arr, h => by
    have h0 := h 0 x rfl
    simp only [Nat.zero_mul, List.drop_zero] at h0
    refine ⟨_, _, join_emp_left _, h0.1, h0.2, rows_of xs (arr.drop sz) fun i y hy => ?_⟩
    have := h (i + 1) y (by simpa using hy)
    rwa [Nat.succ_mul, Nat.add_comm, ← List.drop_drop] at this

theorem opens_slice {P : Program} {t e : TypeId} {sz : Nat} {α : Type} {f : α → List AV} {good : α → Prop} (ht : P.underlying t = some (.slice e)) (hc : P.cellsOf e = sz) (hpos : 0 < sz)
    (ho : Opens P e f good) : Opens P t (fun l : List α => [.sl false 0 sz α f l]) (fun l => l.length < 2 ^ 63 ∧ ∀ x ∈ l, good x) := by
  intro H enc w spare held fuel cs y h
  rcases DataW.trod_slice ht h with ⟨rfl, _⟩ | ⟨a, len, cap, elems, rest, n, _, rfl, _, hb, hl, hm, hlen, hel, _, _⟩
  · refine ⟨[], ⟨by simp, by simp⟩, rel0L_one.2 ?_⟩
    simp only [rel0]
    exact ⟨none, 0, 0, rfl, rfl, Nat.le_refl _, .inr ⟨trivial, emp_false, .inl trivial⟩⟩
  · have each : ∀ i, i < len → ∃ x : α, good x ∧ ∃ cs, w.cells? 0 (a.add (i * sz)) sz = some cs ∧ rel0L (Old w) w (f x) cs (fun _ => False) := by
      intro i hi
      have h1 := hel i hi
      rw [hc] at h1
      rw [List.getElem?_eq_getElem (by omega : i < elems.length), Option.bind_eq_some_iff] at h1
      obtain ⟨cs, h2, h3⟩ := h1
      obtain ⟨x, hg, hr⟩ := ho enc w spare held n cs _ h3
      exact ⟨x, hg, cs, h2, hr⟩
    obtain ⟨l, hll, hp⟩ := exists_list len each
    refine ⟨l, ⟨?_, ?_⟩, rel0L_one.2 ?_⟩
    · unfold maxLen at hm; omega
    · intro x hx
      obtain ⟨i, hi⟩ := List.getElem?_of_mem hx
      exact (hp i x hi).1
    · simp only [rel0]
      refine ⟨some a, len, cap, rfl, hll.symm, hl, .inr ⟨trivial, emp_false, ?_⟩⟩
      rcases Nat.eq_zero_or_pos len with h0 | h0
      · exact .inl (List.length_eq_zero_iff.1 (by omega))
      · refine .inr ?_
        obtain ⟨x0, _, c0, hc0, _⟩ := each 0 h0
        have h00 := (World.cells?_some hc0).2.2 0 hpos
        have hcl := (World.cells?_some hc0).2.1
        simp only [Nat.zero_mul, Addr.add] at h00
        obtain ⟨b, off, sp⟩ := a
        simp only [World.cell?, if_true] at h00
        split at h00
        · rename_i arr ty fr harr
          split at h00
          · rw [List.getElem?_eq_getElem (by omega)] at h00; cases h00
          · rename_i hsp
            have hsp : sp = none := by simpa using hsp
            subst hsp
            have hlt : b < w.heap.size := by
              rcases Nat.lt_or_ge b w.heap.size with h | h
              · exact h
              · rw [Array.getElem?_eq_none h] at harr; cases harr
            refine ⟨b, off, arr, ty, fr, rfl, by unfold Old; omega, harr, rows_of l _ fun i x hx => ?_⟩
            have hi : i < l.length := (List.getElem?_eq_some_iff.1 hx).1
            obtain ⟨hg, cs, hcs, hr⟩ := hp i x hx
            obtain ⟨_, hcl, hce⟩ := World.cells?_some hcs
            have e : ((arr.toList.drop off).drop (i * sz)).take sz = cs := by
              refine List.ext_getElem? fun j => ?_
              rw [List.getElem?_take]
              split
              · rename_i hj
                have := hce j hj
                rw [← this]
                simp only [List.getElem?_drop, Array.getElem?_toList]
                have ea : ((⟨b, off, none⟩ : Addr).add (i * sz)).add j = ⟨b, off + i * sz + j, none⟩ := by
                  unfold Addr.add
                  by_cases h1 : i * sz = 0 <;> by_cases h2 : j = 0 <;> simp [h1, h2]
                rw [ea]
                simp only [World.cell?, harr]
                simp [Nat.add_assoc]
              · rw [List.getElem?_eq_none (by omega)]
            rw [e]
            exact ⟨hcl, hr⟩
        · rw [List.getElem?_eq_getElem (by omega)] at h00; cases h00

theorem trod_struct_cells {P : Program} {H : Type} {enc : TypeId × Value → H} {w : World} {base : Nat} {spare : Nat → Bool} {held : Bool} {fuel : Nat} {t : TypeId} {cs : List Value} {y : DataW H × List MemPlace} {fs : Array Field}
    (ht : P.underlying t = some (.struct fs)) (hn : P.cellsOf t = fs.size) (hf : ∀ (i : Nat) (f : Field), fs[i]? = some f → f.offset = i ∧ P.cellsOf f.type = 1)
    (h : DataW.trod enc P w base spare held fuel t cs = some y) : cs.length = fs.size ∧ ∃ n, ∀ (i : Nat) (f : Field) (c : Value), fs[i]? = some f → cs[i]? = some c →
      ∃ z, DataW.trod enc P w base spare held n f.type [c] = some z := by
  obtain ⟨xs, n, _, _, h1, h2, h3⟩ := DataW.trod_struct ht h
  refine ⟨by omega, n, fun i f c hi hc => ?_⟩
  have h4 := h3 i f hi
  rw [(hf i f hi).1, (hf i f hi).2] at h4
  have hlt : i < cs.length := (List.getElem?_eq_some_iff.1 hc).1
  have e : (cs.drop i).take 1 = [c] := by
    rw [List.drop_eq_getElem_cons hlt]
    simp only [List.take_succ_cons, List.take_zero, List.cons.injEq, and_true]
    exact (List.getElem?_eq_some_iff.1 hc).2
  rw [e] at h4
  rw [h4]
  have : i < xs.length := by omega
  exact ⟨xs[i], by simp [this]⟩
end Go.Eng
end
section
/- From a function's contract to a row: a law that returns true. -/
set_option linter.unusedVariables false
set_option linter.unusedSimpArgs false
namespace Go.Eng
open Go.ChangeShapes Go.WideShapes Go.ChangeAt Go.RowKit

theorem after_below {Z Z' A' : FP} {w w' : World} (h : After Z w (fun _ => False) Z' w' A') : Below w.heap.size w w' :=
  ⟨h.os, h.tape, h.output, h.size, fun b hb => (h.old b hb (fun x => x)).1⟩

theorem trodAll_below {H : Type} {enc : TypeId × Value → H} {P : Program} (hl : laidOutB P = true) {W W' : World} (hb : Below W.heap.size W W') :
    ∀ (ts : List TypeId) (vs : List Value) (ds : List (DataW H)) (ps : List MemPlace), ts.all (fun t => P.readableRec t && decide (t < P.types.size)) = true →
    DataW.TrodAll enc P W 0 (fun _ => true) true ts vs ds ps → (∀ x ∈ ps, x.block < W.heap.size) → DataW.TrodAll enc P W' 0 (fun b => decide (b < W.heap.size)) true ts vs ds ps
  | [], [], [], ps, ht, h, hp => h
  | t :: ts, v :: vs, d :: ds, ps, ht, h, hp => by
    obtain ⟨p, q, h1, h2, rfl⟩ := h
    simp only [List.all_cons, Bool.and_eq_true, decide_eq_true_eq] at ht
    exact ⟨p, q, Below.trod hl ht.1.1 ht.1.2 h1 hb (fun x hx => hp x (List.mem_append_left _ hx)), trodAll_below hl hb ts vs ds q ht.2 h2 (fun x hx => hp x (List.mem_append_right _ hx)), rfl⟩
  | [], _ :: _, _, _, ht, h, hp => h.elim
  | [], [], _ :: _, _, ht, h, hp => h.elim
  | _ :: _, [], _, _, ht, h, hp => h.elim
  | _ :: _, _ :: _, [], _, ht, h, hp => h.elim

theorem law_post {H : Type} {enc : TypeId × Value → H} {P : Program} {f : Func} {s : ChangeSpec} {W W' : World} {args : Array Value} {ds gs : List (DataW H)} {before : List MemPlace} {tb : TypeId}
    (hl : laidOutB P = true) (ht : f.params.toList.all (fun t => P.readableRec t && decide (t < P.types.size)) = true) (hv : s.vars = [])
    (hs : s.fn H ds = { results := [.lit (.bool true)], args := ds }) (hr : f.resultTypes = #[tb]) (htb : P.underlying tb = some .bool)
    (hW : DataW.Whole enc P f.params.toList s.vars false W args.toList ds gs before) (hb : Below W.heap.size W W') : s.post enc P f false true false false W args (.bool true) W' := by
  have hW0 := hW
  obtain ⟨p, q, hA, hV, rfl, hfz, hnd⟩ := hW
  rw [hv] at hV
  obtain ⟨rfl, rfl⟩ := trodVars_none hV
  refine ⟨ds, [], p ++ [], [], p, [], hW0, ?_, ?_, ?_, hb.frame _, fun h => by cases h⟩
  · simp only [List.append_nil]
    rw [hs, hr]
    exact trodAll_mk1 (shut_bool htb _)
  · simp only [List.append_nil]
    rw [hs]
    exact trodAll_below hl hb _ _ _ _ ht hA (fun x hx => by simpa using hW0.lt x (by simpa using hx))
  · simp only [List.append_nil]
    rw [hs, hv]
    rfl

/- nothing is asked of the world -/
def noG : GInv := ⟨fun _ _ => True, fun _ _ _ _ _ _ => trivial⟩
/- a law's signature -/
def lawSig (X : Type) (args : X → List AV) (pre : X → Prop) (n : Nat) : Sig :=
  { X := X, args := args, pre := pre, Y := Unit, post := fun _ _ => True, res := fun _ _ => .bool true, outs := fun _ _ => List.replicate n .top, keep := false }

theorem law_calls {H : Type} {enc : TypeId × Value → H} {P : Program} {fi : FuncId} {f : Func} {s : ChangeSpec} {W : World} {args : Array Value} {ds gs : List (DataW H)} {before : List MemPlace} {tb : TypeId}
    {X : Type} {azs : X → List AV} {pre : X → Prop} {n : Nat} {G : GInv} (hc : Contract G P fi (lawSig X azs pre n)) (hG : G.p (Old W) W)
    (hl : laidOutB P = true) (ht : f.params.toList.all (fun t => P.readableRec t && decide (t < P.types.size)) = true) (hv : s.vars = [])
    (hs : s.fn H ds = { results := [.lit (.bool true)], args := ds }) (hr : f.resultTypes = #[tb]) (htb : P.underlying tb = some .bool)
    (hW : DataW.Whole enc P f.params.toList s.vars false W args.toList ds gs before)
    (ho : ∃ x, pre x ∧ rel0L (Old W) W (azs x) args.toList (fun _ => False)) :
    Calls P fi args W fun e W' => ∃ v, e = .returned v ∧ s.post enc P f false true false false W args v W' := by
  obtain ⟨x, hx, hrel⟩ := ho
  refine (hc.2 x hx (Old W) W args.toList _ hG hrel (fun b h => h.elim)).mono fun e W' h => ?_
  obtain ⟨y, v, Z', A', _, rfl, hr2, hafter⟩ := h
  simp only [rel0L] at hr2
  obtain ⟨v', us, A1, A2, e1, _, h1, _⟩ := hr2
  simp only [List.cons.injEq] at e1
  obtain ⟨rfl, _⟩ := e1
  have : v = .bool true := by
    have h1 : rel0 Z' W' (.bool true) v A1 := h1
    simp only [rel0] at h1; exact h1.1
  subst this
  exact ⟨_, rfl, law_post hl ht hv hs hr htb hW (after_below hafter)⟩
end Go.Eng
end
section
/- Arguments of a row opened into the engine's words. -/
set_option linter.unusedVariables false
set_option linter.unusedSimpArgs false
namespace Go.Eng
open Go.ChangeShapes Go.WideShapes Go.ChangeAt Go.RowKit

theorem open_one {H : Type} {enc : TypeId × Value → H} {P : Program} {t : TypeId} {α : Type} {f : α → AV} {good : α → Prop} (hO : Opens P t (fun x => [f x]) good) {W : World} {v : Value} (hc : isCell v)
    {d : DataW H} {ps : List MemPlace} (h : DataW.Trod enc P W 0 (fun _ => true) true t v d ps) : ∃ x, good x ∧ rel0 (Old W) W (f x) v (fun _ => False) := by
  obtain ⟨fuel, hf⟩ := h
  rw [cells_of_cell hc] at hf
  obtain ⟨x, hg, hr⟩ := hO enc W _ _ fuel _ _ hf
  exact ⟨x, hg, rel0L_one.1 hr⟩
theorem open_agg {H : Type} {enc : TypeId × Value → H} {P : Program} {t : TypeId} {α : Type} {f : α → List AV} {good : α → Prop} (hO : Opens P t f good) {W : World} {cs : Array Value}
    {d : DataW H} {ps : List MemPlace} (h : DataW.Trod enc P W 0 (fun _ => true) true t (.agg cs) d ps) : ∃ x, good x ∧ rel0 (Old W) W (.agg (f x)) (.agg cs) (fun _ => False) := by
  obtain ⟨fuel, hf⟩ := h
  obtain ⟨x, hg, hr⟩ := hO enc W _ _ fuel _ _ hf
  refine ⟨x, hg, ?_⟩
  simp only [rel0]
  exact ⟨_, rfl, hr⟩
theorem open_int1 {H : Type} {enc : TypeId × Value → H} {P : Program} {t : TypeId} {k : IntKind} (ht : P.underlying t = some (.int k)) {W : World} {r : Reach} {base : Nat} {v : Value} (hv : Value.okWide P W r base t v)
    {d : DataW H} {ps : List MemPlace} (h : DataW.Trod enc P W 0 (fun _ => true) true t v d ps) : ∃ n, inR k n ∧ rel0 (Old W) W (.int k n) v (fun _ => False) :=
  open_one (opens_int ht) (by obtain ⟨n, rfl⟩ := okWide_int ht hv; trivial) h
theorem open_str1 {H : Type} {enc : TypeId × Value → H} {P : Program} {t : TypeId} (ht : P.underlying t = some .string) {W : World} {r : Reach} {base : Nat} {v : Value} (hv : Value.okWide P W r base t v)
    {d : DataW H} {ps : List MemPlace} (h : DataW.Trod enc P W 0 (fun _ => true) true t v d ps) : ∃ s : List UInt8, s.length < 2 ^ 63 ∧ rel0 (Old W) W (.str s) v (fun _ => False) :=
  open_one (opens_str ht) (by obtain ⟨n, rfl⟩ := okWide_string ht hv; trivial) h
theorem open_sl1 {H : Type} {enc : TypeId × Value → H} {P : Program} {t e : TypeId} {α : Type} {f : α → AV} {good : α → Prop} (ht : P.underlying t = some (.slice e)) (hO : Opens P t (fun x => [f x]) good)
    {W : World} {r : Reach} {base : Nat} {v : Value} (hv : Value.okWide P W r base t v)
    {d : DataW H} {ps : List MemPlace} (h : DataW.Trod enc P W 0 (fun _ => true) true t v d ps) : ∃ x, good x ∧ rel0 (Old W) W (f x) v (fun _ => False) :=
  open_one hO (by obtain ⟨a, l, c, rfl⟩ := okWide_slice ht hv; trivial) h
theorem open_st1 {H : Type} {enc : TypeId × Value → H} {P : Program} {t : TypeId} {fs : Array Field} {α : Type} {f : α → List AV} {good : α → Prop} (ht : P.underlying t = some (.struct fs)) (hO : Opens P t f good)
    {W : World} {r : Reach} {base : Nat} {v : Value} (hv : Value.okWide P W r base t v)
    {d : DataW H} {ps : List MemPlace} (h : DataW.Trod enc P W 0 (fun _ => true) true t v d ps) : ∃ x, good x ∧ rel0 (Old W) W (.agg (f x)) v (fun _ => False) := by
  obtain ⟨cs, rfl, _⟩ := okWide_struct ht hv
  exact open_agg hO h
theorem rel0L_nil {Z : FP} {w : World} : rel0L Z w [] [] (fun _ => False) := ⟨rfl, emp_false⟩
/- structs of two and of four cells -/
theorem opens_st2 {P : Program} {t : TypeId} {f0 f1 : Field} {α β : Type} {a : α → AV} {b : β → AV} {ga : α → Prop} {gb : β → Prop} (ht : P.underlying t = some (.struct #[f0, f1])) (hn : P.cellsOf t = 2)
    (h0 : f0.offset = 0 ∧ P.cellsOf f0.type = 1) (h1 : f1.offset = 1 ∧ P.cellsOf f1.type = 1)
    (o0 : Opens P f0.type (fun x => [a x]) ga) (o1 : Opens P f1.type (fun x => [b x]) gb) : Opens P t (fun x : α × β => [a x.1, b x.2]) (fun x => ga x.1 ∧ gb x.2) := by
  intro H enc w spare held fuel cs y h
  obtain ⟨hl, n, hf⟩ := trod_struct_cells ht hn (fun i f hi => by
    match i, hi with
    | 0, hi => simp at hi; subst hi; exact h0
    | 1, hi => simp at hi; subst hi; exact h1
    | n + 2, hi => simp at hi) h
  match cs, hl with
  | [c0, c1], _ =>
    obtain ⟨z0, e0⟩ := hf 0 _ c0 rfl rfl
    obtain ⟨z1, e1⟩ := hf 1 _ c1 rfl rfl
    obtain ⟨x0, g0, r0⟩ := o0 enc w _ _ _ _ _ e0
    obtain ⟨x1, g1, r1⟩ := o1 enc w _ _ _ _ _ e1
    exact ⟨(x0, x1), ⟨g0, g1⟩, rel0L_cons (rel0L_one.1 r0) r1⟩
theorem opens_st4 {P : Program} {t : TypeId} {f0 f1 f2 f3 : Field} {α β γ δ : Type} {a : α → AV} {b : β → AV} {c : γ → AV} {d : δ → AV} {ga : α → Prop} {gb : β → Prop} {gc : γ → Prop} {gd : δ → Prop}
    (ht : P.underlying t = some (.struct #[f0, f1, f2, f3])) (hn : P.cellsOf t = 4)
    (h0 : f0.offset = 0 ∧ P.cellsOf f0.type = 1) (h1 : f1.offset = 1 ∧ P.cellsOf f1.type = 1) (h2 : f2.offset = 2 ∧ P.cellsOf f2.type = 1) (h3 : f3.offset = 3 ∧ P.cellsOf f3.type = 1)
    (o0 : Opens P f0.type (fun x => [a x]) ga) (o1 : Opens P f1.type (fun x => [b x]) gb) (o2 : Opens P f2.type (fun x => [c x]) gc) (o3 : Opens P f3.type (fun x => [d x]) gd) :
    Opens P t (fun x : α × β × γ × δ => [a x.1, b x.2.1, c x.2.2.1, d x.2.2.2]) (fun x => ga x.1 ∧ gb x.2.1 ∧ gc x.2.2.1 ∧ gd x.2.2.2) := by
  intro H enc w spare held fuel cs y h
  obtain ⟨hl, n, hf⟩ := trod_struct_cells ht hn (fun i f hi => by
    match i, hi with
    | 0, hi => simp at hi; subst hi; exact h0
    | 1, hi => simp at hi; subst hi; exact h1
    | 2, hi => simp at hi; subst hi; exact h2
    | 3, hi => simp at hi; subst hi; exact h3
    | n + 4, hi => simp at hi) h
  match cs, hl with
  | [c0, c1, c2, c3], _ =>
    obtain ⟨z0, e0⟩ := hf 0 _ c0 rfl rfl
    obtain ⟨z1, e1⟩ := hf 1 _ c1 rfl rfl
    obtain ⟨z2, e2⟩ := hf 2 _ c2 rfl rfl
    obtain ⟨z3, e3⟩ := hf 3 _ c3 rfl rfl
    obtain ⟨x0, g0, r0⟩ := o0 enc w _ _ _ _ _ e0
    obtain ⟨x1, g1, r1⟩ := o1 enc w _ _ _ _ _ e1
    obtain ⟨x2, g2, r2⟩ := o2 enc w _ _ _ _ _ e2
    obtain ⟨x3, g3, r3⟩ := o3 enc w _ _ _ _ _ e3
    exact ⟨(x0, x1, x2, x3), ⟨g0, g1, g2, g3⟩, rel0L_cons (rel0L_one.1 r0) (rel0L_cons (rel0L_one.1 r1) (rel0L_cons (rel0L_one.1 r2) r3))⟩
theorem opens_map {P : Program} {t : TypeId} {α β : Type} {f : α → List AV} {g : β → List AV} {p : α → Prop} {q : β → Prop} (m : α → β) (ho : Opens P t f p) (hf : ∀ x, f x = g (m x)) (hg : ∀ x, p x → q (m x)) : Opens P t g q := by
  intro H enc w spare held fuel cs y h
  obtain ⟨x, hx, hr⟩ := ho enc w _ _ fuel _ _ h
  exact ⟨m x, hg x hx, by rw [← hf]; exact hr⟩
end Go.Eng
end
section
/- The laws' arguments opened. -/
set_option linter.unusedVariables false
set_option maxRecDepth 100000
namespace Go.My
open Go.Eng Go.Proofs
variable {G : GInv}

theorem opens_ints : Opens Tryz.prog 39 (fun l : List Int => [ints l]) (fun l => l.length < 2 ^ 63 ∧ ∀ x ∈ l, inR .i64 x) :=
  opens_slice (e := 3) rfl (by kernel_rfl) (by decide) (opens_int rfl)
theorem opens_node : Opens Tryz.prog 62 (ndA false) smallNd :=
  opens_map (fun x : Int × List UInt8 × List Int × Bool => (⟨x.1, x.2.1, x.2.2.1, x.2.2.2⟩ : Nd)) (opens_st4 (t := 62) (P := Tryz.prog) (a := fun n => .int .i64 n) (b := .str) (c := ints) (d := .bool)
    (gd := fun _ => True) rfl (by kernel_rfl) ⟨by kernel_rfl, by kernel_rfl⟩ ⟨by kernel_rfl, by kernel_rfl⟩ ⟨by kernel_rfl, by kernel_rfl⟩ ⟨by kernel_rfl, by kernel_rfl⟩ (opens_int (k := .i64) rfl) (opens_str rfl) opens_ints (opens_bool rfl)) (fun _ => rfl) (fun x h => ⟨h.2.1, h.2.2.1.1⟩)
theorem opens_nodes : Opens Tryz.prog 22 (fun l : List Nd => [nds l]) smallNds :=
  opens_slice (e := 62) rfl (by kernel_rfl) (by decide) opens_node
end Go.My
end
