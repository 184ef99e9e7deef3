/- Contracts of functions, and calls. -/
import Derived.Test.YtinkjpfkemkhaaaDoorEngJ
set_option linter.unusedVariables false
set_option linter.unusedSimpArgs false
namespace Go.Eng

/- new names for what is owned -/
mutual
def stamp (n : Nat) : AV → AV × Nat
  | .sl true _ sz α f xs => (.sl true n sz α f xs, n + 1)
  | .box _ c => (.box n (stampL (n + 1) c).1, (stampL (n + 1) c).2)
  | .agg fs => (.agg (stampL n fs).1, (stampL n fs).2)
  | .tup fs => (.tup (stampL n fs).1, (stampL n fs).2)
  | .clo fn fs => (.clo fn (stampL n fs).1, (stampL n fs).2)
  | a => (a, n)
def stampL (n : Nat) : List AV → List AV × Nat
  | [] => ([], n)
  | a :: as => ((stamp n a).1 :: (stampL (stamp n a).2 as).1, (stampL (stamp n a).2 as).2)
end

mutual
theorem stamp_ok {Z : FP} {w : World} : ∀ (a : AV) (n : Nat) (v : Value) (S : FP) (η : Nat → Value), rel0 Z w a v S →
    n ≤ (stamp n a).2 ∧ idsB (stamp n a).2 (stamp n a).1 ∧ ∃ η' : Nat → Value, (∀ i, i < n → η' i = η i) ∧ (∀ η'', (∀ i, i < (stamp n a).2 → η'' i = η' i) → relS Z η'' w (stamp n a).1 v S)
  | .sl true j sz α f xs, n, v, S, η, h => by
    refine ⟨Nat.le_succ n, fun _ => Nat.lt_succ_self n, fun i => if i = n then v else η i, fun i hi => if_neg (by omega), fun η'' hη => ?_⟩
    simp only [stamp, relS]
    refine ⟨fun _ => ?_, by simpa only [rel0] using h⟩
    rw [hη n (Nat.lt_succ_self n)]; simp
  | .sl false j sz α f xs, n, v, S, η, h => by
    refine ⟨Nat.le_refl n, (fun o => by cases o), η, fun _ _ => rfl, fun η'' hη => ?_⟩
    simp only [stamp, relS]
    exact ⟨(fun o => by cases o), h⟩
  | .box j c, n, v, S, η, h => by
    simp only [rel0] at h
    obtain ⟨b, arr, ty, S1, e, hb, hr, hj⟩ := h
    obtain ⟨h1, h2, η', h3, h4⟩ := stampL_ok c (n + 1) arr.toList S1 (fun i => if i = n then v else η i) hr
    simp only [stamp, idsB]
    refine ⟨by omega, ⟨by omega, h2⟩, η', fun i hi => by rw [h3 i (by omega), if_neg (by omega)], fun η'' hη => ?_⟩
    simp only [relS]
    refine ⟨?_, b, arr, ty, S1, e, hb, h4 η'' hη, hj⟩
    rw [hη n (by omega), h3 n (by omega)]; simp
  | .agg fs, n, v, S, η, h => by
    simp only [rel0] at h
    obtain ⟨cs, e, hr⟩ := h
    obtain ⟨h1, h2, η', h3, h4⟩ := stampL_ok fs n cs S η hr
    simp only [stamp, idsB]
    refine ⟨h1, h2, η', h3, fun η'' hη => ?_⟩
    simp only [relS]; exact ⟨cs, e, h4 η'' hη⟩
  | .tup fs, n, v, S, η, h => by
    simp only [rel0] at h
    obtain ⟨cs, e, hr⟩ := h
    obtain ⟨h1, h2, η', h3, h4⟩ := stampL_ok fs n cs S η hr
    simp only [stamp, idsB]
    refine ⟨h1, h2, η', h3, fun η'' hη => ?_⟩
    simp only [relS]; exact ⟨cs, e, h4 η'' hη⟩
  | .clo fn fs, n, v, S, η, h => by
    simp only [rel0] at h
    obtain ⟨cs, e, hr⟩ := h
    obtain ⟨h1, h2, η', h3, h4⟩ := stampL_ok fs n cs S η hr
    simp only [stamp, idsB]
    refine ⟨h1, h2, η', h3, fun η'' hη => ?_⟩
    simp only [relS]; exact ⟨cs, e, h4 η'' hη⟩
  | .int _ _, n, v, S, η, h => ⟨Nat.le_refl n, trivial, η, fun _ _ => rfl, fun _ _ => h⟩
  | .bool _, n, v, S, η, h => ⟨Nat.le_refl n, trivial, η, fun _ _ => rfl, fun _ _ => h⟩
  | .str _, n, v, S, η, h => ⟨Nat.le_refl n, trivial, η, fun _ _ => rfl, fun _ _ => h⟩
  | .val _, n, v, S, η, h => ⟨Nat.le_refl n, trivial, η, fun _ _ => rfl, fun _ _ => h⟩
  | .any, n, v, S, η, h => ⟨Nat.le_refl n, trivial, η, fun _ _ => rfl, fun _ _ => h⟩
  | .top, n, v, S, η, h => ⟨Nat.le_refl n, trivial, η, fun _ _ => rfl, fun _ _ => h⟩
  | .nil, n, v, S, η, h => ⟨Nat.le_refl n, trivial, η, fun _ _ => rfl, fun _ _ => h⟩
  | .pf _, n, v, S, η, h => ⟨Nat.le_refl n, trivial, η, fun _ _ => rfl, fun _ _ => h⟩
  | .hole _, n, v, S, η, h => h.elim
  | .al _, n, v, S, η, h => h.elim
  | .po _ _ _ _, n, v, S, η, h => h.elim
theorem stampL_ok {Z : FP} {w : World} : ∀ (as : List AV) (n : Nat) (cs : List Value) (S : FP) (η : Nat → Value), rel0L Z w as cs S →
    n ≤ (stampL n as).2 ∧ idsBL (stampL n as).2 (stampL n as).1 ∧ ∃ η' : Nat → Value, (∀ i, i < n → η' i = η i) ∧ (∀ η'', (∀ i, i < (stampL n as).2 → η'' i = η' i) → relSL Z η'' w (stampL n as).1 cs S)
  | [], n, cs, S, η, h => ⟨Nat.le_refl n, trivial, η, fun _ _ => rfl, fun _ _ => h⟩
  | a :: as, n, cs, S, η, h => by
    simp only [rel0L] at h
    obtain ⟨v, cs', A, B, e, hj, h1, h2⟩ := h
    obtain ⟨a1, a2, η1, a3, a4⟩ := stamp_ok a n v A η h1
    obtain ⟨b1, b2, η2, b3, b4⟩ := stampL_ok as (stamp n a).2 cs' B η1 h2
    simp only [stampL, idsBL]
    refine ⟨by omega, ⟨idsB_le b1 _ a2, b2⟩, η2, fun i hi => by rw [b3 i (by omega), a3 i hi], fun η'' hη => ?_⟩
    simp only [relSL]
    exact ⟨v, cs', A, B, e, hj, a4 η'' (fun i hi => by rw [hη i (by omega), b3 i hi]), b4 η'' hη⟩
end

/- nothing in it is shared with what is only read -/
mutual
def cleanAV : AV → Prop
  | .sl true _ _ _ f _ => ∀ x, cleanL (f x)
  | .sl false _ _ _ _ _ => False
  | .pf _ => False
  | .box _ c => cleanL c
  | .agg fs => cleanL fs
  | .tup fs => cleanL fs
  | .clo _ fs => cleanL fs
  | _ => True
def cleanL : List AV → Prop
  | [] => True
  | a :: as => cleanAV a ∧ cleanL as
end
mutual
theorem clean_rel {Z Z' : FP} {w : World} : ∀ (a : AV) (v : Value) (S : FP), cleanAV a → rel0 Z w a v S → rel0 Z' w a v S
  | .sl true j sz α f xs, v, S, hc, h => by
    simp only [rel0] at h ⊢
    simp only [cleanAV] at hc
    obtain ⟨a, n, c, e, hn, hcc, h⟩ := h
    refine ⟨a, n, c, e, hn, hcc, ?_⟩
    rcases h with ⟨ho, h⟩ | ⟨ho, _⟩
    · refine .inl ⟨ho, ?_⟩
      rcases h with h | ⟨b, off, arr, ty, S1, ha, hb, hsz, hr, hj⟩
      · exact .inl h
      · exact .inr ⟨b, off, arr, ty, S1, ha, hb, hsz, Rows_mono xs _ S1 (fun x cs A hA hx => cleanL_rel (f x) cs A (hc x) hx) hr, hj⟩
    · cases ho
  | .sl false j sz α f xs, v, S, hc, h => hc.elim
  | .pf _, v, S, hc, h => hc.elim
  | .box j c, v, S, hc, h => by
    simp only [rel0] at h ⊢
    simp only [cleanAV] at hc
    obtain ⟨b, arr, ty, S1, e, hb, hr, hj⟩ := h
    exact ⟨b, arr, ty, S1, e, hb, cleanL_rel c _ S1 hc hr, hj⟩
  | .agg fs, v, S, hc, h => by
    simp only [rel0] at h ⊢; simp only [cleanAV] at hc
    obtain ⟨cs, e, hr⟩ := h; exact ⟨cs, e, cleanL_rel fs cs S hc hr⟩
  | .tup fs, v, S, hc, h => by
    simp only [rel0] at h ⊢; simp only [cleanAV] at hc
    obtain ⟨cs, e, hr⟩ := h; exact ⟨cs, e, cleanL_rel fs cs S hc hr⟩
  | .clo fn fs, v, S, hc, h => by
    simp only [rel0] at h ⊢; simp only [cleanAV] at hc
    obtain ⟨cs, e, hr⟩ := h; exact ⟨cs, e, cleanL_rel fs cs S hc hr⟩
  | .int _ _, v, S, hc, h => h
  | .bool _, v, S, hc, h => h
  | .str _, v, S, hc, h => h
  | .val _, v, S, hc, h => h
  | .any, v, S, hc, h => h
  | .top, v, S, hc, h => h
  | .nil, v, S, hc, h => h
  | .hole _, v, S, hc, h => h
  | .al _, v, S, hc, h => h
  | .po _ _ _ _, v, S, hc, h => h
theorem cleanL_rel {Z Z' : FP} {w : World} : ∀ (as : List AV) (cs : List Value) (S : FP), cleanL as → rel0L Z w as cs S → rel0L Z' w as cs S
  | [], cs, S, hc, h => h
  | a :: as, cs, S, hc, h => by
    simp only [rel0L] at h ⊢; simp only [cleanL] at hc
    obtain ⟨v, cs', A, B, e, hj, h1, h2⟩ := h
    exact ⟨v, cs', A, B, e, hj, clean_rel a v A hc.1 h1, cleanL_rel as cs' B hc.2 h2⟩
end

structure Sig : Type 1 where
  X : Type
  args : X → List AV
  pre : X → Prop
  Y : Type
  post : X → Y → Prop
  res : X → Y → AV
  outs : X → Y → List AV
  keep : Bool
  fixed : List Nat := []

structure After (Z : FP) (w : World) (A : FP) (Z' : FP) (w' : World) (A' : FP) : Prop where
  os : w'.os = w.os
  tape : w'.tape = w.tape
  output : w'.output = w.output
  size : w.heap.size ≤ w'.heap.size
  old : ∀ b, b < w.heap.size → ¬ A b → w'.heap[b]? = w.heap[b]? ∧ (Z' b ↔ Z b)
  own : ∀ b, A' b → Z' b ∧ b < w'.heap.size ∧ (b < w.heap.size → A b)

def keepOk (keep : Bool) (p : Prop) : Prop := match keep with
  | true => True
  | false => p
def cleanS (S : Sig) : Prop := ∀ x y, S.pre x → S.post x y → keepOk S.keep (cleanL (S.res x y :: S.outs x y))
def Contract (P : Program) (f : FuncId) (S : Sig) : Prop :=
  ((∃ fn, P.funcs[f]? = some fn ∧ (fn.name == "runtime.NumGoroutine") = false ∧ fn.body.isNone = false) ∧ cleanS S) ∧
  ∀ x, S.pre x → ∀ Z w vals A, rel0L Z w (S.args x) vals A → (∀ b, A b → Z b ∧ b < w.heap.size) →
    Calls P f vals.toArray w fun e w' => ∃ y v Z' A' , S.post x y ∧ e = .returned v ∧ rel0L Z' w' (S.res x y :: S.outs x y) (v :: vals) A' ∧ After Z w A Z' w' A'

def isMoved : AV → Bool
  | .sl true _ _ _ _ _ => true
  | .box _ _ => true
  | _ => false
def movedE (e : AV) : AV := match isMoved e with | true => e | false => .top
def lentE (e : AV) : AV := match isMoved e with | true => .top | false => e

theorem merge_rel {Z : FP} {w : World} : ∀ (es : List AV) (cs : List Value) (A B S : FP), rel0L Z w (es.map movedE) cs A → rel0L Z w (es.map lentE) cs B → join S A B → rel0L Z w es cs S
  | [], cs, A, B, S, h1, h2, hs => by
    simp only [List.map, rel0L] at h1 h2 ⊢
    exact ⟨h1.1, fun b hb => ((hs.1 b).1 hb).elim (h1.2 b) (h2.2 b)⟩
  | e :: es, cs, A, B, S, h1, h2, hs => by
    simp only [List.map, rel0L] at h1 h2 ⊢
    obtain ⟨v, cs', A1, B1, e1, hj, h3, h4⟩ := h1
    obtain ⟨v', cs'', A2, B2, e2, hj2, h5, h6⟩ := h2
    rw [e1] at e2
    simp only [List.cons.injEq] at e2
    obtain ⟨rfl, rfl⟩ := e2
    have hd : ∀ b, A1 b ∨ B1 b → ¬ (A2 b ∨ B2 b) := fun b x y => hs.2 b ((hj.1 b).2 x) ((hj2.1 b).2 y)
    refine ⟨v, cs', fun b => A1 b ∨ A2 b, fun b => B1 b ∨ B2 b, e1, ⟨fun b => ?_, fun b x y => ?_⟩, ?_, merge_rel es cs' B1 B2 _ h4 h6 ⟨fun _ => Iff.rfl, fun b x y => hd b (.inr x) (.inr y)⟩⟩
    · rw [hs.1 b, hj.1 b, hj2.1 b]
      exact ⟨fun h => h.elim (fun h => h.elim (fun h => .inl (.inl h)) (fun h => .inr (.inl h))) (fun h => h.elim (fun h => .inl (.inr h)) (fun h => .inr (.inr h))),
        fun h => h.elim (fun h => h.elim (fun h => .inl (.inl h)) (fun h => .inr (.inl h))) (fun h => h.elim (fun h => .inl (.inr h)) (fun h => .inr (.inr h)))⟩
    · rcases x with x | x <;> rcases y with y | y
      · exact hj.2 b x y
      · exact hd b (.inl x) (.inr y)
      · exact hd b (.inr y) (.inl x)
      · exact hj2.2 b x y
    · unfold movedE lentE at *
      cases hm : isMoved e
      · rw [hm] at h3 h5
        simp only [rel0] at h3
        have : (fun b => A1 b ∨ A2 b) = A2 := fp_ext (fun b => ⟨fun h => h.elim (fun h => (h3 b h).elim) id, .inr⟩)
        rw [this]; exact h5
      · rw [hm] at h3 h5
        simp only [rel0] at h5
        have : (fun b => A1 b ∨ A2 b) = A1 := fp_ext (fun b => ⟨fun h => h.elim id (fun h => (h5 b h).elim), .inl⟩)
        rw [this]; exact h3

/- the boxes that were handed over come back -/
def plugOuts (regs : List AV) (nx : Nat) : List AV → List AV → Option (List AV × Nat)
  | [], [] => some (regs, nx)
  | a :: as, o :: os => match o with
    | .top => plugOuts regs nx as os
    | .box _ c => match a with
      | .al id => match plugL id (.box id (stampL nx c).1) regs with
        | some regs' => plugOuts regs' (stampL nx c).2 as os
        | none => none
      | _ => none
    | .sl true _ sz α f xs => match a with
      | .al id => match plugL id (.sl true id sz α f xs) regs with
        | some regs' => plugOuts regs' nx as os
        | none => none
      | _ => none
    | _ => none
  | _, _ => none

theorem plugOuts_ok {Z : FP} {w : World} : ∀ (as os : List AV) (regs : List AV) (nx : Nat) (regs' : List AV) (nx' : Nat), plugOuts regs nx as os = some (regs', nx') →
    ∀ (η : Nat → Value) (vs us : List Value) (B A S : FP), relSL Z η w regs vs B → idsBL nx regs → relSL Z η w as us (fun _ => False) → idsBL nx as →
    rel0L Z w os us A → join S A B →
    nx ≤ nx' ∧ idsBL nx' regs' ∧ ∃ η' : Nat → Value, (∀ i, i < nx → η' i = η i) ∧ relSL Z η' w regs' vs S
  | [], [], regs, nx, regs', nx', h, η, vs, us, B, A, S, hR, hI, ha, hai, ho, hj => by
    simp only [plugOuts, Option.some.injEq, Prod.mk.injEq] at h
    obtain ⟨rfl, rfl⟩ := h
    simp only [rel0L] at ho
    refine ⟨Nat.le_refl _, hI, η, fun _ _ => rfl, ?_⟩
    rw [show S = B from fp_ext (join_emp_l hj ho.2)]; exact hR
  | [], _ :: _, regs, nx, regs', nx', h, η, vs, us, B, A, S, hR, hI, ha, hai, ho, hj => by simp [plugOuts] at h
  | _ :: _, [], regs, nx, regs', nx', h, η, vs, us, B, A, S, hR, hI, ha, hai, ho, hj => by simp [plugOuts] at h
  | a :: as, o :: os, regs, nx, regs', nx', h, η, vs, us, B, A, S, hR, hI, ha, hai, ho, hj => by
    simp only [rel0L] at ho
    obtain ⟨v, us', A1, A2, eu, hj2, ho1, ho2⟩ := ho
    subst eu
    simp only [idsBL] at hai
    simp only [relSL] at ha
    obtain ⟨v0, us0, B1, B2, eu0, hj0, ha1, ha2⟩ := ha
    simp only [List.cons.injEq] at eu0
    obtain ⟨rfl, rfl⟩ := eu0
    rw [emp_eq (emp_of_join hj0 emp_false).1] at ha1
    rw [emp_eq (emp_of_join hj0 emp_false).2] at ha2
    unfold plugOuts at h
    split at h
    · simp only [rel0] at ho1
      exact plugOuts_ok as os regs nx regs' nx' h η vs us' B A S hR hI ha2 hai.2 (by rw [show A = A2 from fp_ext (join_emp_l hj2 ho1)]; exact ho2) hj
    · rename_i j c
      split at h
      · rename_i id
        split at h
        · rename_i regs1 hpl
          simp only [rel0] at ho1
          obtain ⟨b, arr, ty, S1, e, hb, hr, hj3⟩ := ho1
          obtain ⟨h1, h2, η1, h3, h4⟩ := stampL_ok c nx arr.toList S1 η hr
          have hid : id < nx := hai.1
          have hv : v = η id := by simp only [relS] at ha1; exact ha1.1
          have hbox : relS Z η1 w (.box id (stampL nx c).1) (η1 id) A1 := by
            simp only [relS]
            refine ⟨trivial, b, arr, ty, S1, ?_, hb, h4 η1 (fun _ _ => rfl), hj3⟩
            rw [h3 id hid, ← hv]; exact e
          obtain ⟨E, h5, h6⟩ := join_shift1 hj hj2
          have hR1 := relSL_mono (n := nx) (Z' := Z) (w' := w) (fun b hb _ => ⟨hb, rfl⟩) h3 _ _ _ hI (fun _ _ => rfl) hR
          have hpg := plugL_ok hbox regs vs B (fun x => A1 x ∨ B x) regs1 hR1 ⟨fun _ => Iff.rfl, fun x p q => hj.2 x ((hj2.1 x).2 (.inl p)) q⟩ hpl
          have hids1 : idsBL (stampL nx c).2 regs1 := plugL_ids (by simp only [idsB]; exact ⟨by omega, h2⟩) _ _ (idsBL_le h1 _ hI) hpl
          have hjj : join S A2 (fun x => A1 x ∨ B x) := by
            refine ⟨fun x => ?_, fun x p q => q.elim (fun q => hj2.2 x q p) (fun q => hj.2 x ((hj2.1 x).2 (.inr p)) q)⟩
            rw [hj.1 x, hj2.1 x]
            exact ⟨fun h => h.elim (fun h => h.elim (fun h => .inr (.inl h)) .inl) (fun h => .inr (.inr h)), fun h => h.elim (fun h => .inl (.inr h)) (fun h => h.elim (fun h => .inl (.inl h)) .inr)⟩
          obtain ⟨g1, g2, η2, g3, g4⟩ := plugOuts_ok as os regs1 _ regs' nx' h η1 vs us' _ A2 S hpg hids1 (relSL_mono (n := nx) (Z' := Z) (w' := w) (fun b hb _ => ⟨hb, rfl⟩) h3 _ _ _ hai.2 (fun _ _ => rfl) ha2) (idsBL_le h1 _ hai.2) ho2 hjj
          exact ⟨by omega, g2, η2, fun i hi => by rw [g3 i (by omega), h3 i hi], g4⟩
        · cases h
      · cases h
    · rename_i j sz α f xs
      split at h
      · rename_i id
        split at h
        · rename_i regs1 hpl
          have hid : id < nx := hai.1
          have hv : v = η id := by simp only [relS] at ha1; exact ha1.1
          have hown : relS Z η w (.sl true id sz α f xs) (η id) A1 := by
            simp only [relS]
            refine ⟨fun _ => trivial, ?_⟩
            rw [← hv]; exact ho1
          have hpg := plugL_ok hown regs vs B (fun x => A1 x ∨ B x) regs1 hR ⟨fun _ => Iff.rfl, fun x p q => hj.2 x ((hj2.1 x).2 (.inl p)) q⟩ hpl
          have hids1 : idsBL nx regs1 := plugL_ids (by simp only [idsB]; exact fun _ => hid) _ _ hI hpl
          have hjj : join S A2 (fun x => A1 x ∨ B x) := by
            refine ⟨fun x => ?_, fun x p q => q.elim (fun q => hj2.2 x q p) (fun q => hj.2 x ((hj2.1 x).2 (.inr p)) q)⟩
            rw [hj.1 x, hj2.1 x]
            exact ⟨fun h => h.elim (fun h => h.elim (fun h => .inr (.inl h)) .inl) (fun h => .inr (.inr h)), fun h => h.elim (fun h => .inl (.inr h)) (fun h => h.elim (fun h => .inl (.inl h)) .inr)⟩
          exact plugOuts_ok as os regs1 nx regs' nx' h η vs us' _ A2 S hpg hids1 ha2 hai.2 ho2 hjj
        · cases h
      · cases h
    · cases h

end Go.Eng
