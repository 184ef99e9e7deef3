/- Owners taken out of the slots; what is expected where something is handed on. -/
import Derived.Test.YtinkjpfkemkhaaaDoorEngG
set_option linter.unusedVariables false
set_option linter.unusedSimpArgs false
namespace Go.Eng

mutual
def takeO (id : Nat) : AV → Option (AV × AV)
  | .sl true i sz α f xs => match Nat.beq i id with | true => some (.sl true i sz α f xs, .hole id) | false => none
  | .box i c => match Nat.beq i id with
    | true => some (.box i c, .hole id)
    | false => match takeL id c with | some (o, c') => some (o, .box i c') | none => none
  | .agg fs => match takeL id fs with | some (o, c') => some (o, .agg c') | none => none
  | .tup fs => match takeL id fs with | some (o, c') => some (o, .tup c') | none => none
  | .clo fn fs => match takeL id fs with | some (o, c') => some (o, .clo fn c') | none => none
  | _ => none
def takeL (id : Nat) : List AV → Option (AV × List AV)
  | [] => none
  | a :: as => match takeO id a with
    | some (o, a') => some (o, a' :: as)
    | none => match takeL id as with | some (o, as') => some (o, a :: as') | none => none
end

/- the hole filled again -/
mutual
def plugO (id : Nat) (o : AV) : AV → Option AV
  | .hole i => match Nat.beq i id with | true => some o | false => none
  | .box i c => match plugL id o c with | some c' => some (.box i c') | none => none
  | .agg fs => match plugL id o fs with | some c' => some (.agg c') | none => none
  | .tup fs => match plugL id o fs with | some c' => some (.tup c') | none => none
  | .clo fn fs => match plugL id o fs with | some c' => some (.clo fn c') | none => none
  | _ => none
def plugL (id : Nat) (o : AV) : List AV → Option (List AV)
  | [] => none
  | a :: as => match plugO id o a with
    | some a' => some (a' :: as)
    | none => match plugL id o as with | some as' => some (a :: as') | none => none
end

theorem join_shift1 {S A B C D : FP} (h : join S A B) (h2 : join A C D) : ∃ E, join S C E ∧ join E D B := join_assoc' h h2
theorem join_shift2 {S A B C D : FP} (h : join S A B) (h2 : join B C D) : ∃ E, join S C E ∧ join E A D := by
  obtain ⟨E, h3, h4⟩ := join_assoc h (join_comm h2)
  obtain ⟨E', h5, h6⟩ := join_assoc h h2
  refine ⟨fun b => A b ∨ D b, ⟨fun b => ?_, fun b x y => ?_⟩, ⟨fun _ => Iff.rfl, fun b x y => h.2 b x ((h2.1 b).2 (.inr y))⟩⟩
  · rw [h.1 b, h2.1 b]; exact ⟨fun h => h.elim (fun h => .inr (.inl h)) (fun h => h.elim .inl (fun h => .inr (.inr h))), fun h => h.elim (fun h => .inr (.inl h)) (fun h => h.elim .inl (fun h => .inr (.inr h)))⟩
  · exact y.elim (fun y => h.2 b y ((h2.1 b).2 (.inl x))) (fun y => h2.2 b x y)

theorem owner_cell {Z : FP} {η : Nat → Value} {w : World} {id : Nat} {o : AV} {v : Value} {S : FP} (h : relS Z η w o v S) (ho : isOwner id o) : isCell v := by
  cases o <;> simp only [isOwner] at ho
  case box => simp only [relS] at h; obtain ⟨_, b, arr, ty, S1, e, _⟩ := h; rw [e]; trivial
  case sl own i sz α f xs => simp only [relS, rel0] at h; obtain ⟨_, a, n, c, e, _⟩ := h; rw [e]; trivial

mutual
theorem takeO_ok {Z : FP} {η : Nat → Value} {w : World} {id : Nat} : ∀ (a : AV) (v : Value) (S : FP) (o a' : AV), relS Z η w a v S → takeO id a = some (o, a') →
    ∃ A B, join S A B ∧ isOwner id o ∧ relS Z η w o (η id) A ∧ relS Z η w a' v B
  | .sl true i sz α f xs, v, S, o, a', h, hf => by
    simp only [takeO] at hf
    split at hf
    · rename_i hb; simp only [Option.some.injEq, Prod.mk.injEq] at hf; obtain ⟨rfl, rfl⟩ := hf
      have := Nat.eq_of_beq_eq_true hb; subst this
      have h' := h
      simp only [relS] at h'
      have hc := owner_cell h (id := i) rfl
      refine ⟨S, fun _ => False, join_emp_right S, rfl, ?_, ?_⟩
      · rw [← h'.1 trivial]; exact h
      · simp only [relS]; exact ⟨h'.1 trivial, hc, emp_false⟩
    · simp at hf
  | .box i c, v, S, o, a', h, hf => by
    simp only [takeO] at hf
    split at hf
    · rename_i hb; simp only [Option.some.injEq, Prod.mk.injEq] at hf; obtain ⟨rfl, rfl⟩ := hf
      have := Nat.eq_of_beq_eq_true hb; subst this
      have h' := h
      simp only [relS] at h'
      have hc := owner_cell h (id := i) rfl
      refine ⟨S, fun _ => False, join_emp_right S, rfl, ?_, ?_⟩
      · rw [← h'.1]; exact h
      · simp only [relS]; exact ⟨h'.1, hc, emp_false⟩
    · split at hf
      · rename_i o' c' ht
        simp only [Option.some.injEq, Prod.mk.injEq] at hf; obtain ⟨rfl, rfl⟩ := hf
        simp only [relS] at h
        obtain ⟨e0, b, arr, ty, S1, e, hb, hr, hj⟩ := h
        obtain ⟨A, B, hj2, h1, h2, h3⟩ := takeL_ok c _ S1 _ _ hr ht
        obtain ⟨E, h5, h6⟩ := join_shift2 hj hj2
        refine ⟨A, E, h5, h1, h2, ?_⟩
        simp only [relS]
        exact ⟨e0, b, arr, ty, B, e, hb, h3, h6⟩
      · cases hf
  | .agg fs, v, S, o, a', h, hf => by
    simp only [takeO] at hf
    split at hf
    · rename_i o' c' ht
      simp only [Option.some.injEq, Prod.mk.injEq] at hf; obtain ⟨rfl, rfl⟩ := hf
      simp only [relS] at h
      obtain ⟨cs, e, hr⟩ := h
      obtain ⟨A, B, hj2, h1, h2, h3⟩ := takeL_ok fs _ S _ _ hr ht
      refine ⟨A, B, hj2, h1, h2, ?_⟩
      simp only [relS]; exact ⟨cs, e, h3⟩
    · cases hf
  | .tup fs, v, S, o, a', h, hf => by
    simp only [takeO] at hf
    split at hf
    · rename_i o' c' ht
      simp only [Option.some.injEq, Prod.mk.injEq] at hf; obtain ⟨rfl, rfl⟩ := hf
      simp only [relS] at h
      obtain ⟨cs, e, hr⟩ := h
      obtain ⟨A, B, hj2, h1, h2, h3⟩ := takeL_ok fs _ S _ _ hr ht
      refine ⟨A, B, hj2, h1, h2, ?_⟩
      simp only [relS]; exact ⟨cs, e, h3⟩
    · cases hf
  | .clo fn fs, v, S, o, a', h, hf => by
    simp only [takeO] at hf
    split at hf
    · rename_i o' c' ht
      simp only [Option.some.injEq, Prod.mk.injEq] at hf; obtain ⟨rfl, rfl⟩ := hf
      simp only [relS] at h
      obtain ⟨cs, e, hr⟩ := h
      obtain ⟨A, B, hj2, h1, h2, h3⟩ := takeL_ok fs _ S _ _ hr ht
      refine ⟨A, B, hj2, h1, h2, ?_⟩
      simp only [relS]; exact ⟨cs, e, h3⟩
    · cases hf
  | .sl false i sz α f xs, v, S, o, a', h, hf => by simp [takeO] at hf
  | .int _ _, v, S, o, a', h, hf => by simp [takeO] at hf
  | .bool _, v, S, o, a', h, hf => by simp [takeO] at hf
  | .str _, v, S, o, a', h, hf => by simp [takeO] at hf
  | .val _, v, S, o, a', h, hf => by simp [takeO] at hf
  | .any, v, S, o, a', h, hf => by simp [takeO] at hf
  | .top, v, S, o, a', h, hf => by simp [takeO] at hf
  | .nil, v, S, o, a', h, hf => by simp [takeO] at hf
  | .hole _, v, S, o, a', h, hf => by simp [takeO] at hf
  | .al _, v, S, o, a', h, hf => by simp [takeO] at hf
  | .po _ _ _ _, v, S, o, a', h, hf => by simp [takeO] at hf
  | .pf _, v, S, o, a', h, hf => by simp [takeO] at hf
theorem takeL_ok {Z : FP} {η : Nat → Value} {w : World} {id : Nat} : ∀ (as : List AV) (cs : List Value) (S : FP) (o : AV) (as' : List AV), relSL Z η w as cs S → takeL id as = some (o, as') →
    ∃ A B, join S A B ∧ isOwner id o ∧ relS Z η w o (η id) A ∧ relSL Z η w as' cs B
  | [], cs, S, o, as', h, hf => by simp [takeL] at hf
  | a :: as, cs, S, o, as', h, hf => by
    simp only [relSL] at h
    obtain ⟨v, cs', A, B, e, hj, h1, h2⟩ := h
    simp only [takeL] at hf
    split at hf
    · rename_i o' a' ht
      simp only [Option.some.injEq, Prod.mk.injEq] at hf; obtain ⟨rfl, rfl⟩ := hf
      obtain ⟨A1, B1, hj2, x, y, z⟩ := takeO_ok a v A _ _ h1 ht
      obtain ⟨E, h5, h6⟩ := join_shift1 hj hj2
      refine ⟨A1, E, h5, x, y, ?_⟩
      simp only [relSL]; exact ⟨v, cs', B1, B, e, h6, z, h2⟩
    · split at hf
      · rename_i o' c' ht
        simp only [Option.some.injEq, Prod.mk.injEq] at hf; obtain ⟨rfl, rfl⟩ := hf
        obtain ⟨A1, B1, hj2, x, y, z⟩ := takeL_ok as cs' B _ _ h2 ht
        obtain ⟨E, h5, h6⟩ := join_shift2 hj hj2
        refine ⟨A1, E, h5, x, y, ?_⟩
        simp only [relSL]; exact ⟨v, cs', A, B1, e, h6, h1, z⟩
      · cases hf
end

mutual
theorem takeO_ids {n id : Nat} : ∀ (a o a' : AV), idsB n a → takeO id a = some (o, a') → id < n ∧ idsB n o ∧ idsB n a'
  | .sl true i sz α f xs, o, a', h, hf => by
    simp only [takeO] at hf
    split at hf
    · rename_i hb; simp only [Option.some.injEq, Prod.mk.injEq] at hf; obtain ⟨rfl, rfl⟩ := hf
      have := Nat.eq_of_beq_eq_true hb; subst this
      have h' := h; simp only [idsB] at h'
      exact ⟨h' trivial, h, h' trivial⟩
    · simp at hf
  | .box i c, o, a', h, hf => by
    simp only [takeO] at hf
    split at hf
    · rename_i hb; simp only [Option.some.injEq, Prod.mk.injEq] at hf; obtain ⟨rfl, rfl⟩ := hf
      have := Nat.eq_of_beq_eq_true hb; subst this
      have h' := h; simp only [idsB] at h'
      exact ⟨h'.1, h, h'.1⟩
    · split at hf
      · rename_i o' c' ht
        simp only [Option.some.injEq, Prod.mk.injEq] at hf; obtain ⟨rfl, rfl⟩ := hf
        simp only [idsB] at h ⊢
        obtain ⟨x, y, z⟩ := takeL_ids c _ _ h.2 ht
        exact ⟨x, y, h.1, z⟩
      · cases hf
  | .agg fs, o, a', h, hf => by
    simp only [takeO] at hf
    split at hf
    · rename_i o' c' ht
      simp only [Option.some.injEq, Prod.mk.injEq] at hf; obtain ⟨rfl, rfl⟩ := hf
      simp only [idsB] at h ⊢; exact takeL_ids fs _ _ h ht
    · cases hf
  | .tup fs, o, a', h, hf => by
    simp only [takeO] at hf
    split at hf
    · rename_i o' c' ht
      simp only [Option.some.injEq, Prod.mk.injEq] at hf; obtain ⟨rfl, rfl⟩ := hf
      simp only [idsB] at h ⊢; exact takeL_ids fs _ _ h ht
    · cases hf
  | .clo fn fs, o, a', h, hf => by
    simp only [takeO] at hf
    split at hf
    · rename_i o' c' ht
      simp only [Option.some.injEq, Prod.mk.injEq] at hf; obtain ⟨rfl, rfl⟩ := hf
      simp only [idsB] at h ⊢; exact takeL_ids fs _ _ h ht
    · cases hf
  | .sl false i sz α f xs, o, a', h, hf => by simp [takeO] at hf
  | .int _ _, o, a', h, hf => by simp [takeO] at hf
  | .bool _, o, a', h, hf => by simp [takeO] at hf
  | .str _, o, a', h, hf => by simp [takeO] at hf
  | .val _, o, a', h, hf => by simp [takeO] at hf
  | .any, o, a', h, hf => by simp [takeO] at hf
  | .top, o, a', h, hf => by simp [takeO] at hf
  | .nil, o, a', h, hf => by simp [takeO] at hf
  | .hole _, o, a', h, hf => by simp [takeO] at hf
  | .al _, o, a', h, hf => by simp [takeO] at hf
  | .po _ _ _ _, o, a', h, hf => by simp [takeO] at hf
  | .pf _, o, a', h, hf => by simp [takeO] at hf
theorem takeL_ids {n id : Nat} : ∀ (as : List AV) (o : AV) (as' : List AV), idsBL n as → takeL id as = some (o, as') → id < n ∧ idsB n o ∧ idsBL n as'
  | [], o, as', h, hf => by simp [takeL] at hf
  | a :: as, o, as', h, hf => by
    simp only [takeL] at hf
    split at hf
    · rename_i o' a' ht
      simp only [Option.some.injEq, Prod.mk.injEq] at hf; obtain ⟨rfl, rfl⟩ := hf
      obtain ⟨x, y, z⟩ := takeO_ids a _ _ h.1 ht
      exact ⟨x, y, z, h.2⟩
    · split at hf
      · rename_i o' c' ht
        simp only [Option.some.injEq, Prod.mk.injEq] at hf; obtain ⟨rfl, rfl⟩ := hf
        obtain ⟨x, y, z⟩ := takeL_ids as _ _ h.2 ht
        exact ⟨x, y, h.1, z⟩
      · cases hf
end

mutual
theorem plugO_ok {Z : FP} {η : Nat → Value} {w : World} {id : Nat} {o : AV} {A : FP} (ho : relS Z η w o (η id) A) : ∀ (a : AV) (v : Value) (B S : FP) (a' : AV), relS Z η w a v B → join S A B →
    plugO id o a = some a' → relS Z η w a' v S
  | .hole i, v, B, S, a', h, hj, hf => by
    simp only [plugO] at hf
    split at hf
    · rename_i hb
      simp only [Option.some.injEq] at hf; subst hf
      have := Nat.eq_of_beq_eq_true hb; subst this
      simp only [relS] at h
      rw [h.1, fp_ext (join_emp_r hj h.2.2)]; exact ho
    · cases hf
  | .box i c, v, B, S, a', h, hj, hf => by
    simp only [plugO] at hf
    split at hf
    · rename_i c' hc
      simp only [Option.some.injEq] at hf; subst hf
      simp only [relS] at h ⊢
      obtain ⟨e0, b, arr, ty, S1, e, hb, hr, hj2⟩ := h
      obtain ⟨E, h5, h6⟩ := join_shift2 hj hj2
      exact ⟨e0, b, arr, ty, E, e, hb, plugL_ok ho c _ S1 E _ hr h6 hc, h5⟩
    · cases hf
  | .agg fs, v, B, S, a', h, hj, hf => by
    simp only [plugO] at hf
    split at hf
    · rename_i c' hc
      simp only [Option.some.injEq] at hf; subst hf
      simp only [relS] at h ⊢
      obtain ⟨cs, e, hr⟩ := h
      exact ⟨cs, e, plugL_ok ho fs _ B S _ hr hj hc⟩
    · cases hf
  | .tup fs, v, B, S, a', h, hj, hf => by
    simp only [plugO] at hf
    split at hf
    · rename_i c' hc
      simp only [Option.some.injEq] at hf; subst hf
      simp only [relS] at h ⊢
      obtain ⟨cs, e, hr⟩ := h
      exact ⟨cs, e, plugL_ok ho fs _ B S _ hr hj hc⟩
    · cases hf
  | .clo fn fs, v, B, S, a', h, hj, hf => by
    simp only [plugO] at hf
    split at hf
    · rename_i c' hc
      simp only [Option.some.injEq] at hf; subst hf
      simp only [relS] at h ⊢
      obtain ⟨cs, e, hr⟩ := h
      exact ⟨cs, e, plugL_ok ho fs _ B S _ hr hj hc⟩
    · cases hf
  | .sl own i sz α f xs, v, B, S, a', h, hj, hf => by simp [plugO] at hf
  | .int _ _, v, B, S, a', h, hj, hf => by simp [plugO] at hf
  | .bool _, v, B, S, a', h, hj, hf => by simp [plugO] at hf
  | .str _, v, B, S, a', h, hj, hf => by simp [plugO] at hf
  | .val _, v, B, S, a', h, hj, hf => by simp [plugO] at hf
  | .any, v, B, S, a', h, hj, hf => by simp [plugO] at hf
  | .top, v, B, S, a', h, hj, hf => by simp [plugO] at hf
  | .nil, v, B, S, a', h, hj, hf => by simp [plugO] at hf
  | .al _, v, B, S, a', h, hj, hf => by simp [plugO] at hf
  | .po _ _ _ _, v, B, S, a', h, hj, hf => by simp [plugO] at hf
  | .pf _, v, B, S, a', h, hj, hf => by simp [plugO] at hf
theorem plugL_ok {Z : FP} {η : Nat → Value} {w : World} {id : Nat} {o : AV} {A : FP} (ho : relS Z η w o (η id) A) : ∀ (as : List AV) (cs : List Value) (B S : FP) (as' : List AV), relSL Z η w as cs B → join S A B →
    plugL id o as = some as' → relSL Z η w as' cs S
  | [], cs, B, S, as', h, hj, hf => by simp [plugL] at hf
  | a :: as, cs, B, S, as', h, hj, hf => by
    simp only [relSL] at h
    obtain ⟨v, cs', A1, B1, e, hj2, h1, h2⟩ := h
    simp only [plugL] at hf
    split at hf
    · rename_i a1 ht
      simp only [Option.some.injEq] at hf; subst hf
      obtain ⟨E, h5, h6⟩ := join_assoc hj hj2
      simp only [relSL]
      exact ⟨v, cs', E, B1, e, h5, plugO_ok ho a v A1 E _ h1 h6 ht, h2⟩
    · split at hf
      · rename_i as1 ht
        simp only [Option.some.injEq] at hf; subst hf
        obtain ⟨E, h5, h6⟩ := join_shift2 hj hj2
        simp only [relSL]
        exact ⟨v, cs', A1, E, e, h5, h1, plugL_ok ho as cs' B1 E _ h2 h6 ht⟩
      · cases hf
end

mutual
theorem plugO_ids {n id : Nat} {o : AV} (ho : idsB n o) : ∀ (a a' : AV), idsB n a → plugO id o a = some a' → idsB n a'
  | .hole i, a', h, hf => by
    simp only [plugO] at hf
    split at hf
    · simp only [Option.some.injEq] at hf; subst hf; exact ho
    · cases hf
  | .box i c, a', h, hf => by
    simp only [plugO] at hf
    split at hf
    · rename_i c' hc
      simp only [Option.some.injEq] at hf; subst hf
      simp only [idsB] at h ⊢; exact ⟨h.1, plugL_ids ho c _ h.2 hc⟩
    · cases hf
  | .agg fs, a', h, hf => by
    simp only [plugO] at hf
    split at hf
    · rename_i c' hc
      simp only [Option.some.injEq] at hf; subst hf
      simp only [idsB] at h ⊢; exact plugL_ids ho fs _ h hc
    · cases hf
  | .tup fs, a', h, hf => by
    simp only [plugO] at hf
    split at hf
    · rename_i c' hc
      simp only [Option.some.injEq] at hf; subst hf
      simp only [idsB] at h ⊢; exact plugL_ids ho fs _ h hc
    · cases hf
  | .clo fn fs, a', h, hf => by
    simp only [plugO] at hf
    split at hf
    · rename_i c' hc
      simp only [Option.some.injEq] at hf; subst hf
      simp only [idsB] at h ⊢; exact plugL_ids ho fs _ h hc
    · cases hf
  | .sl own i sz α f xs, a', h, hf => by simp [plugO] at hf
  | .int _ _, a', h, hf => by simp [plugO] at hf
  | .bool _, a', h, hf => by simp [plugO] at hf
  | .str _, a', h, hf => by simp [plugO] at hf
  | .val _, a', h, hf => by simp [plugO] at hf
  | .any, a', h, hf => by simp [plugO] at hf
  | .top, a', h, hf => by simp [plugO] at hf
  | .nil, a', h, hf => by simp [plugO] at hf
  | .al _, a', h, hf => by simp [plugO] at hf
  | .po _ _ _ _, a', h, hf => by simp [plugO] at hf
  | .pf _, a', h, hf => by simp [plugO] at hf
theorem plugL_ids {n id : Nat} {o : AV} (ho : idsB n o) : ∀ (as as' : List AV), idsBL n as → plugL id o as = some as' → idsBL n as'
  | [], as', h, hf => by simp [plugL] at hf
  | a :: as, as', h, hf => by
    simp only [plugL] at hf
    split at hf
    · rename_i a1 ht
      simp only [Option.some.injEq] at hf; subst hf
      exact ⟨plugO_ids ho a _ h.1 ht, h.2⟩
    · split at hf
      · rename_i as1 ht
        simp only [Option.some.injEq] at hf; subst hf
        exact ⟨h.1, plugL_ids ho as _ h.2 ht⟩
      · cases hf
end

end Go.Eng
