/- Reading through places. -/
import Derived.Test.YtinkjpfkemkhaaaDoorEngC
set_option linter.unusedVariables false
set_option linter.unusedSimpArgs false
namespace Go.Eng

def peek : AV → AV
  | .int k n => .int k n
  | .bool b => .bool b
  | .str l => .str l
  | .val v => .val v
  | .nil => .nil
  | .pf c => .pf c
  | .sl false _ sz α f xs => .sl false 0 sz α f xs
  | .agg _ => .top
  | .tup _ => .top
  | .top => .top
  | .hole _ => .top
  | .al _ => .top
  | .po _ _ _ _ => .top
  | _ => .any

theorem peek_ids (n : Nat) (a : AV) : idsB n (peek a) := by
  cases a <;> try trivial
  case sl own id sz α f xs =>
    cases own
    · simp only [peek, idsB]; intro h; cases h
    · trivial
theorem peekL_ids (n : Nat) : ∀ l : List AV, idsBL n (l.map peek)
  | [] => trivial
  | a :: l => ⟨peek_ids n a, peekL_ids n l⟩

theorem peek_rel {Z : FP} {η : Nat → Value} {w : World} {a : AV} {v : Value} {S : FP} (h : rel0 Z w a v S) : relS Z η w (peek a) v (fun _ => False) := by
  cases a <;> simp only [rel0] at h
  case int => exact ⟨h.1, emp_false⟩
  case bool => exact ⟨h.1, emp_false⟩
  case str => exact ⟨h.1, emp_false⟩
  case val => exact ⟨h.1, h.2.1, emp_false⟩
  case any => exact ⟨h.1, emp_false⟩
  case top => exact emp_false
  case nil => exact ⟨h.1, emp_false⟩
  case agg => exact emp_false
  case tup => exact emp_false
  case box => obtain ⟨b, arr, ty, S1, e, _⟩ := h; exact ⟨by rw [e]; trivial, emp_false⟩
  case pf => simp only [peek, relS, rel0]; exact ⟨emp_false, h.2⟩
  case clo => obtain ⟨cs, e, _⟩ := h; exact ⟨by rw [e]; trivial, emp_false⟩
  case sl own id sz α f xs =>
    cases own
    · obtain ⟨a, n, c, e, hn, hc, h⟩ := h
      rcases h with ⟨ho, _⟩ | ⟨_, he, h⟩
      · cases ho
      · simp only [peek, relS, rel0]
        refine ⟨(fun o => by cases o), a, n, c, e, hn, hc, .inr ⟨trivial, emp_false, ?_⟩⟩
        rw [emp_eq he] at h
        exact h
    · obtain ⟨a, n, c, e, _⟩ := h
      exact ⟨by rw [e]; trivial, emp_false⟩

theorem peekL_rel {Z : FP} {η : Nat → Value} {w : World} : ∀ (as : List AV) (cs : List Value) (S : FP), rel0L Z w as cs S → relSL Z η w (as.map peek) cs (fun _ => False)
  | [], cs, S, h => by simp only [rel0L] at h; simp only [List.map, relSL]; exact ⟨h.1, emp_false⟩
  | a :: as, cs, S, h => by
    simp only [rel0L] at h
    obtain ⟨v, cs', A, B, e, hj, h1, h2⟩ := h
    simp only [List.map, relSL]
    exact ⟨v, cs', _, _, e, join_emp_left _, peek_rel h1, peekL_rel as cs' B h2⟩

theorem relSL_drop {Z : FP} {η : Nat → Value} {w : World} : ∀ (n : Nat) (as : List AV) (cs : List Value), relSL Z η w as cs (fun _ => False) →
    relSL Z η w (as.drop n) (cs.drop n) (fun _ => False)
  | 0, as, cs, h => by simpa using h
  | n + 1, [], cs, h => by simp only [relSL] at h; simp [h.1, relSL, emp]
  | n + 1, a :: as, cs, h => by
    simp only [relSL] at h
    obtain ⟨v, cs', A, B, e, hj, h1, h2⟩ := h
    have hB := (emp_of_join hj emp_false).2
    rw [emp_eq hB] at h2
    subst e
    simpa using relSL_drop n as cs' h2
theorem relSL_take {Z : FP} {η : Nat → Value} {w : World} : ∀ (n : Nat) (as : List AV) (cs : List Value), relSL Z η w as cs (fun _ => False) →
    relSL Z η w (as.take n) (cs.take n) (fun _ => False)
  | 0, as, cs, h => by simp [relSL, emp]
  | n + 1, [], cs, h => by simp only [relSL] at h; simp [h.1, relSL, emp]
  | n + 1, a :: as, cs, h => by
    simp only [relSL] at h
    obtain ⟨v, cs', A, B, e, hj, h1, h2⟩ := h
    have hB := (emp_of_join hj emp_false).2
    have hA := (emp_of_join hj emp_false).1
    rw [emp_eq hB] at h2
    rw [emp_eq hA] at h1
    subst e
    simp only [List.take_succ_cons, relSL]
    exact ⟨v, _, _, _, rfl, join_emp_left _, h1, relSL_take n as cs' h2⟩
theorem idsBL_drop {n : Nat} : ∀ (k : Nat) (l : List AV), idsBL n l → idsBL n (l.drop k)
  | 0, l, h => by simpa using h
  | k + 1, [], h => by simpa using h
  | k + 1, a :: l, h => by simpa using idsBL_drop k l h.2
theorem idsBL_take {n : Nat} : ∀ (k : Nat) (l : List AV), idsBL n l → idsBL n (l.take k)
  | 0, l, h => by simp [idsBL]
  | k + 1, [], h => by simp [idsBL]
  | k + 1, a :: l, h => by simpa [idsBL] using ⟨h.1, idsBL_take k l h.2⟩

/- a world in which all that there was still is -/
structure Sees (w w' : World) : Prop where
  size : w.heap.size ≤ w'.heap.size
  old : ∀ b, b < w.heap.size → w'.heap[b]? = w.heap[b]?
theorem Sees.refl (w : World) : Sees w w := ⟨Nat.le_refl _, fun _ _ => rfl⟩
theorem Sees.blk {w w' : World} (h : Sees w w') {b : Nat} {o : Obj} (hb : w.heap[b]? = some o) : w'.heap[b]? = some o := by
  rcases Nat.lt_or_ge b w.heap.size with hh | hh
  · rw [h.old b hh]; exact hb
  · simp [Array.getElem?_eq_none hh] at hb

/- a load of a variable of type t whose leaves are known -/
def vcLoad (P : Program) (t : TypeId) (c : List AV) (K : AV → Prop) : Prop :=
  match P.underlying t, P.info? t with
  | some d, some i => match isAggD d with
    | true => match Nat.beq (c.take i.size).length i.size with
      | true => K (.agg (c.take i.size))
      | false => False
    | false => match c with
      | a :: _ => K a
      | [] => False
  | _, _ => False

theorem vcLoad_ok {P : Program} {t : TypeId} {c : List AV} {K : AV → Prop} (hvc : vcLoad P t c K) {Z : FP} {η : Nat → Value} {w : World} {b off n : Nat} {arr : Array Value}
    {ty : TypeId} {fr : Nat × Nat} (hb : w.heap[b]? = some (.cells arr ty fr)) {cs rest : List Value} (hd : arr.toList.drop off = cs ++ rest)
    (hr : relSL Z η w c cs (fun _ => False)) (hi : idsBL n c) :
    ∃ v r, (∀ w', Sees w w' → (loadVar t (ad b off)).run P w' = .ok v w') ∧ relS Z η w r v (fun _ => False) ∧ idsB n r ∧ K r := by
  unfold vcLoad at hvc
  split at hvc
  · rename_i d i hu hinfo
    split at hvc
    · rename_i hagg
      split at hvc
      · rename_i hl
        have hl' := Nat.eq_of_beq_eq_true hl
        refine ⟨.agg (cs.take i.size).toArray, _, ?_, ?_, ?_, hvc⟩
        · intro w' hw'
          simp only [loadVar]
          rw [run_bind_ok (run_isAgg hu w'), hagg]
          simp only [if_true]
          rw [run_bind_ok (run_sizeOf hinfo w')]
          have hlen : (cs.take i.size).length = i.size := by
            have := relSL_len _ _ _ (relSL_take i.size c cs hr); omega
          have := run_loadCells (P := P) (off := off) (hw'.blk hb) (cs := cs.take i.size) (rest := cs.drop i.size ++ rest) (by rw [hd, ← List.append_assoc, List.take_append_drop])
          rw [hlen] at this
          rw [run_bind_ok this]; rfl
        · simp only [relS]; exact ⟨_, rfl, relSL_take _ _ _ hr⟩
        · simp only [idsB]; exact idsBL_take _ _ hi
      · exact hvc.elim
    · rename_i hagg
      split at hvc
      · rename_i a _
        simp only [relSL] at hr
        obtain ⟨v, cs', A, B, e, hj, h1, h2⟩ := hr
        have hA := (emp_of_join hj emp_false).1
        rw [emp_eq hA] at h1
        refine ⟨v, a, fun w' hw' => ?_, h1, hi.1, hvc⟩
        simp only [loadVar]
        rw [run_bind_ok (run_isAgg hu w'), hagg]
        simp only [Bool.false_eq_true, if_false]
        refine run_load ?_
        rw [cell_ad (hw'.blk hb)]
        have : (arr.toList.drop off)[0]? = some v := by rw [hd, e]; rfl
        rw [List.getElem?_drop] at this
        simpa [Array.getElem?_toList] using this
      · exact hvc.elim
  · exact hvc.elim

/- owners -/
mutual
def findO (id : Nat) : AV → Option AV
  | .sl true i sz α f xs => match Nat.beq i id with | true => some (.sl true i sz α f xs) | false => none
  | .box i c => match Nat.beq i id with | true => some (.box i c) | false => findL id c
  | .agg fs => findL id fs
  | .tup fs => findL id fs
  | .clo _ fs => findL id fs
  | _ => none
def findL (id : Nat) : List AV → Option AV
  | [] => none
  | a :: as => match findO id a with
    | some o => some o
    | none => findL id as
end

def isOwner (id : Nat) : AV → Prop
  | .sl true i _ _ _ _ => i = id
  | .box i _ => i = id
  | _ => False

mutual
theorem findO_ok {Z : FP} {η : Nat → Value} {w : World} {id : Nat} : ∀ (a : AV) (v : Value) (S : FP) (o : AV), relS Z η w a v S → findO id a = some o →
    ∃ A, (∀ b, A b → S b) ∧ isOwner id o ∧ relS Z η w o (η id) A
  | .sl true i sz α f xs, v, S, o, h, hf => by
    simp only [findO] at hf
    split at hf
    · rename_i hb; simp only [Option.some.injEq] at hf; subst hf
      have := Nat.eq_of_beq_eq_true hb; subst this
      refine ⟨S, fun _ x => x, rfl, ?_⟩
      have h' := h
      simp only [relS] at h'
      rw [← h'.1 trivial]; exact h
    · simp at hf
  | .sl false i sz α f xs, v, S, o, h, hf => by simp [findO] at hf
  | .box i c, v, S, o, h, hf => by
    simp only [findO] at hf
    split at hf
    · rename_i hb; simp only [Option.some.injEq] at hf; subst hf
      have := Nat.eq_of_beq_eq_true hb; subst this
      refine ⟨S, fun _ x => x, rfl, ?_⟩
      have h' := h
      simp only [relS] at h'
      rw [← h'.1]; exact h
    · simp only [relS] at h
      obtain ⟨_, b, arr, ty, S1, _, _, h, hj⟩ := h
      obtain ⟨A, hA, h1, h2⟩ := findL_ok c _ S1 o h hf
      exact ⟨A, fun b hb => (hj.1 b).2 (.inr (hA b hb)), h1, h2⟩
  | .agg fs, v, S, o, h, hf => by
    simp only [findO] at hf; simp only [relS] at h
    obtain ⟨cs, _, h⟩ := h
    exact findL_ok fs cs S o h hf
  | .tup fs, v, S, o, h, hf => by
    simp only [findO] at hf; simp only [relS] at h
    obtain ⟨cs, _, h⟩ := h
    exact findL_ok fs cs S o h hf
  | .clo _ fs, v, S, o, h, hf => by
    simp only [findO] at hf; simp only [relS] at h
    obtain ⟨cs, _, h⟩ := h
    exact findL_ok fs cs S o h hf
  | .int _ _, v, S, o, h, hf => by simp [findO] at hf
  | .bool _, v, S, o, h, hf => by simp [findO] at hf
  | .str _, v, S, o, h, hf => by simp [findO] at hf
  | .val _, v, S, o, h, hf => by simp [findO] at hf
  | .any, v, S, o, h, hf => by simp [findO] at hf
  | .top, v, S, o, h, hf => by simp [findO] at hf
  | .nil, v, S, o, h, hf => by simp [findO] at hf
  | .hole _, v, S, o, h, hf => by simp [findO] at hf
  | .al _, v, S, o, h, hf => by simp [findO] at hf
  | .po _ _ _ _, v, S, o, h, hf => by simp [findO] at hf
  | .pf _, v, S, o, h, hf => by simp [findO] at hf
theorem findL_ok {Z : FP} {η : Nat → Value} {w : World} {id : Nat} : ∀ (as : List AV) (cs : List Value) (S : FP) (o : AV), relSL Z η w as cs S → findL id as = some o →
    ∃ A, (∀ b, A b → S b) ∧ isOwner id o ∧ relS Z η w o (η id) A
  | [], cs, S, o, h, hf => by simp [findL] at hf
  | a :: as, cs, S, o, h, hf => by
    simp only [relSL] at h
    obtain ⟨v, cs', A, B, e, hj, h1, h2⟩ := h
    simp only [findL] at hf
    split at hf
    · rename_i o' ho
      simp only [Option.some.injEq] at hf; subst hf
      obtain ⟨A', hA, x, y⟩ := findO_ok a v A _ h1 ho
      exact ⟨A', fun b hb => (hj.1 b).2 (.inl (hA b hb)), x, y⟩
    · obtain ⟨A', hA, x, y⟩ := findL_ok as cs' B o h2 hf
      exact ⟨A', fun b hb => (hj.1 b).2 (.inr (hA b hb)), x, y⟩
end

mutual
theorem findO_ids {n id : Nat} : ∀ (a : AV) (o : AV), idsB n a → findO id a = some o → idsB n o
  | .sl true i sz α f xs, o, h, hf => by
    simp only [findO] at hf
    split at hf
    · simp only [Option.some.injEq] at hf; subst hf; exact h
    · simp at hf
  | .sl false i sz α f xs, o, h, hf => by simp [findO] at hf
  | .box i c, o, h, hf => by
    simp only [findO] at hf
    split at hf
    · simp only [Option.some.injEq] at hf; subst hf; exact h
    · exact findL_ids c o h.2 hf
  | .agg fs, o, h, hf => by simp only [findO] at hf; simp only [idsB] at h; exact findL_ids fs o h hf
  | .tup fs, o, h, hf => by simp only [findO] at hf; simp only [idsB] at h; exact findL_ids fs o h hf
  | .clo _ fs, o, h, hf => by simp only [findO] at hf; simp only [idsB] at h; exact findL_ids fs o h hf
  | .int _ _, o, h, hf => by simp [findO] at hf
  | .bool _, o, h, hf => by simp [findO] at hf
  | .str _, o, h, hf => by simp [findO] at hf
  | .val _, o, h, hf => by simp [findO] at hf
  | .any, o, h, hf => by simp [findO] at hf
  | .top, o, h, hf => by simp [findO] at hf
  | .nil, o, h, hf => by simp [findO] at hf
  | .hole _, o, h, hf => by simp [findO] at hf
  | .al _, o, h, hf => by simp [findO] at hf
  | .po _ _ _ _, o, h, hf => by simp [findO] at hf
  | .pf _, o, h, hf => by simp [findO] at hf
theorem findL_ids {n id : Nat} : ∀ (as : List AV) (o : AV), idsBL n as → findL id as = some o → idsB n o
  | [], o, h, hf => by simp [findL] at hf
  | a :: as, o, h, hf => by
    simp only [findL] at hf
    split at hf
    · rename_i o' ho
      simp only [Option.some.injEq] at hf; subst hf
      exact findO_ids a _ h.1 ho
    · exact findL_ids as o h.2 hf
end

theorem rows_get {α : Type} {sz : Nat} {R : α → List Value → FP → Prop} : ∀ (xs : List α) (cs : List Value) (S : FP) (k : Nat) (x : α), Rows sz R xs cs S → xs[k]? = some x →
    ∃ A, (∀ b, A b → S b) ∧ ((cs.drop (k * sz)).take sz).length = sz ∧ R x ((cs.drop (k * sz)).take sz) A
  | [], cs, S, k, x, h, hk => by simp at hk
  | y :: xs, cs, S, 0, x, h, hk => by
    simp at hk; subst hk
    obtain ⟨A, B, hj, hl, h1, h2⟩ := h
    refine ⟨A, fun b hb => (hj.1 b).2 (.inl hb), ?_, ?_⟩
    · simpa using hl
    · simpa using h1
  | y :: xs, cs, S, k + 1, x, h, hk => by
    obtain ⟨A, B, hj, hl, h1, h2⟩ := h
    obtain ⟨A', hA, hl', hr⟩ := rows_get xs (cs.drop sz) B k x h2 (by simpa using hk)
    rw [List.drop_drop] at hl' hr
    have e : (k + 1) * sz = sz + k * sz := by rw [Nat.succ_mul]; omega
    rw [e]
    exact ⟨A', fun b hb => (hj.1 b).2 (.inr (hA b hb)), hl', hr⟩

end Go.Eng
