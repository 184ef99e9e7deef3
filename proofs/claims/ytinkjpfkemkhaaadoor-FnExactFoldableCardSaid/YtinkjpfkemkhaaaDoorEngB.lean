/- Slots: what the slots of a running call hold, with names for what is owned. -/
import Derived.Test.YtinkjpfkemkhaaaDoorEngA
set_option linter.unusedVariables false
namespace Go.Eng

def baseOf : Value → Addr
  | .slice (some a) _ _ => a
  | .pointer (some a) => a
  | _ => ⟨0, 0, none⟩

mutual
def relS (Z : FP) (η : Nat → Value) (w : World) : AV → Value → FP → Prop
  | .al id, v, S => v = η id ∧ isCell v ∧ emp S
  | .hole id, v, S => v = η id ∧ isCell v ∧ emp S
  | .po id k sz off, v, S => v = .pointer (some ⟨(baseOf (η id)).block, (baseOf (η id)).off + (k * sz + off), none⟩) ∧ emp S
  | .agg fs, v, S => ∃ cs : List Value, v = .agg cs.toArray ∧ relSL Z η w fs cs S
  | .tup fs, v, S => ∃ cs : List Value, v = .tuple cs.toArray ∧ relSL Z η w fs cs S
  | .clo fn fs, v, S => ∃ cs : List Value, v = .func fn #[] cs.toArray ∧ relSL Z η w fs cs S
  | .box id c, v, S => v = η id ∧ ∃ b arr ty S1, v = .pointer (some ⟨b, 0, none⟩) ∧ w.heap[b]? = some (.cells arr ty (0, 0)) ∧
      relSL Z η w c arr.toList S1 ∧ join S (one b) S1
  | .sl own id sz α f xs, v, S => (own = true → v = η id) ∧ rel0 Z w (.sl own id sz α f xs) v S
  | .int k n, v, S => rel0 Z w (.int k n) v S
  | .bool b, v, S => rel0 Z w (.bool b) v S
  | .str l, v, S => rel0 Z w (.str l) v S
  | .val x, v, S => rel0 Z w (.val x) v S
  | .any, v, S => rel0 Z w .any v S
  | .top, v, S => rel0 Z w .top v S
  | .nil, v, S => rel0 Z w .nil v S
  | .pf c, v, S => rel0 Z w (.pf c) v S
def relSL (Z : FP) (η : Nat → Value) (w : World) : List AV → List Value → FP → Prop
  | [], cs, S => cs = [] ∧ emp S
  | a :: as, cs, S => ∃ v cs' A B, cs = v :: cs' ∧ join S A B ∧ relS Z η w a v A ∧ relSL Z η w as cs' B
end

mutual
def idsB (n : Nat) : AV → Prop
  | .al id => id < n
  | .hole id => id < n
  | .po id _ _ _ => id < n
  | .agg fs => idsBL n fs
  | .tup fs => idsBL n fs
  | .clo _ fs => idsBL n fs
  | .box id c => id < n ∧ idsBL n c
  | .sl own id _ _ _ _ => own = true → id < n
  | _ => True
def idsBL (n : Nat) : List AV → Prop
  | [] => True
  | a :: as => idsB n a ∧ idsBL n as
end

mutual
theorem idsB_le {n m : Nat} (h : n ≤ m) : ∀ a : AV, idsB n a → idsB m a
  | .al _, x => Nat.lt_of_lt_of_le x h
  | .hole _, x => Nat.lt_of_lt_of_le x h
  | .po _ _ _ _, x => Nat.lt_of_lt_of_le x h
  | .agg fs, x => by simp only [idsB] at x ⊢; exact idsBL_le h fs x
  | .tup fs, x => by simp only [idsB] at x ⊢; exact idsBL_le h fs x
  | .clo _ fs, x => by simp only [idsB] at x ⊢; exact idsBL_le h fs x
  | .box _ c, x => by simp only [idsB] at x ⊢; exact ⟨Nat.lt_of_lt_of_le x.1 h, idsBL_le h c x.2⟩
  | .sl _ _ _ _ _ _, x => fun o => Nat.lt_of_lt_of_le (x o) h
  | .int _ _, x => x
  | .bool _, x => x
  | .str _, x => x
  | .val _, x => x
  | .any, x => x
  | .top, x => x
  | .nil, x => x
  | .pf _, x => x
theorem idsBL_le {n m : Nat} (h : n ≤ m) : ∀ as : List AV, idsBL n as → idsBL m as
  | [], x => x
  | a :: as, x => by simp only [idsBL] at x ⊢; exact ⟨idsB_le h a x.1, idsBL_le h as x.2⟩
end

structure Moves (Z Z' : FP) (w w' : World) : Prop where
  fz : ∀ b, ¬ Z b → b < w.heap.size → ¬ Z' b ∧ w'.heap[b]? = w.heap[b]?

mutual
theorem relS_mono {n : Nat} {Z Z' : FP} {η η' : Nat → Value} {w w' : World} (hZ : ∀ b, ¬ Z b → b < w.heap.size → ¬ Z' b ∧ w'.heap[b]? = w.heap[b]?)
    (hη : ∀ i, i < n → η' i = η i) :
    ∀ (a : AV) (v : Value) (S : FP), idsB n a → (∀ b, S b → w'.heap[b]? = w.heap[b]?) → relS Z η w a v S → relS Z' η' w' a v S
  | .al id, v, S, hi, hS, h => by
    simp only [relS] at h ⊢; simp only [idsB] at hi; rw [hη id hi]; exact h
  | .hole id, v, S, hi, hS, h => by
    simp only [relS] at h ⊢; simp only [idsB] at hi; rw [hη id hi]; exact h
  | .po id _ _ _, v, S, hi, hS, h => by
    simp only [relS] at h ⊢; simp only [idsB] at hi; rw [hη id hi]; exact h
  | .agg fs, v, S, hi, hS, h => by
    simp only [relS] at h ⊢; simp only [idsB] at hi; obtain ⟨cs, e, h⟩ := h; exact ⟨cs, e, relSL_mono hZ hη fs cs S hi hS h⟩
  | .tup fs, v, S, hi, hS, h => by
    simp only [relS] at h ⊢; simp only [idsB] at hi; obtain ⟨cs, e, h⟩ := h; exact ⟨cs, e, relSL_mono hZ hη fs cs S hi hS h⟩
  | .clo _ fs, v, S, hi, hS, h => by
    simp only [relS] at h ⊢; simp only [idsB] at hi; obtain ⟨cs, e, h⟩ := h; exact ⟨cs, e, relSL_mono hZ hη fs cs S hi hS h⟩
  | .box id c, v, S, hi, hS, h => by
    simp only [relS] at h ⊢; simp only [idsB] at hi
    obtain ⟨e0, b, arr, ty, S1, e, hb, h, hj⟩ := h
    exact ⟨by rw [hη id hi.1]; exact e0, b, arr, ty, S1, e, by rw [hS b ((hj.1 b).2 (.inl rfl))]; exact hb, relSL_mono hZ hη c _ S1 hi.2 (fun b hb => hS b ((hj.1 b).2 (.inr hb))) h, hj⟩
  | .sl own id sz α f xs, v, S, hi, hS, h => by
    simp only [relS] at h ⊢; simp only [idsB] at hi
    exact ⟨fun o => by rw [hη id (hi o)]; exact h.1 o, rel0_mono hZ _ v S hS h.2⟩
  | .int _ _, v, S, _, hS, h => rel0_mono hZ _ v S hS h
  | .bool _, v, S, _, hS, h => rel0_mono hZ _ v S hS h
  | .str _, v, S, _, hS, h => rel0_mono hZ _ v S hS h
  | .val _, v, S, _, hS, h => rel0_mono hZ _ v S hS h
  | .any, v, S, _, hS, h => rel0_mono hZ _ v S hS h
  | .top, v, S, _, hS, h => rel0_mono hZ _ v S hS h
  | .nil, v, S, _, hS, h => rel0_mono hZ _ v S hS h
  | .pf _, v, S, _, hS, h => rel0_mono hZ _ v S hS h
theorem relSL_mono {n : Nat} {Z Z' : FP} {η η' : Nat → Value} {w w' : World} (hZ : ∀ b, ¬ Z b → b < w.heap.size → ¬ Z' b ∧ w'.heap[b]? = w.heap[b]?)
    (hη : ∀ i, i < n → η' i = η i) :
    ∀ (as : List AV) (cs : List Value) (S : FP), idsBL n as → (∀ b, S b → w'.heap[b]? = w.heap[b]?) → relSL Z η w as cs S → relSL Z' η' w' as cs S
  | [], _, _, _, _, h => h
  | a :: as, cs, S, hi, hS, h => by
    simp only [relSL] at h ⊢; simp only [idsBL] at hi
    obtain ⟨v, cs', A, B, e, hj, h1, h2⟩ := h
    exact ⟨v, cs', A, B, e, hj, relS_mono hZ hη a v A hi.1 (fun b hb => hS b ((hj.1 b).2 (.inl hb))) h1,
      relSL_mono hZ hη as cs' B hi.2 (fun b hb => hS b ((hj.1 b).2 (.inr hb))) h2⟩
end

/- a copy of a value: what is owned is told by its name. -/
mutual
def copyAV : AV → AV
  | .sl true id _ _ _ _ => .al id
  | .box id _ => .al id
  | .agg fs => .agg (copyL fs)
  | .clo fn fs => .clo fn (copyL fs)
  | .tup fs => .tup (copyL fs)
  | .hole id => .al id
  | a => a
def copyL : List AV → List AV
  | [] => []
  | a :: as => copyAV a :: copyL as
end

theorem cells_slice (a : Option Addr) (n c : Nat) : (Value.slice a n c).cells = #[.slice a n c] := rfl

theorem rel0_sl_cells {Z : FP} {w : World} {own id sz α f xs v S} (h : rel0 Z w (.sl own id sz α f xs) v S) : isCell v := by
  simp only [rel0] at h; obtain ⟨a, n, c, e, _⟩ := h; subst e; trivial

mutual
theorem copy_rel {Z : FP} {η : Nat → Value} {w : World} : ∀ (a : AV) (v : Value) (S : FP), relS Z η w a v S → relS Z η w (copyAV a) v (fun _ => False)
  | .al id, v, S, h => by simp only [relS, copyAV] at h ⊢; exact ⟨h.1, h.2.1, emp_false⟩
  | .hole id, v, S, h => by simp only [relS, copyAV] at h ⊢; exact ⟨h.1, h.2.1, emp_false⟩
  | .po id _ _ _, v, S, h => by simp only [relS, copyAV] at h ⊢; exact ⟨h.1, emp_false⟩
  | .agg fs, v, S, h => by
    simp only [relS, copyAV] at h ⊢; obtain ⟨cs, e, h⟩ := h; exact ⟨cs, e, copyL_rel fs cs S h⟩
  | .tup fs, v, S, h => by
    simp only [relS, copyAV] at h ⊢; obtain ⟨cs, e, h⟩ := h; exact ⟨cs, e, copyL_rel fs cs S h⟩
  | .clo _ fs, v, S, h => by
    simp only [relS, copyAV] at h ⊢; obtain ⟨cs, e, h⟩ := h; exact ⟨cs, e, copyL_rel fs cs S h⟩
  | .box id c, v, S, h => by
    simp only [relS, copyAV] at h ⊢
    obtain ⟨e0, b, arr, ty, S1, e, _⟩ := h
    exact ⟨e0, by rw [e]; trivial, emp_false⟩
  | .sl true id sz α f xs, v, S, h => by
    simp only [relS, copyAV] at h ⊢
    exact ⟨h.1 trivial, rel0_sl_cells h.2, emp_false⟩
  | .sl false id sz α f xs, v, S, h => by
    simp only [relS, copyAV] at h ⊢
    refine ⟨fun o => by simp at o, ?_⟩
    have h := h.2
    have he : emp S := by
      simp only [rel0] at h
      obtain ⟨a, n, c, e, hn, hc, h⟩ := h
      rcases h with ⟨ho, _⟩ | ⟨_, he, _⟩
      · simp at ho
      · exact he
    rwa [emp_eq he] at h
  | .int _ _, v, S, h => by simp only [relS, copyAV, rel0] at h ⊢; exact ⟨h.1, emp_false⟩
  | .bool _, v, S, h => by simp only [relS, copyAV, rel0] at h ⊢; exact ⟨h.1, emp_false⟩
  | .str _, v, S, h => by simp only [relS, copyAV, rel0] at h ⊢; exact ⟨h.1, emp_false⟩
  | .val _, v, S, h => by simp only [relS, copyAV, rel0] at h ⊢; exact ⟨h.1, h.2.1, emp_false⟩
  | .any, v, S, h => by simp only [relS, copyAV, rel0] at h ⊢; exact ⟨h.1, emp_false⟩
  | .top, v, S, h => by simp only [relS, copyAV, rel0] at h ⊢; exact emp_false
  | .nil, v, S, h => by simp only [relS, copyAV, rel0] at h ⊢; exact ⟨h.1, emp_false⟩
  | .pf _, v, S, h => by simp only [relS, copyAV, rel0] at h ⊢; exact ⟨emp_false, h.2⟩
theorem copyL_rel {Z : FP} {η : Nat → Value} {w : World} : ∀ (as : List AV) (cs : List Value) (S : FP), relSL Z η w as cs S → relSL Z η w (copyL as) cs (fun _ => False)
  | [], cs, S, h => by simp only [relSL, copyL] at h ⊢; exact ⟨h.1, emp_false⟩
  | a :: as, cs, S, h => by
    simp only [relSL, copyL] at h ⊢
    obtain ⟨v, cs', A, B, e, hj, h1, h2⟩ := h
    exact ⟨v, cs', _, _, e, join_emp_left _, copy_rel a v A h1, copyL_rel as cs' B h2⟩
end

mutual
theorem copy_ids {n : Nat} : ∀ a : AV, idsB n a → idsB n (copyAV a)
  | .al _, h => h
  | .hole _, h => h
  | .po _ _ _ _, h => h
  | .agg fs, h => by simp only [idsB, copyAV] at h ⊢; exact copyL_ids fs h
  | .tup fs, h => by simp only [idsB, copyAV] at h ⊢; exact copyL_ids fs h
  | .clo _ fs, h => by simp only [idsB, copyAV] at h ⊢; exact copyL_ids fs h
  | .box id c, h => by simp only [idsB, copyAV] at h ⊢; exact h.1
  | .sl true id sz α f xs, h => by simp only [idsB, copyAV] at h ⊢; exact h trivial
  | .sl false id sz α f xs, h => h
  | .int _ _, h => h
  | .bool _, h => h
  | .str _, h => h
  | .val _, h => h
  | .any, h => h
  | .top, h => h
  | .nil, h => h
  | .pf _, h => h
theorem copyL_ids {n : Nat} : ∀ as : List AV, idsBL n as → idsBL n (copyL as)
  | [], h => h
  | a :: as, h => by simp only [idsBL, copyL] at h ⊢; exact ⟨copy_ids a h.1, copyL_ids as h.2⟩
end

/- one slot looked at, and another thing put there -/
theorem focus {Z : FP} {η : Nat → Value} {w : World} : ∀ (as : List AV) (vs : List Value) (S : FP) (i : Nat) (a : AV), relSL Z η w as vs S → as[i]? = some a →
    ∃ v A B, vs[i]? = some v ∧ relS Z η w a v A ∧ join S A B ∧
      ∀ a' v' A' S', relS Z η w a' v' A' → join S' A' B → relSL Z η w (as.set i a') (vs.set i v') S'
  | [], vs, S, i, a, h, hi => by simp at hi
  | x :: as, vs, S, 0, a, h, hi => by
    simp only [relSL] at h
    obtain ⟨v, cs', A, B, e, hj, h1, h2⟩ := h
    simp at hi; subst hi; subst e
    refine ⟨v, A, B, rfl, h1, hj, fun a' v' A' S' hr hj' => ?_⟩
    simp only [List.set, relSL]
    exact ⟨v', cs', A', B, rfl, hj', hr, h2⟩
  | x :: as, vs, S, i + 1, a, h, hi => by
    simp only [relSL] at h
    obtain ⟨v, cs', A, B, e, hj, h1, h2⟩ := h
    subst e
    obtain ⟨u, C, D, hu, hr, hj2, hk⟩ := focus as cs' B i a h2 (by simpa using hi)
    obtain ⟨E, hE, hEA⟩ := join_assoc hj hj2
    obtain ⟨E', hE', hE2⟩ := join_assoc hj (join_comm hj2)
    have hcd : join (fun b => A b ∨ D b) A D := ⟨fun _ => Iff.rfl, fun b x y => hj.2 b x ((hj2.1 b).2 (.inr y))⟩
    refine ⟨u, C, fun b => A b ∨ D b, by simpa using hu, hr, ⟨fun b => ?_, fun b x y => ?_⟩, fun a' v' A' S' hr' hj' => ?_⟩
    · rw [hj.1 b, hj2.1 b]; exact ⟨fun h => h.elim (fun h => .inr (.inl h)) (fun h => h.elim .inl (fun h => .inr (.inr h))), fun h => h.elim (fun h => .inr (.inl h)) (fun h => h.elim .inl (fun h => .inr (.inr h)))⟩
    · exact y.elim (fun y => hj.2 b y ((hj2.1 b).2 (.inl x))) (fun y => hj2.2 b x y)
    · simp only [List.set, relSL]
      refine ⟨v, cs'.set i v', A, fun b => A' b ∨ D b, rfl, ⟨fun b => ?_, fun b x y => ?_⟩, h1, hk a' v' A' _ hr' ⟨fun _ => Iff.rfl, fun b x y => hj'.2 b x (.inr y)⟩⟩
      · rw [hj'.1 b]; exact ⟨fun h => h.elim (fun h => .inr (.inl h)) (fun h => h.elim .inl (fun h => .inr (.inr h))), fun h => h.elim (fun h => .inr (.inl h)) (fun h => h.elim .inl (fun h => .inr (.inr h)))⟩
      · exact y.elim (fun y => hj'.2 b y (.inl x)) (fun y => hcd.2 b x y)

theorem relSL_len {Z : FP} {η : Nat → Value} {w : World} : ∀ (as : List AV) (vs : List Value) (S : FP), relSL Z η w as vs S → vs.length = as.length
  | [], vs, S, h => by simp only [relSL] at h; simp [h.1]
  | a :: as, vs, S, h => by
    simp only [relSL] at h
    obtain ⟨v, cs', A, B, e, hj, h1, h2⟩ := h
    subst e; simp [relSL_len as cs' B h2]

/- a value put into a slot; what stood there is forgotten -/
theorem relSL_put {Z : FP} {η : Nat → Value} {w : World} {as : List AV} {vs : List Value} {S : FP} (h : relSL Z η w as vs S) (i : Nat) {a' : AV} {v' : Value}
    (hr : relS Z η w a' v' (fun _ => False)) : ∃ S', (∀ b, S' b → S b) ∧ relSL Z η w (as.set i a') (vs.set i v') S' := by
  rcases Nat.lt_or_ge i as.length with hi | hi
  · obtain ⟨v, A, B, hv, h1, hj, hk⟩ := focus as vs S i as[i] h (by simp)
    exact ⟨B, fun b hb => (hj.1 b).2 (.inr hb), hk a' v' _ B hr (join_emp_left B)⟩
  · rw [List.set_eq_of_length_le hi, List.set_eq_of_length_le (by rw [relSL_len _ _ _ h]; exact hi)]
    exact ⟨S, fun _ h => h, h⟩

/- the same where what is put has blocks of its own -/
theorem relSL_put_own {Z : FP} {η : Nat → Value} {w : World} {as : List AV} {vs : List Value} {S : FP} (h : relSL Z η w as vs S) {i : Nat} (hi : i < as.length) {a' : AV} {v' : Value}
    {A' : FP} (hr : relS Z η w a' v' A') (hd : ∀ b, A' b → ¬ S b) : ∃ S', (∀ b, S' b → S b ∨ A' b) ∧ relSL Z η w (as.set i a') (vs.set i v') S' := by
  obtain ⟨v, A, B, hv, h1, hj, hk⟩ := focus as vs S i as[i] h (by simp)
  refine ⟨fun b => A' b ∨ B b, fun b hb => hb.elim .inr (fun hb => .inl ((hj.1 b).2 (.inr hb))), hk a' v' A' _ hr ⟨fun _ => Iff.rfl, fun b x y => hd b x ((hj.1 b).2 (.inr y))⟩⟩

theorem idsBL_get {n : Nat} : ∀ (as : List AV) (i : Nat) (a : AV), idsBL n as → as[i]? = some a → idsB n a
  | [], i, a, _, hi => by simp at hi
  | x :: as, 0, a, h, hi => by simp at hi; subst hi; exact h.1
  | x :: as, i + 1, a, h, hi => idsBL_get as i a h.2 (by simpa using hi)
theorem idsBL_set {n : Nat} : ∀ (as : List AV) (i : Nat) (a : AV), idsBL n as → idsB n a → idsBL n (as.set i a)
  | [], i, a, h, _ => h
  | x :: as, 0, a, h, ha => ⟨ha, h.2⟩
  | x :: as, i + 1, a, h, ha => ⟨h.1, idsBL_set as i a h.2 ha⟩

end Go.Eng
