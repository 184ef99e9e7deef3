/- What is handed on: moved, lent, or given up for reading alone. -/
import Derived.Test.YtinkjpfkemkhaaaDoorEngH
set_option linter.unusedVariables false
set_option linter.unusedSimpArgs false
namespace Go.Eng

mutual
def fz : AV → AV
  | .sl _ _ sz α f xs => .sl false 0 sz α (fun x => fzL (f x)) xs
  | .box _ _ => .any
  | .clo _ _ => .any
  | .agg fs => .agg (fzL fs)
  | .tup fs => .tup (fzL fs)
  | a => a
def fzL : List AV → List AV
  | [] => []
  | a :: as => fz a :: fzL as
end

theorem cell_lt {w : World} {b : Nat} {o : Obj} (h : w.heap[b]? = some o) : b < w.heap.size := by
  rcases Nat.lt_or_ge b w.heap.size with hh | hh
  · exact hh
  · simp [Array.getElem?_eq_none hh] at h

theorem Rows_map {α : Type} {sz : Nat} {R R' : α → List Value → FP → Prop} : ∀ (xs : List α) (cs : List Value) (S : FP),
    (∀ x cs A, (∀ b, A b → S b) → R x cs A → R' x cs (fun _ => False)) → Rows sz R xs cs S → Rows sz R' xs cs (fun _ => False)
  | [], _, _, _, h => emp_false
  | x :: xs, cs, S, hr, h => by
    obtain ⟨A, B, hj, hl, h1, h2⟩ := h
    exact ⟨_, _, join_emp_left _, hl, hr _ _ _ (fun b hb => (hj.1 b).2 (.inl hb)) h1, Rows_map xs _ B (fun x cs A' hA => hr x cs A' (fun b hb => (hj.1 b).2 (.inr (hA b hb)))) h2⟩

mutual
theorem fz_rel {Z Z' : FP} {w : World} (hZ : ∀ b, ¬ Z b → ¬ Z' b) : ∀ (a : AV) (v : Value) (S : FP), (∀ b, S b → ¬ Z' b) → rel0 Z w a v S → rel0 Z' w (fz a) v (fun _ => False)
  | .int _ _, v, S, hS, h => by simp only [rel0, fz] at h ⊢; exact ⟨h.1, emp_false⟩
  | .bool _, v, S, hS, h => by simp only [rel0, fz] at h ⊢; exact ⟨h.1, emp_false⟩
  | .str _, v, S, hS, h => by simp only [rel0, fz] at h ⊢; exact ⟨h.1, emp_false⟩
  | .val _, v, S, hS, h => by simp only [rel0, fz] at h ⊢; exact ⟨h.1, h.2.1, emp_false⟩
  | .any, v, S, hS, h => by simp only [rel0, fz] at h ⊢; exact ⟨h.1, emp_false⟩
  | .top, v, S, hS, h => by simp only [rel0, fz] at h ⊢; exact emp_false
  | .nil, v, S, hS, h => by simp only [rel0, fz] at h ⊢; exact ⟨h.1, emp_false⟩
  | .hole _, v, S, hS, h => by simp only [rel0] at h
  | .al _, v, S, hS, h => by simp only [rel0] at h
  | .po _ _ _ _, v, S, hS, h => by simp only [rel0] at h
  | .agg fs, v, S, hS, h => by simp only [rel0, fz] at h ⊢; obtain ⟨cs, e, h⟩ := h; exact ⟨cs, e, fzL_rel hZ fs cs S hS h⟩
  | .tup fs, v, S, hS, h => by simp only [rel0, fz] at h ⊢; obtain ⟨cs, e, h⟩ := h; exact ⟨cs, e, fzL_rel hZ fs cs S hS h⟩
  | .clo _ _, v, S, hS, h => by simp only [rel0, fz] at h ⊢; obtain ⟨cs, e, h⟩ := h; exact ⟨by rw [e]; trivial, emp_false⟩
  | .box _ _, v, S, hS, h => by simp only [rel0, fz] at h ⊢; obtain ⟨b, arr, ty, S1, e, _⟩ := h; exact ⟨by rw [e]; trivial, emp_false⟩
  | .pf c, v, S, hS, h => by
    simp only [rel0, fz] at h ⊢
    obtain ⟨he, b, off, arr, ty, fr, cs, rest, S1, e, hz, hb, hd, hr, h1⟩ := h
    exact ⟨emp_false, b, off, arr, ty, fr, cs, rest, S1, e, hZ b hz, hb, hd, rel0L_mono (fun b hb _ => ⟨hZ b hb, rfl⟩) _ _ _ (fun _ _ => rfl) hr, h1⟩
  | .sl own _ sz α f xs, v, S, hS, h => by
    simp only [rel0, fz] at h ⊢
    obtain ⟨a, n, c, e, hn, hc, h⟩ := h
    refine ⟨a, n, c, e, hn, hc, .inr ⟨trivial, emp_false, ?_⟩⟩
    rcases h with ⟨ho, h⟩ | ⟨ho, he, h⟩
    · rcases h with ⟨ha, hc0, _⟩ | ⟨b, off, arr, ty, S1, ha, hb, hsz, hr, hj⟩
      · left; cases xs with
        | nil => rfl
        | cons x xs => simp at hn; omega
      · right
        refine ⟨b, off, arr, ty, (0, 0), ha, hS b ((hj.1 b).2 (.inl rfl)), hb, ?_⟩
        exact Rows_map xs _ S1 (fun x cs A hA hx => fzL_rel hZ (f x) cs A (fun b hb => hS b ((hj.1 b).2 (.inr (hA b hb)))) hx) hr
    · rcases h with h | ⟨b, off, arr, ty, fr, ha, hz, hb, hr⟩
      · exact .inl h
      · refine .inr ⟨b, off, arr, ty, fr, ha, hZ b hz, hb, ?_⟩
        exact Rows_map xs _ S (fun x cs A hA hx => fzL_rel hZ (f x) cs A (fun b hb => hS b (hA b hb)) hx) hr
theorem fzL_rel {Z Z' : FP} {w : World} (hZ : ∀ b, ¬ Z b → ¬ Z' b) : ∀ (as : List AV) (cs : List Value) (S : FP), (∀ b, S b → ¬ Z' b) → rel0L Z w as cs S → rel0L Z' w (fzL as) cs (fun _ => False)
  | [], cs, S, hS, h => by simp only [rel0L, fzL] at h ⊢; exact ⟨h.1, emp_false⟩
  | a :: as, cs, S, hS, h => by
    simp only [rel0L, fzL] at h ⊢
    obtain ⟨v, cs', A, B, e, hj, h1, h2⟩ := h
    exact ⟨v, cs', _, _, e, join_emp_left _, fz_rel hZ a v A (fun b hb => hS b ((hj.1 b).2 (.inl hb))) h1, fzL_rel hZ as cs' B (fun b hb => hS b ((hj.1 b).2 (.inr hb))) h2⟩
end

/- every name of an owner replaced by what can be read there -/
mutual
def subO (id : Nat) (g : AV) : AV → AV
  | .hole i => match Nat.beq i id with | true => g | false => .hole i
  | .al i => match Nat.beq i id with | true => g | false => .al i
  | .box i c => .box i (subL id g c)
  | .agg fs => .agg (subL id g fs)
  | .tup fs => .tup (subL id g fs)
  | .clo fn fs => .clo fn (subL id g fs)
  | a => a
def subL (id : Nat) (g : AV) : List AV → List AV
  | [] => []
  | a :: as => subO id g a :: subL id g as
end
mutual
theorem subO_ok {Z : FP} {η : Nat → Value} {w : World} {id : Nat} {g : AV} (hg : relS Z η w g (η id) (fun _ => False)) : ∀ (a : AV) (v : Value) (S : FP), relS Z η w a v S → relS Z η w (subO id g a) v S
  | .hole i, v, S, h => by
    simp only [subO]; split
    · rename_i hb; have := Nat.eq_of_beq_eq_true hb; subst this
      simp only [relS] at h; rw [h.1, emp_eq h.2.2]; exact hg
    · exact h
  | .al i, v, S, h => by
    simp only [subO]; split
    · rename_i hb; have := Nat.eq_of_beq_eq_true hb; subst this
      simp only [relS] at h; rw [h.1, emp_eq h.2.2]; exact hg
    · exact h
  | .box i c, v, S, h => by
    simp only [relS, subO] at h ⊢
    obtain ⟨e0, b, arr, ty, S1, e, hb, hr, hj⟩ := h
    exact ⟨e0, b, arr, ty, S1, e, hb, subL_ok hg c _ S1 hr, hj⟩
  | .agg fs, v, S, h => by simp only [relS, subO] at h ⊢; obtain ⟨cs, e, h⟩ := h; exact ⟨cs, e, subL_ok hg fs cs S h⟩
  | .tup fs, v, S, h => by simp only [relS, subO] at h ⊢; obtain ⟨cs, e, h⟩ := h; exact ⟨cs, e, subL_ok hg fs cs S h⟩
  | .clo fn fs, v, S, h => by simp only [relS, subO] at h ⊢; obtain ⟨cs, e, h⟩ := h; exact ⟨cs, e, subL_ok hg fs cs S h⟩
  | .sl _ _ _ _ _ _, v, S, h => h
  | .int _ _, v, S, h => h
  | .bool _, v, S, h => h
  | .str _, v, S, h => h
  | .val _, v, S, h => h
  | .any, v, S, h => h
  | .top, v, S, h => h
  | .nil, v, S, h => h
  | .po _ _ _ _, v, S, h => h
  | .pf _, v, S, h => h
theorem subL_ok {Z : FP} {η : Nat → Value} {w : World} {id : Nat} {g : AV} (hg : relS Z η w g (η id) (fun _ => False)) : ∀ (as : List AV) (cs : List Value) (S : FP), relSL Z η w as cs S → relSL Z η w (subL id g as) cs S
  | [], cs, S, h => h
  | a :: as, cs, S, h => by
    simp only [relSL, subL] at h ⊢
    obtain ⟨v, cs', A, B, e, hj, h1, h2⟩ := h
    exact ⟨v, cs', A, B, e, hj, subO_ok hg a v A h1, subL_ok hg as cs' B h2⟩
end
mutual
theorem subO_ids {n id : Nat} {g : AV} (hg : idsB n g) : ∀ (a : AV), idsB n a → idsB n (subO id g a)
  | .hole i, h => by simp only [subO]; split <;> first | exact hg | exact h
  | .al i, h => by simp only [subO]; split <;> first | exact hg | exact h
  | .box i c, h => by simp only [idsB, subO] at h ⊢; exact ⟨h.1, subL_ids hg c h.2⟩
  | .agg fs, h => by simp only [idsB, subO] at h ⊢; exact subL_ids hg fs h
  | .tup fs, h => by simp only [idsB, subO] at h ⊢; exact subL_ids hg fs h
  | .clo fn fs, h => by simp only [idsB, subO] at h ⊢; exact subL_ids hg fs h
  | .sl _ _ _ _ _ _, h => h
  | .int _ _, h => h
  | .bool _, h => h
  | .str _, h => h
  | .val _, h => h
  | .any, h => h
  | .top, h => h
  | .nil, h => h
  | .po _ _ _ _, h => h
  | .pf _, h => h
theorem subL_ids {n id : Nat} {g : AV} (hg : idsB n g) : ∀ (as : List AV), idsBL n as → idsBL n (subL id g as)
  | [], h => h
  | a :: as, h => by simp only [idsBL, subL] at h ⊢; exact ⟨subO_ids hg a h.1, subL_ids hg as h.2⟩
end

def fnEq : Fn → Fn → Bool
  | .func a, .func b => Nat.beq a b
  | _, _ => false
theorem fnEq_eq {a b : Fn} (h : fnEq a b = true) : a = b := by
  cases a <;> cases b <;> simp only [fnEq, Bool.false_eq_true] at h
  rw [Nat.eq_of_beq_eq_true h]
/- hand over: e is what is expected, a what is there. bw: what is only read is lent; else it is given up for reading alone. -/
mutual
def hand1 (bw : Bool) : AV → List AV → AV → (List AV → Prop) → Prop
  | .int k n, regs, a, K => match a with
    | .int k' m => match ikEq k k' with
      | true => m = n ∧ K regs
      | false => False
    | _ => False
  | .bool b, regs, a, K => match a with
    | .bool c => c = b ∧ K regs
    | _ => False
  | .str l, regs, a, K => match a with
    | .str m => m = l ∧ K regs
    | _ => False
  | .val v, regs, a, K => match a with
    | .val u => u = v ∧ K regs
    | _ => False
  | .nil, regs, a, K => match a with
    | .nil => K regs
    | _ => False
  | .any, regs, a, K => match isLeaf a with
    | true => K regs
    | false => False
  | .top, regs, a, K => K regs
  | .agg es, regs, a, K => match a with
    | .agg as => handL bw es regs as K
    | _ => False
  | .tup es, regs, a, K => match a with
    | .tup as => handL bw es regs as K
    | _ => False
  | .clo fn es, regs, a, K => match a with
    | .clo fn' as => match fnEq fn' fn with
      | true => handL bw es regs as K
      | false => False
    | _ => False
  | .pf c, regs, a, K => match a with
    | .pf c' => AV.pf c' = AV.pf c ∧ K regs
    | _ => False
  | .box _ c, regs, a, K => match a with
    | .box _ c' => handL bw c regs c' K
    | .al id => match bw with
      | true => False
      | false => match takeL id regs with
        | some (.box _ c', regs') => handL bw c regs' c' K
        | _ => False
    | _ => False
  | .sl true _ sz α f xs, regs, a, K => match a with
    | .nil => xs = [] ∧ K regs
    | .sl true _ sz' α' f' xs' => AV.sl true 0 sz' α' f' xs' = AV.sl true 0 sz α f xs ∧ K regs
    | .al id => match bw with
      | true => False
      | false => match takeL id regs with
        | some (.sl true _ sz' α' f' xs', regs') => AV.sl true 0 sz' α' f' xs' = AV.sl true 0 sz α f xs ∧ K regs'
        | _ => False
    | _ => False
  | .sl false _ sz α f xs, regs, a, K => match a with
    | .nil => xs = [] ∧ K regs
    | .sl false _ sz' α' f' xs' => AV.sl false 0 sz' α' f' xs' = AV.sl false 0 sz α f xs ∧ K regs
    | .sl true _ sz' α' f' xs' => AV.sl false 0 sz' α' (fun x => fzL (f' x)) xs' = AV.sl false 0 sz α f xs ∧ K regs
    | .al id => match bw with
      | true => match findL id regs with
        | some (.sl true _ sz' α' f' xs') => AV.sl false 0 sz' α' (fun x => fzL (f' x)) xs' = AV.sl false 0 sz α f xs ∧ K regs
        | _ => False
      | false => match takeL id regs with
        | some (.sl true _ sz' α' f' xs', regs') => AV.sl false 0 sz' α' (fun x => fzL (f' x)) xs' = AV.sl false 0 sz α f xs ∧
            K (subL id (.sl false 0 sz' α' (fun x => fzL (f' x)) xs') regs')
        | _ => False
    | _ => False
  | .hole _, _, _, _ => False
  | .al _, _, _, _ => False
  | .po _ _ _ _, _, _, _ => False
def handL (bw : Bool) : List AV → List AV → List AV → (List AV → Prop) → Prop
  | [], regs, as, K => match as with
    | [] => K regs
    | _ :: _ => False
  | e :: es, regs, as, K => match as with
    | [] => False
    | a :: as => hand1 bw e regs a (fun regs' => handL bw es regs' as K)
end

theorem sl_eq_own {Z : FP} {w : World} {i j sz sz' : Nat} {α α' : Type} {f : α → List AV} {f' : α' → List AV} {xs : List α} {xs' : List α'} {v : Value} {S : FP} {own : Bool}
    (he : AV.sl own 0 sz' α' f' xs' = AV.sl own 0 sz α f xs) (h : rel0 Z w (.sl own i sz' α' f' xs') v S) : rel0 Z w (.sl own j sz α f xs) v S := by
  injection he with _ _ h1 h2 h3 h4
  subst h1; subst h2
  have h3 := eq_of_heq h3; have h4 := eq_of_heq h4
  subst h3; subst h4
  simpa only [rel0] using h

theorem join_drop {S A B : FP} (h : join S A B) {A' : FP} (hA : ∀ b, A' b → A b) : join (fun b => A' b ∨ B b) A' B := ⟨fun _ => Iff.rfl, fun b x y => h.2 b (hA b x) y⟩

/- what comes of a hand-over -/
structure Handed (Z Z' : FP) (S A B : FP) : Prop where
  zz : ∀ b, Z' b → Z b
  gone : ∀ b, Z b → ¬ Z' b → S b
  part : ∀ b, A b ∨ B b → S b
  dis : ∀ b, A b → B b → False
  ownA : ∀ b, A b → Z b → Z' b

end Go.Eng
