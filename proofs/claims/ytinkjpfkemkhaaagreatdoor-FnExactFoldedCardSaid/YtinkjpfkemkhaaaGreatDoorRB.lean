/- A part of the proof: the engine and the contracts, joined. -/
import Derived.Test.YtinkjpfkemkhaaaGreatDoorRA
section
/- What is handed on: moved, lent, or given up for reading alone. -/
set_option linter.unusedVariables false
set_option linter.unusedSimpArgs false
namespace Go.Eng

mutual
def fz : AV → AV
  | .sl _ _ sz α f xs => .sl false 0 sz α (fun x => fzL (f x)) xs
  | .box _ _ => .any
  | .clo _ _ => .any
  | .agg fs => .agg (fzL fs)
  | .tup fs => .tup (fzL fs)
  | a => a
def fzL : List AV → List AV
  | [] => []
  | a :: azs => fz a :: fzL azs
end

theorem cell_lt {w : World} {b : Nat} {o : Obj} (h : w.heap[b]? = some o) : b < w.heap.size := by
  rcases Nat.lt_or_ge b w.heap.size with hh | hh
  · exact hh
  · simp [Array.getElem?_eq_none hh] at h

theorem Rows_map {α : Type} {sz : Nat} {R R' : α → List Value → FP → Prop} : ∀ (xs : List α) (cs : List Value) (S : FP),
    (∀ x cs A, (∀ b, A b → S b) → R x cs A → R' x cs (fun _ => False)) → Rows sz R xs cs S → Rows sz R' xs cs (fun _ => False)
  | [], _, _, _, h => emp_false
  | x :: xs, cs, S, hr, h => by
    obtain ⟨A, B, hj, hl, h1, h2⟩ := h
    exact ⟨_, _, join_emp_left _, hl, hr _ _ _ (fun b hb => (hj.1 b).2 (.inl hb)) h1, Rows_map xs _ B (fun x cs A' hA => hr x cs A' (fun b hb => (hj.1 b).2 (.inr (hA b hb)))) h2⟩

mutual
theorem fz_rel {Z Z' : FP} {w : World} (hZ : ∀ b, ¬ Z b → ¬ Z' b) : ∀ (a : AV) (v : Value) (S : FP), (∀ b, S b → ¬ Z' b) → rel0 Z w a v S → rel0 Z' w (fz a) v (fun _ => False)
  | .int _ _, v, S, hS, h => by simp only [rel0, fz] at h ⊢; exact ⟨h.1, emp_false⟩
  | .bool _, v, S, hS, h => by simp only [rel0, fz] at h ⊢; exact ⟨h.1, emp_false⟩
  | .str _, v, S, hS, h => by simp only [rel0, fz] at h ⊢; exact ⟨h.1, emp_false⟩
  | .val _, v, S, hS, h => by simp only [rel0, fz] at h ⊢; exact ⟨h.1, h.2.1, emp_false⟩
  | .any, v, S, hS, h => by simp only [rel0, fz] at h ⊢; exact ⟨h.1, emp_false⟩
  | .top, v, S, hS, h => by simp only [rel0, fz] at h ⊢; exact emp_false
  | .nil, v, S, hS, h => by simp only [rel0, fz] at h ⊢; exact ⟨h.1, emp_false⟩
  | .hole _, v, S, hS, h => by simp only [rel0] at h
  | .al _, v, S, hS, h => by simp only [rel0] at h
  | .po _ _ _ _, v, S, hS, h => by simp only [rel0] at h
  | .agg fs, v, S, hS, h => by simp only [rel0, fz] at h ⊢; obtain ⟨cs, e, h⟩ := h; exact ⟨cs, e, fzL_rel hZ fs cs S hS h⟩
  | .tup fs, v, S, hS, h => by simp only [rel0, fz] at h ⊢; obtain ⟨cs, e, h⟩ := h; exact ⟨cs, e, fzL_rel hZ fs cs S hS h⟩
  | .clo _ _, v, S, hS, h => by simp only [rel0, fz] at h ⊢; obtain ⟨cs, e, h⟩ := h; exact ⟨by rw [e]; trivial, emp_false⟩
  | .box _ _, v, S, hS, h => by simp only [rel0, fz] at h ⊢; obtain ⟨b, arr, ty, S1, e, _⟩ := h; exact ⟨by rw [e]; trivial, emp_false⟩
  | .pf c, v, S, hS, h => by
    simp only [rel0, fz] at h ⊢
    obtain ⟨he, b, off, arr, ty, fr, cs, rest, S1, e, hz, hb, hd, hr, h1⟩ := h
    exact ⟨emp_false, b, off, arr, ty, fr, cs, rest, S1, e, hZ b hz, hb, hd, rel0L_mono (fun b hb _ => ⟨hZ b hb, rfl⟩) _ _ _ (fun _ _ => rfl) hr, h1⟩
  | .sl own _ sz α f xs, v, S, hS, h => by
    simp only [rel0, fz] at h ⊢
    obtain ⟨a, n, c, e, hn, hc, h⟩ := h
    refine ⟨a, n, c, e, hn, hc, .inr ⟨trivial, emp_false, ?_⟩⟩
    rcases h with ⟨ho, h⟩ | ⟨ho, he, h⟩
    · rcases h with ⟨ha, hc0, _⟩ | ⟨b, off, arr, ty, S1, ha, hb, hsz, hr, hj⟩
      · left; cases xs with
        | nil => rfl
        | cons x xs => simp at hn; omega
      · right
        refine ⟨b, off, arr, ty, (0, 0), ha, hS b ((hj.1 b).2 (.inl rfl)), hb, ?_⟩
        exact Rows_map xs _ S1 (fun x cs A hA hx => fzL_rel hZ (f x) cs A (fun b hb => hS b ((hj.1 b).2 (.inr (hA b hb)))) hx) hr
    · rcases h with h | ⟨b, off, arr, ty, fr, ha, hz, hb, hr⟩
      · exact .inl h
      · refine .inr ⟨b, off, arr, ty, fr, ha, hZ b hz, hb, ?_⟩
        exact Rows_map xs _ S (fun x cs A hA hx => fzL_rel hZ (f x) cs A (fun b hb => hS b (hA b hb)) hx) hr
theorem fzL_rel {Z Z' : FP} {w : World} (hZ : ∀ b, ¬ Z b → ¬ Z' b) : ∀ (azs : List AV) (cs : List Value) (S : FP), (∀ b, S b → ¬ Z' b) → rel0L Z w azs cs S → rel0L Z' w (fzL azs) cs (fun _ => False)
  | [], cs, S, hS, h => by simp only [rel0L, fzL] at h ⊢; exact ⟨h.1, emp_false⟩
  | a :: azs, cs, S, hS, h => by
    simp only [rel0L, fzL] at h ⊢
    obtain ⟨v, cs', A, B, e, hj, h1, h2⟩ := h
    exact ⟨v, cs', _, _, e, join_emp_left _, fz_rel hZ a v A (fun b hb => hS b ((hj.1 b).2 (.inl hb))) h1, fzL_rel hZ azs cs' B (fun b hb => hS b ((hj.1 b).2 (.inr hb))) h2⟩
end

/- every name of an owner replaced by what can be read there -/
mutual
def subO (id : Nat) (g : AV) : AV → AV
  | .hole i => match Nat.beq i id with | true => g | false => .hole i
  | .al i => match Nat.beq i id with | true => g | false => .al i
  | .box i c => .box i (subL id g c)
  | .agg fs => .agg (subL id g fs)
  | .tup fs => .tup (subL id g fs)
  | .clo fn fs => .clo fn (subL id g fs)
  | a => a
def subL (id : Nat) (g : AV) : List AV → List AV
  | [] => []
  | a :: azs => subO id g a :: subL id g azs
end
mutual
theorem subO_ok {Z : FP} {η : Nat → Value} {w : World} {id : Nat} {g : AV} (hg : relS Z η w g (η id) (fun _ => False)) : ∀ (a : AV) (v : Value) (S : FP), relS Z η w a v S → relS Z η w (subO id g a) v S
  | .hole i, v, S, h => by
    simp only [subO]; split
    · rename_i hb; have := Nat.eq_of_beq_eq_true hb; subst this
      simp only [relS] at h; rw [h.1, emp_eq h.2.2]; exact hg
    · exact h
  | .al i, v, S, h => by
    simp only [subO]; split
    · rename_i hb; have := Nat.eq_of_beq_eq_true hb; subst this
      simp only [relS] at h; rw [h.1, emp_eq h.2.2]; exact hg
    · exact h
  | .box i c, v, S, h => by
    simp only [relS, subO] at h ⊢
    obtain ⟨e0, b, arr, ty, S1, e, hb, hr, hj⟩ := h
    exact ⟨e0, b, arr, ty, S1, e, hb, subL_ok hg c _ S1 hr, hj⟩
  | .agg fs, v, S, h => by simp only [relS, subO] at h ⊢; obtain ⟨cs, e, h⟩ := h; exact ⟨cs, e, subL_ok hg fs cs S h⟩
  | .tup fs, v, S, h => by simp only [relS, subO] at h ⊢; obtain ⟨cs, e, h⟩ := h; exact ⟨cs, e, subL_ok hg fs cs S h⟩
  | .clo fn fs, v, S, h => by simp only [relS, subO] at h ⊢; obtain ⟨cs, e, h⟩ := h; exact ⟨cs, e, subL_ok hg fs cs S h⟩
  | .sl _ _ _ _ _ _, v, S, h => h
  | .int _ _, v, S, h => h
  | .bool _, v, S, h => h
  | .str _, v, S, h => h
  | .val _, v, S, h => h
  | .any, v, S, h => h
  | .top, v, S, h => h
  | .nil, v, S, h => h
  | .po _ _ _ _, v, S, h => h
  | .pf _, v, S, h => h
theorem subL_ok {Z : FP} {η : Nat → Value} {w : World} {id : Nat} {g : AV} (hg : relS Z η w g (η id) (fun _ => False)) : ∀ (azs : List AV) (cs : List Value) (S : FP), relSL Z η w azs cs S → relSL Z η w (subL id g azs) cs S
  | [], cs, S, h => h
  | a :: azs, cs, S, h => by
    simp only [relSL, subL] at h ⊢
    obtain ⟨v, cs', A, B, e, hj, h1, h2⟩ := h
    exact ⟨v, cs', A, B, e, hj, subO_ok hg a v A h1, subL_ok hg azs cs' B h2⟩
end
mutual
theorem subO_ids {n id : Nat} {g : AV} (hg : idsB n g) : ∀ (a : AV), idsB n a → idsB n (subO id g a)
  | .hole i, h => by simp only [subO]; split <;> first | exact hg | exact h
  | .al i, h => by simp only [subO]; split <;> first | exact hg | exact h
  | .box i c, h => by simp only [idsB, subO] at h ⊢; exact ⟨h.1, subL_ids hg c h.2⟩
  | .agg fs, h => by simp only [idsB, subO] at h ⊢; exact subL_ids hg fs h
  | .tup fs, h => by simp only [idsB, subO] at h ⊢; exact subL_ids hg fs h
  | .clo fn fs, h => by simp only [idsB, subO] at h ⊢; exact subL_ids hg fs h
  | .sl _ _ _ _ _ _, h => h
  | .int _ _, h => h
  | .bool _, h => h
  | .str _, h => h
  | .val _, h => h
  | .any, h => h
  | .top, h => h
  | .nil, h => h
  | .po _ _ _ _, h => h
  | .pf _, h => h
theorem subL_ids {n id : Nat} {g : AV} (hg : idsB n g) : ∀ (azs : List AV), idsBL n azs → idsBL n (subL id g azs)
  | [], h => h
  | a :: azs, h => by simp only [idsBL, subL] at h ⊢; exact ⟨subO_ids hg a h.1, subL_ids hg azs h.2⟩
end

/- what is told without names -/
def plainB : AV → Bool
  | .int _ _ => true
  | .bool _ => true
  | .str _ => true
  | .val _ => true
  | .any => true
  | .nil => true
  | .pf _ => true
  | .sl _ _ _ _ _ _ => true
  | _ => false
def plainL : List AV → Bool
  | [] => true
  | a :: azs => match plainB a with
    | true => plainL azs
    | false => false
theorem plain_rel {Z : FP} {η : Nat → Value} {w : World} {a : AV} {v : Value} {S : FP} (hp : plainB a = true) (h : relS Z η w a v S) : rel0 Z w a v S := by
  cases a <;> simp only [plainB, Bool.false_eq_true] at hp <;> simp only [relS] at h <;> first | exact h | exact h.2
theorem plainL_rel {Z : FP} {η : Nat → Value} {w : World} : ∀ {azs : List AV} {cs : List Value} {S : FP}, plainL azs = true → relSL Z η w azs cs S → rel0L Z w azs cs S
  | [], cs, S, _, h => by simp only [relSL] at h; simp only [rel0L]; exact h
  | a :: azs, cs, S, hp, h => by
    unfold plainL at hp
    split at hp
    · rename_i ha
      simp only [relSL] at h
      obtain ⟨v, cs', A, B, e, hj, h1, h2⟩ := h
      simp only [rel0L]
      exact ⟨v, cs', A, B, e, hj, plain_rel ha h1, plainL_rel hp h2⟩
    · cases hp
theorem frz_box {Z : FP} {η : Nat → Value} {w : World} {i : Nat} {c : List AV} {v : Value} {A : FP} (hp : plainL c = true) (h : relS Z η w (.box i c) v A) :
    rel0 (fun b => Z b ∧ ¬ A b) w (.pf (fzL c)) v (fun _ => False) := by
  simp only [relS] at h
  obtain ⟨e0, b, arr, ty, S1, e, hb, hr, hj⟩ := h
  have hr' := fzL_rel (Z' := fun b => Z b ∧ ¬ A b) (fun b hb x => hb x.1) c arr.toList S1 (fun x hx y => y.2 ((hj.1 x).2 (.inr hx))) (plainL_rel hp hr)
  simp only [rel0]
  exact ⟨emp_false, b, 0, arr, ty, _, arr.toList, [], _, e, fun x => x.2 ((hj.1 b).2 (.inl rfl)), hb, by simp, hr', emp_false⟩

def fnEq : Fn → Fn → Bool
  | .func a, .func b => Nat.beq a b
  | _, _ => false
theorem fnEq_eq {a b : Fn} (h : fnEq a b = true) : a = b := by
  cases a <;> cases b <;> simp only [fnEq, Bool.false_eq_true] at h
  rw [Nat.eq_of_beq_eq_true h]
/- hand over: e is what is expected, a what is there. bw: what is only read is lent; else it is given up for reading alone. -/
mutual
def hand1 (bw : Bool) : AV → List AV → AV → (List AV → Prop) → Prop
  | .int k n, regs, a, K => match a with
    | .int k' m => match ikEq k k' with
      | true => m = n ∧ K regs
      | false => False
    | _ => False
  | .bool b, regs, a, K => match a with
    | .bool c => c = b ∧ K regs
    | _ => False
  | .str l, regs, a, K => match a with
    | .str m => m = l ∧ K regs
    | _ => False
  | .val v, regs, a, K => match a with
    | .val u => u = v ∧ K regs
    | _ => False
  | .nil, regs, a, K => match a with
    | .nil => K regs
    | _ => False
  | .any, regs, a, K => match isLeaf a with
    | true => K regs
    | false => False
  | .top, regs, a, K => K regs
  | .agg es, regs, a, K => match a with
    | .agg azs => handL bw es regs azs K
    | _ => False
  | .tup es, regs, a, K => match a with
    | .tup azs => handL bw es regs azs K
    | _ => False
  | .clo fn es, regs, a, K => match a with
    | .clo fn' azs => match fnEq fn' fn with
      | true => handL bw es regs azs K
      | false => False
    | _ => False
  | .pf c, regs, a, K => match a with
    | .pf c' => AV.pf c' = AV.pf c ∧ K regs
    | .al id => match bw with
      | true => match findL id regs with
        | some (.box _ c') => match plainL c' with
          | true => AV.pf (fzL c') = AV.pf c ∧ K regs
          | false => False
        | _ => False
      | false => match takeL id regs with
        | some (.box _ c', regs') => match plainL c' with
          | true => AV.pf (fzL c') = AV.pf c ∧ K (subL id (.pf (fzL c')) regs')
          | false => False
        | _ => False
    | _ => False
  | .box _ c, regs, a, K => match a with
    | .box _ c' => handL bw c regs c' K
    | .al id => match bw with
      | true => False
      | false => match takeL id regs with
        | some (.box _ c', regs') => handL bw c regs' c' K
        | _ => False
    | _ => False
  | .sl true _ sz α f xs, regs, a, K => match a with
    | .nil => xs = [] ∧ K regs
    | .sl true _ sz' α' f' xs' => AV.sl true 0 sz' α' f' xs' = AV.sl true 0 sz α f xs ∧ K regs
    | .al id => match bw with
      | true => False
      | false => match takeL id regs with
        | some (.sl true _ sz' α' f' xs', regs') => AV.sl true 0 sz' α' f' xs' = AV.sl true 0 sz α f xs ∧ K regs'
        | _ => False
    | _ => False
  | .sl false _ sz α f xs, regs, a, K => match a with
    | .nil => xs = [] ∧ K regs
    | .sl false _ sz' α' f' xs' => AV.sl false 0 sz' α' f' xs' = AV.sl false 0 sz α f xs ∧ K regs
    | .sl true _ sz' α' f' xs' => AV.sl false 0 sz' α' (fun x => fzL (f' x)) xs' = AV.sl false 0 sz α f xs ∧ K regs
    | .al id => match bw with
      | true => match findL id regs with
        | some (.sl true _ sz' α' f' xs') => AV.sl false 0 sz' α' (fun x => fzL (f' x)) xs' = AV.sl false 0 sz α f xs ∧ K regs
        | _ => False
      | false => match takeL id regs with
        | some (.sl true _ sz' α' f' xs', regs') => AV.sl false 0 sz' α' (fun x => fzL (f' x)) xs' = AV.sl false 0 sz α f xs ∧
            K (subL id (.sl false 0 sz' α' (fun x => fzL (f' x)) xs') regs')
        | _ => False
    | _ => False
  | .hole _, _, _, _ => False
  | .al _, _, _, _ => False
  | .po _ _ _ _, _, _, _ => False
def handL (bw : Bool) : List AV → List AV → List AV → (List AV → Prop) → Prop
  | [], regs, azs, K => match azs with
    | [] => K regs
    | _ :: _ => False
  | e :: es, regs, azs, K => match azs with
    | [] => False
    | a :: azs => hand1 bw e regs a (fun regs' => handL bw es regs' azs K)
end

theorem sl_eq_own {Z : FP} {w : World} {i j sz sz' : Nat} {α α' : Type} {f : α → List AV} {f' : α' → List AV} {xs : List α} {xs' : List α'} {v : Value} {S : FP} {own : Bool}
    (he : AV.sl own 0 sz' α' f' xs' = AV.sl own 0 sz α f xs) (h : rel0 Z w (.sl own i sz' α' f' xs') v S) : rel0 Z w (.sl own j sz α f xs) v S := by
  injection he with _ _ h1 h2 h3 h4
  subst h1; subst h2
  have h3 := eq_of_heq h3; have h4 := eq_of_heq h4
  subst h3; subst h4
  simpa only [rel0] using h

theorem join_drop {S A B : FP} (h : join S A B) {A' : FP} (hA : ∀ b, A' b → A b) : join (fun b => A' b ∨ B b) A' B := ⟨fun _ => Iff.rfl, fun b x y => h.2 b (hA b x) y⟩

/- what comes of a hand-over -/
structure Handed (Z Z' : FP) (S A B : FP) : Prop where
  zz : ∀ b, Z' b → Z b
  gone : ∀ b, Z b → ¬ Z' b → S b
  part : ∀ b, A b ∨ B b → S b
  dis : ∀ b, A b → B b → False
  ownA : ∀ b, A b → Z b → Z' b

end Go.Eng
end
section
/- The hand-over keeps what is said. -/
set_option linter.unusedVariables false
set_option linter.unusedSimpArgs false
namespace Go.Eng

structure HOut (bw : Bool) (Z : FP) (η : Nat → Value) (w : World) (n : Nat) (vs : List Value) (S A : FP) (R : FP → FP → Prop) (K : List AV → Prop) (regs0 : List AV)
    (Z' A' B' : FP) (regs' : List AV) : Prop where
  rel : relSL Z' η w regs' vs B'
  ids : idsBL n regs'
  got : R Z' A'
  zz : ∀ b, Z' b → Z b
  gone : ∀ b, Z b → ¬ Z' b → S b
  part : ∀ b, A' b ∨ B' b → S b
  dis : ∀ b, A' b → B' b → False
  ownA : ∀ b, A' b → Z b → Z' b
  ownB : bw = false → ∀ b, B' b → Z b → Z' b
  stay : bw = true → ∀ b, A' b → A b
  fix : bw = true → regs' = regs0
  k : K regs'

theorem zmono {Z Z' : FP} {w : World} (h : ∀ b, Z' b → Z b) : ∀ b, ¬ Z b → b < w.heap.size → ¬ Z' b ∧ w.heap[b]? = w.heap[b]? := fun b hb _ => ⟨fun x => hb (h b x), rfl⟩

/- nothing moves -/
theorem HOut.same {bw : Bool} {Z : FP} {η : Nat → Value} {w : World} {n : Nat} {vs : List Value} {S A B : FP} {R : FP → FP → Prop} {K : List AV → Prop} {regs : List AV}
    (hj : join S A B) (hR : relSL Z η w regs vs B) (hI : idsBL n regs) {A' : FP} (hA : ∀ b, A' b → A b) (hr : R Z A') (k : K regs) : HOut bw Z η w n vs S A R K regs Z A' B regs :=
  ⟨hR, hI, hr, fun _ h => h, fun _ h h' => (h' h).elim, fun b h => (hj.1 b).2 (h.imp (hA b) id), fun b x y => hj.2 b (hA b x) y, fun _ _ h => h, fun _ _ _ h => h, fun _ => hA, fun _ => rfl, k⟩

theorem frz_self {Z : FP} {η : Nat → Value} {w : World} {own : Bool} {id sz : Nat} {α : Type} {f : α → List AV} {xs : List α} {v : Value} {A : FP} {i : Nat} {own' : Bool}
    (h : relS Z η w (.sl own i sz α f xs) v A) :
    rel0 (fun b => Z b ∧ ¬ A b) w (.sl false 0 sz α (fun x => fzL (f x)) xs) v (fun _ => False) := by
  simp only [relS] at h
  have := fz_rel (Z := Z) (Z' := fun b => Z b ∧ ¬ A b) (fun b hb x => hb x.1) _ _ _ (fun b hb x => x.2 hb) h.2
  simpa only [fz] using this

mutual
theorem hand1_ok {bw : Bool} {η : Nat → Value} {w : World} {n : Nat} : ∀ (e : AV) (regs : List AV) (a : AV) (K : List AV → Prop), hand1 bw e regs a K →
    ∀ (Z : FP) (vs : List Value) (v : Value) (B A S : FP), relSL Z η w regs vs B → idsBL n regs → relS Z η w a v A → idsB n a → join S A B →
    ∃ Z' A' B' regs', HOut bw Z η w n vs S A (fun Z' A' => rel0 Z' w e v A') K regs Z' A' B' regs'
  | .int k m, regs, a, K, h, Z, vs, v, B, A, S, hR, hI, ha, hai, hj => by
    unfold hand1 at h; split at h
    · rename_i k' m'
      split at h
      · rename_i hk; have hk := ikEq_eq hk; subst hk
        obtain ⟨rfl, h⟩ := h
        exact ⟨_, _, _, _, HOut.same hj hR hI (fun _ h => h) (by simpa only [relS] using ha) h⟩
      · exact h.elim
    · exact h.elim
  | .bool b, regs, a, K, h, Z, vs, v, B, A, S, hR, hI, ha, hai, hj => by
    unfold hand1 at h; split at h
    · obtain ⟨rfl, h⟩ := h
      exact ⟨_, _, _, _, HOut.same hj hR hI (fun _ h => h) (by simpa only [relS] using ha) h⟩
    · exact h.elim
  | .str l, regs, a, K, h, Z, vs, v, B, A, S, hR, hI, ha, hai, hj => by
    unfold hand1 at h; split at h
    · obtain ⟨rfl, h⟩ := h
      exact ⟨_, _, _, _, HOut.same hj hR hI (fun _ h => h) (by simpa only [relS] using ha) h⟩
    · exact h.elim
  | .val x, regs, a, K, h, Z, vs, v, B, A, S, hR, hI, ha, hai, hj => by
    unfold hand1 at h; split at h
    · obtain ⟨rfl, h⟩ := h
      exact ⟨_, _, _, _, HOut.same hj hR hI (fun _ h => h) (by simpa only [relS] using ha) h⟩
    · exact h.elim
  | .nil, regs, a, K, h, Z, vs, v, B, A, S, hR, hI, ha, hai, hj => by
    unfold hand1 at h; split at h
    · exact ⟨_, _, _, _, HOut.same hj hR hI (fun _ h => h) (by simpa only [relS] using ha) h⟩
    · exact h.elim
  | .any, regs, a, K, h, Z, vs, v, B, A, S, hR, hI, ha, hai, hj => by
    unfold hand1 at h; split at h
    · rename_i hl
      refine ⟨_, _, _, _, HOut.same hj hR hI (A' := fun _ => False) (fun _ h => h.elim) ?_ h⟩
      simp only [rel0]; exact ⟨leaf_cell ha hl, emp_false⟩
    · exact h.elim
  | .top, regs, a, K, h, Z, vs, v, B, A, S, hR, hI, ha, hai, hj => by
    unfold hand1 at h
    refine ⟨_, _, _, _, HOut.same hj hR hI (A' := fun _ => False) (fun _ h => h.elim) ?_ h⟩
    simp only [rel0]; exact emp_false
  | .agg es, regs, a, K, h, Z, vs, v, B, A, S, hR, hI, ha, hai, hj => by
    unfold hand1 at h; split at h
    · rename_i azs
      simp only [relS] at ha
      simp only [idsB] at hai
      obtain ⟨cs, e, ha⟩ := ha
      obtain ⟨Z', A', B', regs', ho⟩ := handL_ok es regs azs K h Z vs cs B A S hR hI ha hai hj
      exact ⟨Z', A', B', regs', ⟨ho.rel, ho.ids, by simp only [rel0]; exact ⟨cs, e, ho.got⟩, ho.zz, ho.gone, ho.part, ho.dis, ho.ownA, ho.ownB, ho.stay, ho.fix, ho.k⟩⟩
    · exact h.elim
  | .tup es, regs, a, K, h, Z, vs, v, B, A, S, hR, hI, ha, hai, hj => by
    unfold hand1 at h; split at h
    · rename_i azs
      simp only [relS] at ha
      simp only [idsB] at hai
      obtain ⟨cs, e, ha⟩ := ha
      obtain ⟨Z', A', B', regs', ho⟩ := handL_ok es regs azs K h Z vs cs B A S hR hI ha hai hj
      exact ⟨Z', A', B', regs', ⟨ho.rel, ho.ids, by simp only [rel0]; exact ⟨cs, e, ho.got⟩, ho.zz, ho.gone, ho.part, ho.dis, ho.ownA, ho.ownB, ho.stay, ho.fix, ho.k⟩⟩
    · exact h.elim
  | .clo fn es, regs, a, K, h, Z, vs, v, B, A, S, hR, hI, ha, hai, hj => by
    unfold hand1 at h; split at h
    · rename_i fn' azs
      split at h
      rotate_left
      · exact h.elim
      rename_i hfe
      obtain rfl := fnEq_eq hfe
      simp only [relS] at ha
      simp only [idsB] at hai
      obtain ⟨cs, e, ha⟩ := ha
      obtain ⟨Z', A', B', regs', ho⟩ := handL_ok es regs azs K h Z vs cs B A S hR hI ha hai hj
      exact ⟨Z', A', B', regs', ⟨ho.rel, ho.ids, by simp only [rel0]; exact ⟨cs, e, ho.got⟩, ho.zz, ho.gone, ho.part, ho.dis, ho.ownA, ho.ownB, ho.stay, ho.fix, ho.k⟩⟩
    · exact h.elim
  | .pf c, regs, a, K, h, Z, vs, v, B, A, S, hR, hI, ha, hai, hj => by
    unfold hand1 at h; split at h
    · obtain ⟨he, h⟩ := h
      rw [he] at ha
      exact ⟨_, _, _, _, HOut.same hj hR hI (fun _ h => h) (by simpa only [relS] using ha) h⟩
    · rename_i id
      split at h
      · split at h
        · rename_i i c' ho
          split at h
          · rename_i hp
            obtain ⟨he, h⟩ := h
            obtain ⟨A1, hA1, hio, hro⟩ := findL_ok regs vs B _ hR ho
            simp only [relS] at ha
            have hS : S = B := fp_ext (join_emp_l hj ha.2.2)
            subst hS
            have hfr := frz_box hp hro
            have hzz : ∀ b, (Z b ∧ ¬ A1 b) → Z b := fun b h => h.1
            refine ⟨fun b => Z b ∧ ¬ A1 b, fun _ => False, S, regs, ⟨relSL_mono (zmono hzz) (fun _ _ => rfl) _ _ _ hI (fun _ _ => rfl) hR, hI, ?_, hzz, ?_, ?_, fun _ h => h.elim, fun _ h => h.elim, (fun hh => by simp at hh), (fun _ _ h => h.elim), (fun _ => rfl), h⟩⟩
            · rw [ha.1, ← he]; exact hfr
            · intro b h1 h2
              exact Classical.byContradiction fun hn => h2 ⟨h1, fun x => hn (hA1 b x)⟩
            · intro b hb; exact hb.resolve_left (fun x => x)
          · exact h.elim
        · exact h.elim
      · split at h
        · rename_i i c' regs' ht
          split at h
          · rename_i hp
            obtain ⟨he, h⟩ := h
            obtain ⟨A1, B1, hj1, hio, hro, hrr⟩ := takeL_ok regs vs B _ _ hR ht
            obtain ⟨h1, h2, h3⟩ := takeL_ids regs _ _ hI ht
            simp only [relS] at ha
            have hS : S = B := fp_ext (join_emp_l hj ha.2.2)
            subst hS
            have hfr := frz_box hp hro
            have hzz : ∀ b, (Z b ∧ ¬ A1 b) → Z b := fun b h => h.1
            have hrr' := relSL_mono (zmono (w := w) hzz) (fun _ _ => rfl) _ _ _ h3 (fun _ _ => rfl) hrr
            refine ⟨fun b => Z b ∧ ¬ A1 b, fun _ => False, B1, _, ⟨subL_ok ?_ _ _ _ hrr', subL_ids ?_ _ h3, ?_, hzz, ?_, ?_, fun _ h => h.elim, fun _ h => h.elim, ?_, (fun _ _ h => h.elim), (fun hbw => by cases hbw), h⟩⟩
            · simp only [relS]; exact hfr
            · trivial
            · rw [ha.1, ← he]; exact hfr
            · intro b h1 h2
              refine (hj1.1 b).2 (.inl ?_)
              exact Classical.byContradiction fun hn => h2 ⟨h1, hn⟩
            · intro b hb; exact (hj1.1 b).2 (.inr (hb.resolve_left (fun x => x)))
            · intro _ b hb hz; exact ⟨hz, fun x => hj1.2 b x hb⟩
          · exact h.elim
        · exact h.elim
    · exact h.elim
  | .box j c, regs, a, K, h, Z, vs, v, B, A, S, hR, hI, ha, hai, hj => by
    have core : ∀ (regs : List AV) (c' : List AV) (i : Nat) (v : Value) (B A S : FP), handL bw c regs c' K → relSL Z η w regs vs B → idsBL n regs → relS Z η w (.box i c') v A → idsB n (.box i c') → join S A B →
        ∃ Z' A' B' regs', HOut bw Z η w n vs S A (fun Z' A' => rel0 Z' w (.box j c) v A') K regs Z' A' B' regs' := by
      intro regs c' i v B A S h hR hI ha hai hj
      simp only [relS] at ha
      simp only [idsB] at hai
      obtain ⟨e0, b, arr, ty, S1, e, hb, hr, hj2⟩ := ha
      obtain ⟨Z', A', B', regs', ho⟩ := handL_ok c regs c' K h Z vs arr.toList B S1 (fun x => S1 x ∨ B x) hR hI hr hai.2 ⟨fun _ => Iff.rfl, fun x p q => hj.2 x ((hj2.1 x).2 (.inr p)) q⟩
      have hbA : A b := (hj2.1 b).2 (.inl rfl)
      have hnot : ¬ (S1 b ∨ B b) := fun x => x.elim (fun x => hj2.2 b rfl x) (fun x => hj.2 b hbA x)
      refine ⟨Z', fun x => x = b ∨ A' x, B', regs', ⟨ho.rel, ho.ids, ?_, ho.zz, ?_, ?_, ?_, ?_, ho.ownB, ?_, ho.fix, ho.k⟩⟩
      · simp only [rel0]
        exact ⟨b, arr, ty, A', e, hb, ho.got, ⟨fun x => Iff.rfl, fun x p q => hnot (by have := ho.part x (.inl q); rw [p] at this; exact this)⟩⟩
      · intro x hx hx'
        have := ho.gone x hx hx'
        exact (hj.1 x).2 (this.imp (fun p => (hj2.1 x).2 (.inr p)) id)
      · intro x hx
        rcases hx with (hx | hx) | hx
        · subst hx; exact (hj.1 x).2 (.inl hbA)
        · exact (hj.1 x).2 ((ho.part x (.inl hx)).imp (fun p => (hj2.1 x).2 (.inr p)) id)
        · exact (hj.1 x).2 ((ho.part x (.inr hx)).imp (fun p => (hj2.1 x).2 (.inr p)) id)
      · intro x hx hy
        rcases hx with hx | hx
        · subst hx; exact hnot (ho.part x (.inr hy))
        · exact ho.dis x hx hy
      · intro x hx hz
        rcases hx with hx | hx
        · subst hx
          exact Classical.byContradiction fun hn => hnot (ho.gone x hz hn)
        · exact ho.ownA x hx hz
      · intro hbw x hx
        rcases hx with hx | hx
        · subst hx; exact hbA
        · exact (hj2.1 x).2 (.inr (ho.stay hbw x hx))
    unfold hand1 at h; split at h
    · rename_i i c'
      exact core regs c' i v B A S h hR hI ha hai hj
    · rename_i id
      split at h
      · exact h.elim
      · split at h
        · rename_i i c' regs' ht
          obtain ⟨A1, B1, hj1, hio, hro, hrr⟩ := takeL_ok regs vs B _ _ hR ht
          obtain ⟨h1, h2, h3⟩ := takeL_ids regs _ _ hI ht
          simp only [relS] at ha
          have hro' := hro
          simp only [relS] at hro'
          obtain ⟨_, b, arr, ty, S1, e, _⟩ := hro'
          have hv : v = η id := ha.1
          rw [← hv] at hro
          obtain ⟨Z', A', B', regs2, ho⟩ := core regs' c' i v B1 A1 S h hrr h3 hro h2 (by
            rw [show S = B from fp_ext (join_emp_l hj ha.2.2)]; exact hj1)
          exact ⟨Z', A', B', regs2, ho.rel, ho.ids, ho.got, ho.zz, ho.gone, ho.part, ho.dis, ho.ownA, ho.ownB, (fun hbw => by cases hbw), (fun hbw => by cases hbw), ho.k⟩
        · exact h.elim
    · exact h.elim
  | .sl true j sz α f xs, regs, a, K, h, Z, vs, v, B, A, S, hR, hI, ha, hai, hj => by
    unfold hand1 at h; split at h
    · obtain ⟨rfl, h⟩ := h
      refine ⟨_, _, _, _, HOut.same hj hR hI (fun _ h => h) ?_ h⟩
      simp only [relS, rel0] at ha ⊢
      refine ⟨none, 0, 0, ha.1, rfl, Nat.le_refl _, .inl ⟨trivial, .inl ⟨rfl, rfl, ha.2⟩⟩⟩
    · obtain ⟨he, h⟩ := h
      refine ⟨_, _, _, _, HOut.same hj hR hI (fun _ h => h) ?_ h⟩
      simp only [relS] at ha
      exact sl_eq_own he ha.2
    · rename_i id
      split at h
      · exact h.elim
      · split at h
        · rename_i i sz' α' f' xs' regs' ht
          obtain ⟨he, h⟩ := h
          obtain ⟨A1, B1, hj1, hio, hro, hrr⟩ := takeL_ok regs vs B _ _ hR ht
          obtain ⟨h1, h2, h3⟩ := takeL_ids regs _ _ hI ht
          simp only [relS] at ha hro
          have hS : S = B := fp_ext (join_emp_l hj ha.2.2)
          subst hS
          have hg : rel0 Z w (.sl true j sz α f xs) v A1 := by rw [ha.1]; exact sl_eq_own he hro.2
          have ho := HOut.same (bw := false) (R := fun Z' A' => rel0 Z' w (.sl true j sz α f xs) v A') (K := K) hj1 hrr h3 (fun _ h => h) hg h
          exact ⟨Z, A1, B1, regs', ho.rel, ho.ids, ho.got, ho.zz, ho.gone, ho.part, ho.dis, ho.ownA, ho.ownB, (fun hbw => by cases hbw), (fun hbw => by cases hbw), ho.k⟩
        · exact h.elim
    · exact h.elim
  | .sl false j sz α f xs, regs, a, K, h, Z, vs, v, B, A, S, hR, hI, ha, hai, hj => by
    unfold hand1 at h; split at h
    · obtain ⟨rfl, h⟩ := h
      refine ⟨_, _, _, _, HOut.same hj hR hI (fun _ h => h) ?_ h⟩
      simp only [relS, rel0] at ha ⊢
      refine ⟨none, 0, 0, ha.1, rfl, Nat.le_refl _, .inr ⟨trivial, ha.2, .inl trivial⟩⟩
    · obtain ⟨he, h⟩ := h
      refine ⟨_, _, _, _, HOut.same hj hR hI (fun _ h => h) ?_ h⟩
      simp only [relS] at ha
      exact sl_eq_own he ha.2
    · obtain ⟨he, h⟩ := h
      have hfr := frz_self (id := 0) (own' := true) ha
      have hzz : ∀ b, (Z b ∧ ¬ A b) → Z b := fun b h => h.1
      refine ⟨fun b => Z b ∧ ¬ A b, fun _ => False, B, regs, ⟨relSL_mono (zmono hzz) (fun _ _ => rfl) _ _ _ hI (fun _ _ => rfl) hR, hI, sl_eq_own he hfr, hzz, ?_, ?_, fun _ h => h.elim, fun _ h => h.elim, ?_, (fun _ _ h => h.elim), (fun _ => rfl), h⟩⟩
      · intro b h1 h2
        refine (hj.1 b).2 (.inl ?_)
        exact Classical.byContradiction fun hn => h2 ⟨h1, hn⟩
      · intro b hb; exact (hj.1 b).2 (.inr (hb.resolve_left id))
      · intro _ b hb hz; exact ⟨hz, fun x => hj.2 b x hb⟩
    · rename_i id
      split at h
      · split at h
        · rename_i i sz' α' f' xs' ho
          obtain ⟨he, h⟩ := h
          obtain ⟨A1, hA1, hio, hro⟩ := findL_ok regs vs B _ hR ho
          simp only [relS] at ha
          have hS : S = B := fp_ext (join_emp_l hj ha.2.2)
          subst hS
          have hfr := frz_self (id := 0) (own' := true) hro
          have hzz : ∀ b, (Z b ∧ ¬ A1 b) → Z b := fun b h => h.1
          refine ⟨fun b => Z b ∧ ¬ A1 b, fun _ => False, S, regs, ⟨relSL_mono (zmono hzz) (fun _ _ => rfl) _ _ _ hI (fun _ _ => rfl) hR, hI, ?_, hzz, ?_, ?_, fun _ h => h.elim, fun _ h => h.elim, (fun hh => by simp at hh), (fun _ _ h => h.elim), (fun _ => rfl), h⟩⟩
          · rw [ha.1]; exact sl_eq_own he hfr
          · intro b h1 h2
            exact Classical.byContradiction fun hn => h2 ⟨h1, fun x => hn (hA1 b x)⟩
          · intro b hb; exact hb.resolve_left (fun x => x)
        · exact h.elim
      · split at h
        · rename_i i sz' α' f' xs' regs' ht
          obtain ⟨he, h⟩ := h
          obtain ⟨A1, B1, hj1, hio, hro, hrr⟩ := takeL_ok regs vs B _ _ hR ht
          obtain ⟨h1, h2, h3⟩ := takeL_ids regs _ _ hI ht
          simp only [relS] at ha
          have hS : S = B := fp_ext (join_emp_l hj ha.2.2)
          subst hS
          have hfr := frz_self (id := 0) (own' := true) hro
          have hzz : ∀ b, (Z b ∧ ¬ A1 b) → Z b := fun b h => h.1
          have hrr' := relSL_mono (zmono (w := w) hzz) (fun _ _ => rfl) _ _ _ h3 (fun _ _ => rfl) hrr
          refine ⟨fun b => Z b ∧ ¬ A1 b, fun _ => False, B1, _, ⟨subL_ok ?_ _ _ _ hrr', subL_ids ?_ _ h3, ?_, hzz, ?_, ?_, fun _ h => h.elim, fun _ h => h.elim, ?_, (fun _ _ h => h.elim), (fun hbw => by cases hbw), h⟩⟩
          · simp only [relS]; exact ⟨(fun o => by cases o), hfr⟩
          · simp only [idsB]; intro o; cases o
          · rw [ha.1]; exact sl_eq_own he hfr
          · intro b h1 h2
            refine (hj1.1 b).2 (.inl ?_)
            exact Classical.byContradiction fun hn => h2 ⟨h1, hn⟩
          · intro b hb; exact (hj1.1 b).2 (.inr (hb.resolve_left (fun x => x)))
          · intro _ b hb hz; exact ⟨hz, fun x => hj1.2 b x hb⟩
        · exact h.elim
    · exact h.elim
  | .hole _, regs, a, K, h, Z, vs, v, B, A, S, hR, hI, ha, hai, hj => by unfold hand1 at h; exact h.elim
  | .al _, regs, a, K, h, Z, vs, v, B, A, S, hR, hI, ha, hai, hj => by unfold hand1 at h; exact h.elim
  | .po _ _ _ _, regs, a, K, h, Z, vs, v, B, A, S, hR, hI, ha, hai, hj => by unfold hand1 at h; exact h.elim
theorem handL_ok {bw : Bool} {η : Nat → Value} {w : World} {n : Nat} : ∀ (es : List AV) (regs : List AV) (azs : List AV) (K : List AV → Prop), handL bw es regs azs K →
    ∀ (Z : FP) (vs : List Value) (us : List Value) (B A S : FP), relSL Z η w regs vs B → idsBL n regs → relSL Z η w azs us A → idsBL n azs → join S A B →
    ∃ Z' A' B' regs', HOut bw Z η w n vs S A (fun Z' A' => rel0L Z' w es us A') K regs Z' A' B' regs'
  | [], regs, azs, K, h, Z, vs, us, B, A, S, hR, hI, ha, hai, hj => by
    unfold handL at h
    split at h
    · simp only [relSL] at ha
      refine ⟨_, _, _, _, HOut.same hj hR hI (fun _ h => h) ?_ h⟩
      simp only [rel0L]; exact ha
    · exact h.elim
  | e :: es, regs, azs, K, h, Z, vs, us, B, A, S, hR, hI, ha, hai, hj => by
    unfold handL at h
    split at h
    · exact h.elim
    · rename_i a azs
      simp only [relSL] at ha
      simp only [idsBL] at hai
      obtain ⟨v, us', A1, A2, eu, hj2, ha1, ha2⟩ := ha
      obtain ⟨Z1, A1', B1', regs1, h1⟩ := hand1_ok e regs a _ h Z vs v B A1 (fun x => A1 x ∨ B x) hR hI ha1 hai.1
        ⟨fun _ => Iff.rfl, fun x p q => hj.2 x ((hj2.1 x).2 (.inl p)) q⟩
      have ha2' := relSL_mono (zmono (w := w) h1.zz) (fun _ _ => rfl) _ _ _ hai.2 (fun _ _ => rfl) ha2
      have hd : ∀ x, A2 x → ¬ (A1 x ∨ B x) := fun x p q => q.elim (fun q => hj2.2 x q p) (fun q => hj.2 x ((hj2.1 x).2 (.inr p)) q)
      obtain ⟨Z2, A2', B2', regs2, h2⟩ := handL_ok es regs1 azs K h1.k Z1 vs us' B1' A2 (fun x => A2 x ∨ B1' x) h1.rel h1.ids ha2' hai.2
        ⟨fun _ => Iff.rfl, fun x p q => hd x p (h1.part x (.inr q))⟩
      have hsub : ∀ x, A1 x ∨ B x → S x := fun x p => (hj.1 x).2 (p.imp (fun p => (hj2.1 x).2 (.inl p)) id)
      have hsub2 : ∀ x, A2 x ∨ B1' x → S x := fun x p => p.elim (fun p => (hj.1 x).2 (.inl ((hj2.1 x).2 (.inr p)))) (fun p => hsub x (h1.part x (.inr p)))
      have hx : ∀ x, A1' x → ¬ (A2 x ∨ B1' x) := fun x p q => q.elim (fun q => hd x q (h1.part x (.inl p))) (fun q => h1.dis x p q)
      refine ⟨Z2, fun x => A1' x ∨ A2' x, B2', regs2, ⟨h2.rel, h2.ids, ?_, fun b hb => h1.zz b (h2.zz b hb), ?_, ?_, ?_, ?_, ?_, ?_, (fun hbw => by rw [h2.fix hbw, h1.fix hbw]), h2.k⟩⟩
      · simp only [rel0L]
        refine ⟨v, us', A1', A2', eu, ⟨fun _ => Iff.rfl, fun x p q => hx x p (h2.part x (.inl q))⟩, ?_, h2.got⟩
        exact rel0_mono (zmono h2.zz) _ _ _ (fun _ _ => rfl) h1.got
      · intro b hz hz2
        by_cases hz1 : Z1 b
        · exact hsub2 b (h2.gone b hz1 hz2)
        · exact hsub b (h1.gone b hz hz1)
      · intro b hb
        rcases hb with (hb | hb) | hb
        · exact hsub b (h1.part b (.inl hb))
        · exact hsub2 b (h2.part b (.inl hb))
        · exact hsub2 b (h2.part b (.inr hb))
      · intro b hb hc
        rcases hb with hb | hb
        · exact hx b hb (h2.part b (.inr hc))
        · exact h2.dis b hb hc
      · intro b hb hz
        rcases hb with hb | hb
        · have hz1 := h1.ownA b hb hz
          exact Classical.byContradiction fun hn => hx b hb (h2.gone b hz1 hn)
        · have hz1 : Z1 b := Classical.byContradiction fun hn => by
            have := h1.gone b hz hn
            rcases Bool.eq_false_or_eq_true bw with hbw | hbw
            · exact hd b (h2.stay hbw b hb) this
            · rcases h2.part b (.inl hb) with hq | hq
              · exact hd b hq this
              · exact hn (h1.ownB hbw b hq hz)
          exact h2.ownA b hb hz1
      · intro hbw b hb hz
        have hz1 : Z1 b := Classical.byContradiction fun hn => by
            have := h1.gone b hz hn
            rcases h2.part b (.inr hb) with hq | hq
            · exact hd b hq this
            · exact hn (h1.ownB hbw b hq hz)
        exact h2.ownB hbw b hb hz1
      · intro hbw b hb
        rcases hb with hb | hb
        · exact (hj2.1 b).2 (.inl (h1.stay hbw b hb))
        · exact (hj2.1 b).2 (.inr (h2.stay hbw b hb))
end

end Go.Eng
end
section
/- Contracts of functions, and calls. -/
set_option linter.unusedVariables false
set_option linter.unusedSimpArgs false
namespace Go.Eng

/- new names for what is owned -/
mutual
def stamp (n : Nat) : AV → AV × Nat
  | .sl true _ sz α f xs => (.sl true n sz α f xs, n + 1)
  | .box _ c => (.box n (stampL (n + 1) c).1, (stampL (n + 1) c).2)
  | .agg fs => (.agg (stampL n fs).1, (stampL n fs).2)
  | .tup fs => (.tup (stampL n fs).1, (stampL n fs).2)
  | .clo fn fs => (.clo fn (stampL n fs).1, (stampL n fs).2)
  | a => (a, n)
def stampL (n : Nat) : List AV → List AV × Nat
  | [] => ([], n)
  | a :: azs => ((stamp n a).1 :: (stampL (stamp n a).2 azs).1, (stampL (stamp n a).2 azs).2)
end

mutual
theorem stamp_ok {Z : FP} {w : World} : ∀ (a : AV) (n : Nat) (v : Value) (S : FP) (η : Nat → Value), rel0 Z w a v S →
    n ≤ (stamp n a).2 ∧ idsB (stamp n a).2 (stamp n a).1 ∧ ∃ η' : Nat → Value, (∀ i, i < n → η' i = η i) ∧ (∀ η'', (∀ i, i < (stamp n a).2 → η'' i = η' i) → relS Z η'' w (stamp n a).1 v S)
  | .sl true j sz α f xs, n, v, S, η, h => by
    refine ⟨Nat.le_succ n, fun _ => Nat.lt_succ_self n, fun i => if i = n then v else η i, fun i hi => if_neg (by omega), fun η'' hη => ?_⟩
    simp only [stamp, relS]
    refine ⟨fun _ => ?_, by simpa only [rel0] using h⟩
    rw [hη n (Nat.lt_succ_self n)]; simp
  | .sl false j sz α f xs, n, v, S, η, h => by
    refine ⟨Nat.le_refl n, (fun o => by cases o), η, fun _ _ => rfl, fun η'' hη => ?_⟩
    simp only [stamp, relS]
    exact ⟨(fun o => by cases o), h⟩
  | .box j c, n, v, S, η, h => by
    simp only [rel0] at h
    obtain ⟨b, arr, ty, S1, e, hb, hr, hj⟩ := h
    obtain ⟨h1, h2, η', h3, h4⟩ := stampL_ok c (n + 1) arr.toList S1 (fun i => if i = n then v else η i) hr
    simp only [stamp, idsB]
    refine ⟨by omega, ⟨by omega, h2⟩, η', fun i hi => by rw [h3 i (by omega), if_neg (by omega)], fun η'' hη => ?_⟩
    simp only [relS]
    refine ⟨?_, b, arr, ty, S1, e, hb, h4 η'' hη, hj⟩
    rw [hη n (by omega), h3 n (by omega)]; simp
  | .agg fs, n, v, S, η, h => by
    simp only [rel0] at h
    obtain ⟨cs, e, hr⟩ := h
    obtain ⟨h1, h2, η', h3, h4⟩ := stampL_ok fs n cs S η hr
    simp only [stamp, idsB]
    refine ⟨h1, h2, η', h3, fun η'' hη => ?_⟩
    simp only [relS]; exact ⟨cs, e, h4 η'' hη⟩
  | .tup fs, n, v, S, η, h => by
    simp only [rel0] at h
    obtain ⟨cs, e, hr⟩ := h
    obtain ⟨h1, h2, η', h3, h4⟩ := stampL_ok fs n cs S η hr
    simp only [stamp, idsB]
    refine ⟨h1, h2, η', h3, fun η'' hη => ?_⟩
    simp only [relS]; exact ⟨cs, e, h4 η'' hη⟩
  | .clo fn fs, n, v, S, η, h => by
    simp only [rel0] at h
    obtain ⟨cs, e, hr⟩ := h
    obtain ⟨h1, h2, η', h3, h4⟩ := stampL_ok fs n cs S η hr
    simp only [stamp, idsB]
    refine ⟨h1, h2, η', h3, fun η'' hη => ?_⟩
    simp only [relS]; exact ⟨cs, e, h4 η'' hη⟩
  | .int _ _, n, v, S, η, h => ⟨Nat.le_refl n, trivial, η, fun _ _ => rfl, fun _ _ => h⟩
  | .bool _, n, v, S, η, h => ⟨Nat.le_refl n, trivial, η, fun _ _ => rfl, fun _ _ => h⟩
  | .str _, n, v, S, η, h => ⟨Nat.le_refl n, trivial, η, fun _ _ => rfl, fun _ _ => h⟩
  | .val _, n, v, S, η, h => ⟨Nat.le_refl n, trivial, η, fun _ _ => rfl, fun _ _ => h⟩
  | .any, n, v, S, η, h => ⟨Nat.le_refl n, trivial, η, fun _ _ => rfl, fun _ _ => h⟩
  | .top, n, v, S, η, h => ⟨Nat.le_refl n, trivial, η, fun _ _ => rfl, fun _ _ => h⟩
  | .nil, n, v, S, η, h => ⟨Nat.le_refl n, trivial, η, fun _ _ => rfl, fun _ _ => h⟩
  | .pf _, n, v, S, η, h => ⟨Nat.le_refl n, trivial, η, fun _ _ => rfl, fun _ _ => h⟩
  | .hole _, n, v, S, η, h => h.elim
  | .al _, n, v, S, η, h => h.elim
  | .po _ _ _ _, n, v, S, η, h => h.elim
theorem stampL_ok {Z : FP} {w : World} : ∀ (azs : List AV) (n : Nat) (cs : List Value) (S : FP) (η : Nat → Value), rel0L Z w azs cs S →
    n ≤ (stampL n azs).2 ∧ idsBL (stampL n azs).2 (stampL n azs).1 ∧ ∃ η' : Nat → Value, (∀ i, i < n → η' i = η i) ∧ (∀ η'', (∀ i, i < (stampL n azs).2 → η'' i = η' i) → relSL Z η'' w (stampL n azs).1 cs S)
  | [], n, cs, S, η, h => ⟨Nat.le_refl n, trivial, η, fun _ _ => rfl, fun _ _ => h⟩
  | a :: azs, n, cs, S, η, h => by
    simp only [rel0L] at h
    obtain ⟨v, cs', A, B, e, hj, h1, h2⟩ := h
    obtain ⟨a1, a2, η1, a3, a4⟩ := stamp_ok a n v A η h1
    obtain ⟨b1, b2, η2, b3, b4⟩ := stampL_ok azs (stamp n a).2 cs' B η1 h2
    simp only [stampL, idsBL]
    refine ⟨by omega, ⟨idsB_le b1 _ a2, b2⟩, η2, fun i hi => by rw [b3 i (by omega), a3 i hi], fun η'' hη => ?_⟩
    simp only [relSL]
    exact ⟨v, cs', A, B, e, hj, a4 η'' (fun i hi => by rw [hη i (by omega), b3 i hi]), b4 η'' hη⟩
end

/- nothing in it is shared with what is only read -/
mutual
def cleanAV : AV → Prop
  | .sl true _ _ _ f _ => ∀ x, cleanL (f x)
  | .sl false _ _ _ _ _ => False
  | .pf _ => False
  | .box _ c => cleanL c
  | .agg fs => cleanL fs
  | .tup fs => cleanL fs
  | .clo _ fs => cleanL fs
  | _ => True
def cleanL : List AV → Prop
  | [] => True
  | a :: azs => cleanAV a ∧ cleanL azs
end
mutual
theorem clean_rel {Z Z' : FP} {w : World} : ∀ (a : AV) (v : Value) (S : FP), cleanAV a → rel0 Z w a v S → rel0 Z' w a v S
  | .sl true j sz α f xs, v, S, hc, h => by
    simp only [rel0] at h ⊢
    simp only [cleanAV] at hc
    obtain ⟨a, n, c, e, hn, hcc, h⟩ := h
    refine ⟨a, n, c, e, hn, hcc, ?_⟩
    rcases h with ⟨ho, h⟩ | ⟨ho, _⟩
    · refine .inl ⟨ho, ?_⟩
      rcases h with h | ⟨b, off, arr, ty, S1, ha, hb, hsz, hr, hj⟩
      · exact .inl h
      · exact .inr ⟨b, off, arr, ty, S1, ha, hb, hsz, Rows_mono xs _ S1 (fun x cs A hA hx => cleanL_rel (f x) cs A (hc x) hx) hr, hj⟩
    · cases ho
  | .sl false j sz α f xs, v, S, hc, h => hc.elim
  | .pf _, v, S, hc, h => hc.elim
  | .box j c, v, S, hc, h => by
    simp only [rel0] at h ⊢
    simp only [cleanAV] at hc
    obtain ⟨b, arr, ty, S1, e, hb, hr, hj⟩ := h
    exact ⟨b, arr, ty, S1, e, hb, cleanL_rel c _ S1 hc hr, hj⟩
  | .agg fs, v, S, hc, h => by
    simp only [rel0] at h ⊢; simp only [cleanAV] at hc
    obtain ⟨cs, e, hr⟩ := h; exact ⟨cs, e, cleanL_rel fs cs S hc hr⟩
  | .tup fs, v, S, hc, h => by
    simp only [rel0] at h ⊢; simp only [cleanAV] at hc
    obtain ⟨cs, e, hr⟩ := h; exact ⟨cs, e, cleanL_rel fs cs S hc hr⟩
  | .clo fn fs, v, S, hc, h => by
    simp only [rel0] at h ⊢; simp only [cleanAV] at hc
    obtain ⟨cs, e, hr⟩ := h; exact ⟨cs, e, cleanL_rel fs cs S hc hr⟩
  | .int _ _, v, S, hc, h => h
  | .bool _, v, S, hc, h => h
  | .str _, v, S, hc, h => h
  | .val _, v, S, hc, h => h
  | .any, v, S, hc, h => h
  | .top, v, S, hc, h => h
  | .nil, v, S, hc, h => h
  | .hole _, v, S, hc, h => h
  | .al _, v, S, hc, h => h
  | .po _ _ _ _, v, S, hc, h => h
theorem cleanL_rel {Z Z' : FP} {w : World} : ∀ (azs : List AV) (cs : List Value) (S : FP), cleanL azs → rel0L Z w azs cs S → rel0L Z' w azs cs S
  | [], cs, S, hc, h => h
  | a :: azs, cs, S, hc, h => by
    simp only [rel0L] at h ⊢; simp only [cleanL] at hc
    obtain ⟨v, cs', A, B, e, hj, h1, h2⟩ := h
    exact ⟨v, cs', A, B, e, hj, clean_rel a v A hc.1 h1, cleanL_rel azs cs' B hc.2 h2⟩
end

structure Sig : Type 1 where
  X : Type
  args : X → List AV
  pre : X → Prop
  Y : Type
  post : X → Y → Prop
  res : X → Y → AV
  outs : X → Y → List AV
  keep : Bool
  fixed : List Nat := []

structure After (Z : FP) (w : World) (A : FP) (Z' : FP) (w' : World) (A' : FP) : Prop where
  os : w'.os = w.os
  tape : w'.tape = w.tape
  output : w'.output = w.output
  size : w.heap.size ≤ w'.heap.size
  old : ∀ b, b < w.heap.size → ¬ A b → w'.heap[b]? = w.heap[b]? ∧ (Z' b ↔ Z b)
  own : ∀ b, A' b → Z' b ∧ b < w'.heap.size ∧ (b < w.heap.size → A b)

def keepOk (keep : Bool) (p : Prop) : Prop := match keep with
  | true => True
  | false => p
def cleanS (S : Sig) : Prop := ∀ x y, S.pre x → S.post x y → keepOk S.keep (cleanL (S.res x y :: S.outs x y))
def Contract (G : GInv) (P : Program) (f : FuncId) (S : Sig) : Prop :=
  ((∃ fn, P.funcs[f]? = some fn ∧ (fn.name == "runtime.NumGoroutine") = false ∧ fn.body.isNone = false) ∧ cleanS S) ∧
  ∀ x, S.pre x → ∀ Z w vals A, G.p Z w → rel0L Z w (S.args x) vals A → (∀ b, A b → Z b ∧ b < w.heap.size) →
    Calls P f vals.toArray w fun e w' => ∃ y v Z' A' , S.post x y ∧ e = .returned v ∧ rel0L Z' w' (S.res x y :: S.outs x y) (v :: vals) A' ∧ After Z w A Z' w' A'

def isMoved : AV → Bool
  | .sl true _ _ _ _ _ => true
  | .box _ _ => true
  | _ => false
def movedE (e : AV) : AV := match isMoved e with | true => e | false => .top
def lentE (e : AV) : AV := match isMoved e with | true => .top | false => e

theorem merge_rel {Z : FP} {w : World} : ∀ (es : List AV) (cs : List Value) (A B S : FP), rel0L Z w (es.map movedE) cs A → rel0L Z w (es.map lentE) cs B → join S A B → rel0L Z w es cs S
  | [], cs, A, B, S, h1, h2, hs => by
    simp only [List.map, rel0L] at h1 h2 ⊢
    exact ⟨h1.1, fun b hb => ((hs.1 b).1 hb).elim (h1.2 b) (h2.2 b)⟩
  | e :: es, cs, A, B, S, h1, h2, hs => by
    simp only [List.map, rel0L] at h1 h2 ⊢
    obtain ⟨v, cs', A1, B1, e1, hj, h3, h4⟩ := h1
    obtain ⟨v', cs'', A2, B2, e2, hj2, h5, h6⟩ := h2
    rw [e1] at e2
    simp only [List.cons.injEq] at e2
    obtain ⟨rfl, rfl⟩ := e2
    have hd : ∀ b, A1 b ∨ B1 b → ¬ (A2 b ∨ B2 b) := fun b x y => hs.2 b ((hj.1 b).2 x) ((hj2.1 b).2 y)
    refine ⟨v, cs', fun b => A1 b ∨ A2 b, fun b => B1 b ∨ B2 b, e1, ⟨fun b => ?_, fun b x y => ?_⟩, ?_, merge_rel es cs' B1 B2 _ h4 h6 ⟨fun _ => Iff.rfl, fun b x y => hd b (.inr x) (.inr y)⟩⟩
    · rw [hs.1 b, hj.1 b, hj2.1 b]
      exact ⟨fun h => h.elim (fun h => h.elim (fun h => .inl (.inl h)) (fun h => .inr (.inl h))) (fun h => h.elim (fun h => .inl (.inr h)) (fun h => .inr (.inr h))),
        fun h => h.elim (fun h => h.elim (fun h => .inl (.inl h)) (fun h => .inr (.inl h))) (fun h => h.elim (fun h => .inl (.inr h)) (fun h => .inr (.inr h)))⟩
    · rcases x with x | x <;> rcases y with y | y
      · exact hj.2 b x y
      · exact hd b (.inl x) (.inr y)
      · exact hd b (.inr y) (.inl x)
      · exact hj2.2 b x y
    · unfold movedE lentE at *
      cases hm : isMoved e
      · rw [hm] at h3 h5
        simp only [rel0] at h3
        have : (fun b => A1 b ∨ A2 b) = A2 := fp_ext (fun b => ⟨fun h => h.elim (fun h => (h3 b h).elim) id, .inr⟩)
        rw [this]; exact h5
      · rw [hm] at h3 h5
        simp only [rel0] at h5
        have : (fun b => A1 b ∨ A2 b) = A1 := fp_ext (fun b => ⟨fun h => h.elim id (fun h => (h5 b h).elim), .inl⟩)
        rw [this]; exact h3

/- the boxes that were handed over come back -/
def plugOuts (regs : List AV) (nx : Nat) : List AV → List AV → Option (List AV × Nat)
  | [], [] => some (regs, nx)
  | a :: azs, o :: os => match o with
    | .top => plugOuts regs nx azs os
    | .box _ c => match a with
      | .al id => match plugL id (.box id (stampL nx c).1) regs with
        | some regs' => plugOuts regs' (stampL nx c).2 azs os
        | none => none
      | _ => none
    | .sl true _ sz α f xs => match a with
      | .al id => match plugL id (.sl true id sz α f xs) regs with
        | some regs' => plugOuts regs' nx azs os
        | none => none
      | _ => none
    | _ => none
  | _, _ => none

theorem plugOuts_ok {Z : FP} {w : World} : ∀ (azs os : List AV) (regs : List AV) (nx : Nat) (regs' : List AV) (nx' : Nat), plugOuts regs nx azs os = some (regs', nx') →
    ∀ (η : Nat → Value) (vs us : List Value) (B A S : FP), relSL Z η w regs vs B → idsBL nx regs → relSL Z η w azs us (fun _ => False) → idsBL nx azs →
    rel0L Z w os us A → join S A B →
    nx ≤ nx' ∧ idsBL nx' regs' ∧ ∃ η' : Nat → Value, (∀ i, i < nx → η' i = η i) ∧ relSL Z η' w regs' vs S
  | [], [], regs, nx, regs', nx', h, η, vs, us, B, A, S, hR, hI, ha, hai, ho, hj => by
    simp only [plugOuts, Option.some.injEq, Prod.mk.injEq] at h
    obtain ⟨rfl, rfl⟩ := h
    simp only [rel0L] at ho
    refine ⟨Nat.le_refl _, hI, η, fun _ _ => rfl, ?_⟩
    rw [show S = B from fp_ext (join_emp_l hj ho.2)]; exact hR
  | [], _ :: _, regs, nx, regs', nx', h, η, vs, us, B, A, S, hR, hI, ha, hai, ho, hj => by simp [plugOuts] at h
  | _ :: _, [], regs, nx, regs', nx', h, η, vs, us, B, A, S, hR, hI, ha, hai, ho, hj => by simp [plugOuts] at h
  | a :: azs, o :: os, regs, nx, regs', nx', h, η, vs, us, B, A, S, hR, hI, ha, hai, ho, hj => by
    simp only [rel0L] at ho
    obtain ⟨v, us', A1, A2, eu, hj2, ho1, ho2⟩ := ho
    subst eu
    simp only [idsBL] at hai
    simp only [relSL] at ha
    obtain ⟨v0, us0, B1, B2, eu0, hj0, ha1, ha2⟩ := ha
    simp only [List.cons.injEq] at eu0
    obtain ⟨rfl, rfl⟩ := eu0
    rw [emp_eq (emp_of_join hj0 emp_false).1] at ha1
    rw [emp_eq (emp_of_join hj0 emp_false).2] at ha2
    unfold plugOuts at h
    split at h
    · simp only [rel0] at ho1
      exact plugOuts_ok azs os regs nx regs' nx' h η vs us' B A S hR hI ha2 hai.2 (by rw [show A = A2 from fp_ext (join_emp_l hj2 ho1)]; exact ho2) hj
    · rename_i j c
      split at h
      · rename_i id
        split at h
        · rename_i regs1 hpl
          simp only [rel0] at ho1
          obtain ⟨b, arr, ty, S1, e, hb, hr, hj3⟩ := ho1
          obtain ⟨h1, h2, η1, h3, h4⟩ := stampL_ok c nx arr.toList S1 η hr
          have hid : id < nx := hai.1
          have hv : v = η id := by simp only [relS] at ha1; exact ha1.1
          have hbox : relS Z η1 w (.box id (stampL nx c).1) (η1 id) A1 := by
            simp only [relS]
            refine ⟨trivial, b, arr, ty, S1, ?_, hb, h4 η1 (fun _ _ => rfl), hj3⟩
            rw [h3 id hid, ← hv]; exact e
          obtain ⟨E, h5, h6⟩ := join_shift1 hj hj2
          have hR1 := relSL_mono (n := nx) (Z' := Z) (w' := w) (fun b hb _ => ⟨hb, rfl⟩) h3 _ _ _ hI (fun _ _ => rfl) hR
          have hpg := plugL_ok hbox regs vs B (fun x => A1 x ∨ B x) regs1 hR1 ⟨fun _ => Iff.rfl, fun x p q => hj.2 x ((hj2.1 x).2 (.inl p)) q⟩ hpl
          have hids1 : idsBL (stampL nx c).2 regs1 := plugL_ids (by simp only [idsB]; exact ⟨by omega, h2⟩) _ _ (idsBL_le h1 _ hI) hpl
          have hjj : join S A2 (fun x => A1 x ∨ B x) := by
            refine ⟨fun x => ?_, fun x p q => q.elim (fun q => hj2.2 x q p) (fun q => hj.2 x ((hj2.1 x).2 (.inr p)) q)⟩
            rw [hj.1 x, hj2.1 x]
            exact ⟨fun h => h.elim (fun h => h.elim (fun h => .inr (.inl h)) .inl) (fun h => .inr (.inr h)), fun h => h.elim (fun h => .inl (.inr h)) (fun h => h.elim (fun h => .inl (.inl h)) .inr)⟩
          obtain ⟨g1, g2, η2, g3, g4⟩ := plugOuts_ok azs os regs1 _ regs' nx' h η1 vs us' _ A2 S hpg hids1 (relSL_mono (n := nx) (Z' := Z) (w' := w) (fun b hb _ => ⟨hb, rfl⟩) h3 _ _ _ hai.2 (fun _ _ => rfl) ha2) (idsBL_le h1 _ hai.2) ho2 hjj
          exact ⟨by omega, g2, η2, fun i hi => by rw [g3 i (by omega), h3 i hi], g4⟩
        · cases h
      · cases h
    · rename_i j sz α f xs
      split at h
      · rename_i id
        split at h
        · rename_i regs1 hpl
          have hid : id < nx := hai.1
          have hv : v = η id := by simp only [relS] at ha1; exact ha1.1
          have hown : relS Z η w (.sl true id sz α f xs) (η id) A1 := by
            simp only [relS]
            refine ⟨fun _ => trivial, ?_⟩
            rw [← hv]; exact ho1
          have hpg := plugL_ok hown regs vs B (fun x => A1 x ∨ B x) regs1 hR ⟨fun _ => Iff.rfl, fun x p q => hj.2 x ((hj2.1 x).2 (.inl p)) q⟩ hpl
          have hids1 : idsBL nx regs1 := plugL_ids (by simp only [idsB]; exact fun _ => hid) _ _ hI hpl
          have hjj : join S A2 (fun x => A1 x ∨ B x) := by
            refine ⟨fun x => ?_, fun x p q => q.elim (fun q => hj2.2 x q p) (fun q => hj.2 x ((hj2.1 x).2 (.inr p)) q)⟩
            rw [hj.1 x, hj2.1 x]
            exact ⟨fun h => h.elim (fun h => h.elim (fun h => .inr (.inl h)) .inl) (fun h => .inr (.inr h)), fun h => h.elim (fun h => .inl (.inr h)) (fun h => h.elim (fun h => .inl (.inl h)) .inr)⟩
          exact plugOuts_ok azs os regs1 nx regs' nx' h η vs us' _ A2 S hpg hids1 ha2 hai.2 ho2 hjj
        · cases h
      · cases h
    · cases h

end Go.Eng
end
section
/- A call by its contract. -/
set_option linter.unusedVariables false
set_option linter.unusedSimpArgs false
namespace Go.Eng

def vcCallF (S : Sig) (s : St) (dst : Option Nat) (args : List AV) (K : St → Prop) : Prop :=
  ∃ x : S.X, S.pre x ∧ handL false ((S.args x).map movedE) s.regs args fun r1 =>
    handL (!S.keep) ((S.args x).map lentE) r1 args fun r2 =>
      ∀ y, S.post x y → match plugOuts r2 s.nx args (S.outs x y) with
        | some (r3, n3) => K ⟨setR r3 dst (stamp n3 (S.res x y)).1, (stamp n3 (S.res x y)).2⟩
        | none => False

theorem vcCallF_ok {P : Program} {f : FuncId} {S : Sig} {C : Ctx} (hc : Contract C.G P f S) {s : St} {dst : Option Nat} {args : List AV} {K : St → Prop} (h : vcCallF S s dst args K)
    {a : Act} {w : World} {η : Nat → Value} {Z T : FP} (hi : Inst C s a w η Z T) {us : List Value} (ha : relSL Z η w args us (fun _ => False)) (hai : idsBL s.nx args) :
    Calls P f us.toArray w fun e w' => ∃ v s', e = .returned v ∧ K s' ∧ Rel C s' (a.put dst v) w' := by
  obtain ⟨x, hpre, h⟩ := h
  obtain ⟨Z1, A1, B1, r1, h1⟩ := handL_ok _ s.regs args _ h Z a.tmps.toList us T (fun _ => False) T hi.rel hi.ids ha hai (join_emp_left T)
  have ha1 := relSL_mono (zmono (w := w) h1.zz) (fun _ _ => rfl) _ _ _ hai (fun _ _ => rfl) ha
  obtain ⟨Z2, A2, B2, r2, h2⟩ := handL_ok _ r1 args _ h1.k Z1 a.tmps.toList us B1 (fun _ => False) B1 h1.rel h1.ids ha1 hai (join_emp_left B1)
  have h12 := rel0L_mono (zmono (w := w) h2.zz) _ _ _ (fun _ _ => rfl) h1.got
  have hTZ : ∀ b, T b → Z b := fun b hb => (hi.own b hb).1
  have hA1T : ∀ b, A1 b → T b := fun b hb => h1.part b (.inl hb)
  have hB1T : ∀ b, B1 b → T b := fun b hb => h1.part b (.inr hb)
  have hA2B : ∀ b, A2 b → B1 b := fun b hb => h2.part b (.inl hb)
  have hB2B : ∀ b, B2 b → B1 b := fun b hb => h2.part b (.inr hb)
  have hB1Z : ∀ b, B1 b → Z1 b := fun b hb => h1.ownB rfl b hb (hTZ b (hB1T b hb))
  have hA1Z1 : ∀ b, A1 b → Z1 b := fun b hb => h1.ownA b hb (hTZ b (hA1T b hb))
  have hA1Z : ∀ b, A1 b → Z2 b := fun b hb => Classical.byContradiction fun hn => h1.dis b hb (h2.gone b (hA1Z1 b hb) hn)
  have hA2Z : ∀ b, A2 b → Z2 b := fun b hb => h2.ownA b hb (hB1Z b (hA2B b hb))
  have hjA : join (fun b => A1 b ∨ A2 b) A1 A2 := ⟨fun _ => Iff.rfl, fun b x y => h1.dis b x (hA2B b y)⟩
  have hargs := merge_rel _ _ _ _ _ h12 h2.got hjA
  have hAZ : ∀ b, A1 b ∨ A2 b → Z2 b ∧ b < w.heap.size := fun b hb =>
    ⟨hb.elim (hA1Z b) (hA2Z b), (hi.own b (hb.elim (hA1T b) (fun h => hB1T b (hA2B b h)))).2.1⟩
  refine (hc.2 x hpre Z2 w us _ (C.G.mono _ _ _ _ (fun b hb _ => ⟨fun x => hb (h1.zz b (h2.zz b x)), rfl⟩) hi.ok.glob) hargs hAZ).mono ?_
  rintro e w' ⟨y, v, Z', A', hpost, rfl, hres, haft⟩
  have hk := h2.k y hpost; have hkeep := hc.1.2 x y hpre hpost
  -- which slots go on, and at which view
  obtain ⟨Zr, B, hrB, hrI, hZr, hBA, hBT, hBB⟩ : ∃ Zr B, relSL Zr η w r2 a.tmps.toList B ∧ idsBL s.nx r2 ∧ (∀ b, ¬ Zr b → b < w.heap.size → ¬ (A1 b ∨ A2 b) ∧ ¬ B b ∧ ¬ Z2 b) ∧
      (∀ b, B b → ¬ (A1 b ∨ A2 b)) ∧ (∀ b, B b → T b) ∧ (S.keep = true → ∀ b, B b → Z2 b) := by
    rcases Bool.eq_false_or_eq_true S.keep with hk | hk
    · refine ⟨Z2, B2, h2.rel, h2.ids, fun b hz hb => ⟨fun x => hz (hAZ b x).1, fun x => ?_, hz⟩, fun b hb x => ?_, fun b hb => hB1T b (hB2B b hb), fun _ b hb => ?_⟩
      · exact hz (h2.ownB (by simp [hk]) b x (hB1Z b (hB2B b x)))
      · exact x.elim (fun x => h1.dis b x (hB2B b hb)) (fun x => h2.dis b x hb)
      · exact h2.ownB (by simp [hk]) b hb (hB1Z b (hB2B b hb))
    · have hfix := h2.fix (by simp [hk])
      have hA2e : ∀ b, ¬ A2 b := fun b hb => h2.stay (by simp [hk]) b hb
      refine ⟨Z1, B1, by rw [hfix]; exact h1.rel, h2.ids, fun b hz hb => ⟨fun x => hz (h2.zz b (hAZ b x).1), fun x => hz (hB1Z b x), fun x => hz (h2.zz b x)⟩, fun b hb x => ?_, hB1T, fun hh => ?_⟩
      · exact x.elim (fun x => h1.dis b x hb) (hA2e b)
      · rw [hk] at hh; cases hh
  -- the view behind the call
  let Zc : FP := fun b => Z' b ∨ B b
  have hold : ∀ b, b < w.heap.size → ¬ (A1 b ∨ A2 b) → w'.heap[b]? = w.heap[b]? ∧ (Z' b ↔ Z2 b) := haft.old
  have hr2 : relSL Zc η w' r2 a.tmps.toList B := by
    refine relSL_mono (n := s.nx) (fun b hz hb => ?_) (fun _ _ => rfl) _ _ _ hrI (fun b hb => ?_) hrB
    · obtain ⟨g1, g2, g3⟩ := hZr b hz hb
      obtain ⟨g4, g5⟩ := hold b hb g1
      exact ⟨fun x => x.elim (fun x => g3 (g5.1 x)) g2, g4⟩
    · exact (hold b (hi.own b (hBT b hb)).2.1 (hBA b hb)).1
  have hargs' : relSL Zc η w' args us (fun _ => False) := by
    refine relSL_mono (n := s.nx) (fun b hz hb => ?_) (fun _ _ => rfl) _ _ _ hai (fun b hb => hb.elim) ha
    have g1 : ¬ (A1 b ∨ A2 b) := fun x => hz (h1.zz b (h2.zz b (hAZ b x).1))
    obtain ⟨g4, g5⟩ := hold b hb g1
    exact ⟨fun x => x.elim (fun x => hz (h1.zz b (h2.zz b (g5.1 x)))) (fun x => hz (hTZ b (hBT b x))), g4⟩
  have hres' : rel0L Zc w' (S.res x y :: S.outs x y) (v :: us) A' := by
    rcases Bool.eq_false_or_eq_true S.keep with hk | hk
    · refine rel0L_mono (fun b hz hb => ⟨fun x => x.elim hz (fun x => hz ?_), rfl⟩) _ _ _ (fun _ _ => rfl) hres
      exact (hold b (hi.own b (hBT b x)).2.1 (hBA b x)).2.2 (hBB hk b x)
    · rw [hk] at hkeep
      exact cleanL_rel _ _ _ hkeep hres
  have hA'own := haft.own
  simp only [rel0L] at hres'
  obtain ⟨v', us', Ar, Ao, e1, hjr, hr1, hr3⟩ := hres'
  simp only [List.cons.injEq] at e1
  obtain ⟨rfl, rfl⟩ := e1
  have hBA' : ∀ b, B b → ¬ A' b := fun b hb x => hBA b hb ((hA'own b x).2.2 (hi.own b (hBT b hb)).2.1)
  split at hk
  · rename_i r3 n3 hpl
    obtain ⟨p1, p2, η1, p3, p4⟩ := plugOuts_ok args _ r2 s.nx r3 n3 hpl η a.tmps.toList us B Ao (fun b => Ao b ∨ B b) hr2 hrI hargs' hai hr3
      ⟨fun _ => Iff.rfl, fun b x y => hBA' b y ((hjr.1 b).2 (.inr x))⟩
    obtain ⟨q1, q2, η2, q3, q4⟩ := stamp_ok (S.res x y) n3 v Ar η1 hr1
    have hv := q4 η2 (fun _ _ => rfl)
    have p5 := relSL_mono (n := n3) (Z' := Zc) (w' := w') (fun b hb _ => ⟨hb, rfl⟩) q3 _ _ _ p2 (fun _ _ => rfl) p4
    refine ⟨v, _, rfl, hk, ?_⟩
    obtain ⟨S', hS', hfin⟩ : ∃ S', (∀ b, S' b → A' b ∨ B b) ∧ relSL Zc η2 w' (setR r3 dst (stamp n3 (S.res x y)).1) (a.put dst v).tmps.toList S' := by
      cases dst with
      | none => exact ⟨_, fun b hb => hb.elim (fun h => .inl ((hjr.1 b).2 (.inr h))) .inr, p5⟩
      | some d =>
        rw [put_toList]
        simp only [setR]
        rcases Nat.lt_or_ge d r3.length with hd | hd
        · obtain ⟨S', hs, hr⟩ := relSL_put_own p5 hd hv (fun b x y => y.elim (fun y => hjr.2 b x y) (fun y => hBA' b y ((hjr.1 b).2 (.inl x))))
          exact ⟨S', fun b hb => (hs b hb).elim (fun h => h.elim (fun h => .inl ((hjr.1 b).2 (.inr h))) .inr) (fun h => .inl ((hjr.1 b).2 (.inl h))), hr⟩
        · rw [List.set_eq_of_length_le hd, List.set_eq_of_length_le (by rw [relSL_len _ _ _ p5]; exact hd)]
          exact ⟨_, fun b hb => hb.elim (fun h => .inl ((hjr.1 b).2 (.inr h))) .inr, p5⟩
    refine ⟨η2, Zc, S', ⟨by rw [put_defers]; exact hi.defers, hfin, ?_, fun b hb => ?_, ?_⟩⟩
    · cases dst with
      | none => exact idsBL_le q1 _ p2
      | some d => exact idsBL_set _ _ _ (idsBL_le q1 _ p2) q2
    · rcases hS' b hb with hb | hb
      · obtain ⟨g1, g2, g3⟩ := hA'own b hb
        refine ⟨.inl g1, g2, fun h0 => ?_⟩
        have hTb : T b := (g3 (Nat.lt_of_lt_of_le h0 hi.ok.size)).elim (hA1T b) (fun h => hB1T b (hA2B b h))
        exact (hi.own b hTb).2.2 h0
      · exact ⟨.inr hb, Nat.lt_of_lt_of_le (hi.own b (hBT b hb)).2.1 haft.size, fun h0 => (hi.own b (hBT b hb)).2.2 h0⟩
    · refine ⟨haft.os.trans hi.ok.os, haft.tape.trans hi.ok.tape, haft.output.trans hi.ok.output, Nat.le_trans hi.ok.size haft.size, fun b h0 hs => ?_⟩
      have hnT : ¬ T b := fun x => hs ((hi.own b x).2.2 h0)
      have hnA : ¬ (A1 b ∨ A2 b) := fun x => hnT (x.elim (hA1T b) (fun h => hB1T b (hA2B b h)))
      obtain ⟨g1, g2⟩ := hold b (Nat.lt_of_lt_of_le h0 hi.ok.size) hnA
      obtain ⟨g3, g4⟩ := hi.ok.old b h0 hs
      refine ⟨g1.trans g3, ⟨fun x => ?_, fun x => ?_⟩⟩
      · rcases x with x | x
        · exact g4.1 (h1.zz b (h2.zz b (g2.1 x)))
        · exact (hnT (hBT b x)).elim
      · refine .inl (g2.2 ?_)
        have z0 := g4.2 x
        have z1 : Z1 b := Classical.byContradiction fun hn => hnT (h1.gone b z0 hn)
        exact Classical.byContradiction fun hn => hnT (hB1T b (h2.gone b z1 hn))
  · exact hk.elim

end Go.Eng
end
section
/- Steps that make or write memory: the common part; boxes. -/
set_option linter.unusedVariables false
set_option linter.unusedSimpArgs false
namespace Go.Eng

structure Grew (w w' : World) (A : FP) : Prop where
  os : w'.os = w.os
  tape : w'.tape = w.tape
  output : w'.output = w.output
  size : w.heap.size ≤ w'.heap.size
  old : ∀ b, b < w.heap.size → ¬ A b → w'.heap[b]? = w.heap[b]?

theorem Inst.next {C : Ctx} {s : St} {a : Act} {w : World} {η : Nat → Value} {Z T : FP} (hi : Inst C s a w η Z T) {Z1 A1 : FP}
    (hzz : ∀ b, Z1 b → Z b) (hgone : ∀ b, Z b → ¬ Z1 b → T b) (hA1T : ∀ b, A1 b → T b)
    {w' : World} (hg : Grew w w' A1) {regs' : List AV} {n' : Nat} {η' : Nat → Value} {S' : FP} {a' : Act} (hd : a'.defers = a.defers)
    (hrel : relSL (fun c => Z1 c ∨ w.heap.size ≤ c) η' w' regs' a'.tmps.toList S') (hids : idsBL n' regs')
    (hS' : ∀ b, S' b → (Z1 b ∨ w.heap.size ≤ b) ∧ (T b ∨ w.heap.size ≤ b) ∧ b < w'.heap.size) :
    Inst C ⟨regs', n'⟩ a' w' η' (fun c => Z1 c ∨ w.heap.size ≤ c) S' := by
  refine ⟨hd.trans hi.defers, hrel, hids, fun b hb => ?_, ?_⟩
  · obtain ⟨g1, g2, g3⟩ := hS' b hb
    refine ⟨g1, g3, fun h0 => ?_⟩
    rcases g2 with g2 | g2
    · exact (hi.own b g2).2.2 h0
    · exact absurd (Nat.lt_of_lt_of_le h0 hi.ok.size) (by omega)
  · refine ⟨hg.os.trans hi.ok.os, hg.tape.trans hi.ok.tape, hg.output.trans hi.ok.output, Nat.le_trans hi.ok.size hg.size, fun b h0 hs => ?_⟩
    have hnT : ¬ T b := fun x => hs ((hi.own b x).2.2 h0)
    have hlt := Nat.lt_of_lt_of_le h0 hi.ok.size
    obtain ⟨g3, g4⟩ := hi.ok.old b h0 hs
    refine ⟨(hg.old b hlt (fun x => hnT (hA1T b x))).trans g3, ⟨fun x => ?_, fun x => ?_⟩⟩
    · rcases x with x | x
      · exact g4.1 (hzz b x)
      · omega
    · exact .inl (Classical.byContradiction fun hn => hnT (hgone b (g4.2 x) hn))

/- a thing of its own put into a slot -/
theorem Inst.putOwn {C : Ctx} {s : St} {a : Act} {w : World} {η : Nat → Value} {Z T : FP} (hi : Inst C s a w η Z T) {Z1 A1 B1 : FP} {regs1 : List AV}
    (hr : relSL Z1 η w regs1 a.tmps.toList B1) (hids : idsBL s.nx regs1)
    (hzz : ∀ b, Z1 b → Z b) (hgone : ∀ b, Z b → ¬ Z1 b → T b) (hA1T : ∀ b, A1 b → T b) (hB1T : ∀ b, B1 b → T b) (hdis : ∀ b, A1 b → B1 b → False)
    (hA1Z : ∀ b, A1 b → Z1 b) (hB1Z : ∀ b, B1 b → Z1 b)
    {w' : World} (hg : Grew w w' A1) {r : AV} {v : Value} {n' : Nat} {A' : FP} {η' : Nat → Value} (hn : s.nx ≤ n') (hη : ∀ i, i < s.nx → η' i = η i)
    (hrr : relS (fun c => Z1 c ∨ w.heap.size ≤ c) η' w' r v A') (hri : idsB n' r) (hA' : ∀ b, A' b → (A1 b ∨ w.heap.size ≤ b) ∧ b < w'.heap.size) (dst : Option Nat) :
    Rel C ⟨setR regs1 dst r, n'⟩ (a.put dst v) w' := by
  have hr' : relSL (fun c => Z1 c ∨ w.heap.size ≤ c) η' w' regs1 a.tmps.toList B1 := by
    refine relSL_mono (n := s.nx) (fun b hz hb => ⟨fun x => x.elim hz (fun x => by omega), hg.old b hb (fun x => hz (hA1Z b x))⟩) hη _ _ _ hids (fun b hb => ?_) hr
    exact hg.old b (hi.own b (hB1T b hb)).2.1 (fun x => hdis b x hb)
  have hlt : ∀ b, B1 b → b < w.heap.size := fun b hb => (hi.own b (hB1T b hb)).2.1
  obtain ⟨S', hS', hfin⟩ : ∃ S', (∀ b, S' b → B1 b ∨ A' b) ∧ relSL (fun c => Z1 c ∨ w.heap.size ≤ c) η' w' (setR regs1 dst r) (a.put dst v).tmps.toList S' := by
    cases dst with
    | none => exact ⟨_, fun b hb => .inl hb, hr'⟩
    | some d =>
      rw [put_toList]
      simp only [setR]
      rcases Nat.lt_or_ge d regs1.length with hd | hd
      · exact relSL_put_own hr' hd hrr (fun b x y => (hA' b x).1.elim (fun x => hdis b x y) (fun x => by have := hlt b y; omega))
      · rw [List.set_eq_of_length_le hd, List.set_eq_of_length_le (by rw [relSL_len _ _ _ hr']; exact hd)]
        exact ⟨_, fun b hb => .inl hb, hr'⟩
  refine ⟨η', _, S', hi.next hzz hgone hA1T hg (by rw [put_defers]) hfin ?_ (fun b hb => ?_)⟩
  · cases dst with
    | none => exact idsBL_le hn _ hids
    | some d => exact idsBL_set _ _ _ (idsBL_le hn _ hids) hri
  · rcases hS' b hb with hb | hb
    · exact ⟨.inl (hB1Z b hb), .inl (hB1T b hb), Nat.lt_of_lt_of_le (hlt b hb) hg.size⟩
    · obtain ⟨g1, g2⟩ := hA' b hb
      exact ⟨g1.imp (hA1Z b) id, g1.imp (hA1T b) id, g2⟩

def pushed (w : World) (o : Obj) : World := { w with heap := w.heap.push o }
theorem pushed_grew (w : World) (o : Obj) (A : FP) : Grew w (pushed w o) A :=
  ⟨rfl, rfl, rfl, by simp [pushed], fun b hb _ => by simp only [pushed]; rw [Array.getElem?_push, if_neg (by omega)]⟩
theorem pushed_new (w : World) (o : Obj) : (pushed w o).heap[w.heap.size]? = some o := by
  show (w.heap.push o)[w.heap.size]? = some o
  rw [Array.getElem?_push, if_pos rfl]
theorem pushed_size (w : World) (o : Obj) : (pushed w o).heap.size = w.heap.size + 1 := by simp [pushed]
theorem run_newRow {P : Program} {e : TypeId} {cells : Array Value} {w : World} : (newRow e cells).run P w = .ok (ad w.heap.size 0) (pushed w (.cells cells e (0, 0))) := rfl

/- a block of its own for a variable -/
def vcBox (s : St) (dst : Option Nat) (x : AV) (K : St → Prop) : Prop :=
  match leavesOf x with
  | some ls => K ⟨setR s.regs dst (.box s.nx ls), s.nx + 1⟩
  | none => False

theorem vcBox_ok {P : Program} {s : St} {dst : Option Nat} {x : AV} {K : St → Prop} (h : vcBox s dst x K) {C : Ctx} {a : Act} {w : World} {η : Nat → Value} {Z T : FP}
    (hi : Inst C s a w η Z T) {v : Value} (hx : relS Z η w x v (fun _ => False)) (hxi : idsB s.nx x) (e : TypeId) :
    ∃ u w' s', (do pure (Value.pointer (some (← newVar e v))) : Sem Value).run P w = .ok u w' ∧ K s' ∧ Rel C s' (a.put dst u) w' := by
  unfold vcBox at h
  split at h
  · rename_i ls hl
    obtain ⟨hr, hc⟩ := leaves_rel hx hl
    refine ⟨.pointer (some (ad w.heap.size 0)), pushed w (.cells v.cells e (0, 0)), _, by unfold newVar; rw [run_bind_ok run_newRow]; rfl, h, ?_⟩
    have hids : idsBL s.nx ls := by
      cases x <;> simp only [leavesOf, Option.some.injEq, reduceCtorEq] at hl <;> try (subst hl; exact ⟨hxi, trivial⟩)
      case agg fs =>
        split at hl
        · simp only [Option.some.injEq] at hl; subst hl; simpa only [idsB] using hxi
        · cases hl
    refine hi.putOwn (A1 := fun _ => False) (η' := fun i => if i = s.nx then .pointer (some (ad w.heap.size 0)) else η i) (A' := one w.heap.size) hi.rel hi.ids (fun _ h => h) (fun _ h h' => (h' h).elim) (fun _ h => h.elim)
      (fun _ h => h) (fun _ h => h.elim) (fun _ h => h.elim) (fun b hb => (hi.own b hb).1) (pushed_grew _ _ _) (Nat.le_succ _) (fun i hi => if_neg (by omega)) ?_ ?_ ?_ dst
    · simp only [relS]
      refine ⟨by simp, w.heap.size, v.cells, e, fun _ => False, rfl, pushed_new _ _, ?_, join_emp_right _⟩
      exact relSL_mono (n := s.nx) (fun b hz hb => ⟨fun x => x.elim hz (fun x => by omega), (pushed_grew w _ (fun _ => False)).old b hb id⟩) (fun i hi => if_neg (by omega)) _ _ _ hids (fun b hb => hb.elim) hr
    · simp only [idsB]; exact ⟨Nat.lt_succ_self _, idsBL_le (Nat.le_succ _) _ hids⟩
    · intro b hb; rw [pushed_size]; simp only [one] at hb; omega
  · exact h.elim

end Go.Eng
end
section
/- A part of a slice of one's own, which is one's own then. -/
set_option linter.unusedVariables false
set_option linter.unusedSimpArgs false
namespace Go.Eng

def vcSliceOwn (P : Program) (s : St) (dst : Option Nat) (t : TypeId) (id : Nat) (lo hi : Option AV) (K : St → Prop) : Prop :=
  match takeL id s.regs with
  | some (.sl true j sz α f xs, r1) => match elemOfT P t with
    | some (_, es) => match Nat.beq sz es with
      | true => match boundOf 0 lo, boundOf xs.length hi with
        | some p, some q => (0 ≤ p ∧ p ≤ q ∧ q ≤ (xs.length : Int)) ∧ K ⟨setR r1 dst (.sl true s.nx sz α f (cutL lo.isSome hi.isSome p q xs)), s.nx + 1⟩
        | _, _ => False
      | false => False
    | none => False
  | _ => False

theorem vcSliceOwn_ok {P : Program} {s : St} {dst : Option Nat} {t : TypeId} {id : Nat} {lo hi : Option AV} {K : St → Prop} (h : vcSliceOwn P s dst t id lo hi K)
    {C : Ctx} {a : Act} {w : World} {η : Nat → Value} {Z T : FP} (hin : Inst C s a w η Z T) {xv : Value} {lov hiv : Option Value} (hx : relS Z η w (.al id) xv (fun _ => False))
    (hlo : ∀ a, lo = some a → ∃ v, lov = some v ∧ relS Z η w a v (fun _ => False)) (hlon : lo = none → lov = none)
    (hhi : ∀ a, hi = some a → ∃ v, hiv = some v ∧ relS Z η w a v (fun _ => False)) (hhin : hi = none → hiv = none) :
    ∃ u w' s', (Instr.sliceAt t xv lov hiv none).run P w = .ok u w' ∧ K s' ∧ Rel C s' (a.put dst u) w' := by
  unfold vcSliceOwn at h
  split at h
  rotate_left
  · exact h.elim
  rename_i j sz α f xs r1 htake
  split at h
  rotate_left
  · exact h.elim
  rename_i e es he
  obtain ⟨hu, inf, hinf, hsz⟩ := elemOfT_ok he
  split at h
  rotate_left
  · exact h.elim
  rename_i hb
  have hb := Nat.eq_of_beq_eq_true hb
  subst hb
  split at h
  rotate_left
  · exact h.elim
  rename_i p q hp hq
  obtain ⟨⟨h0, h1, h2⟩, h⟩ := h
  rw [cutL_eq hp hq] at h
  obtain ⟨A, B, hj, hown, ho, hr1⟩ := takeL_ok _ _ T _ _ hin.rel htake
  obtain ⟨hid, hoi, hri⟩ := takeL_ids _ _ _ hin.ids htake
  simp only [relS] at hx
  rw [hx.1]
  simp only [relS, rel0] at ho
  obtain ⟨_, a0, n', c, ev, hn, hc, hr⟩ := ho
  rcases hr with ⟨_, hr⟩ | ⟨hh, _⟩
  rotate_left
  · cases hh
  rw [ev]
  subst hn
  have hrun : (Instr.sliceAt t (.slice a0 xs.length c) lov hiv none).run P w = .ok (.slice (if c = p.toNat then a0 else a0.map (·.add (p.toNat * sz))) (q.toNat - p.toNat) (c - p.toNat)) w := by
    unfold Instr.sliceAt Instr.slice
    rw [run_bind_ok (run_underlying hu w)]
    simp only []
    rw [run_bind_ok (run_underlying hu w)]
    simp only []
    rw [run_bind_ok (run_bounds hc h0 h1 h2 (boundOf_ok hp hlo hlon) (boundOf_ok hq hhi hhin))]
    simp only []
    rw [run_bind_ok (run_sizeOf hinf w), hsz]; rfl
  have hAT : ∀ b, A b → T b := fun b hb => (hj.1 b).2 (.inl hb)
  have hBT : ∀ b, B b → T b := fun b hb => (hj.1 b).2 (.inr hb)
  let v : Value := .slice (if c = p.toNat then a0 else a0.map (·.add (p.toNat * sz))) (q.toNat - p.toNat) (c - p.toNat)
  obtain ⟨A', hA', hnew⟩ : ∃ A', (∀ b, A' b → A b) ∧ rel0 Z w (.sl true s.nx sz α f ((xs.take q.toNat).drop p.toNat)) v A' := by
    rcases hr with ⟨ha, hcz, hAe⟩ | ⟨b, off, arr, ty, S1, ha, hbk, hfit, hrows, hjb⟩
    · refine ⟨fun _ => False, fun _ h => h.elim, ?_⟩
      subst ha
      simp only [rel0]
      have : p.toNat = 0 := by omega
      refine ⟨none, q.toNat - p.toNat, c - p.toNat, by simp [v], by simp; omega, by omega, .inl ⟨trivial, .inl ⟨rfl, by omega, emp_false⟩⟩⟩
    · subst ha
      obtain ⟨S2, hs2, hr2⟩ := Rows_take q.toNat xs _ _ hrows
      obtain ⟨S3, hs3, hr3⟩ := Rows_drop p.toNat _ _ _ hr2
      rw [List.drop_drop] at hr3
      have hS31 : ∀ x, S3 x → S1 x := fun x hx => hs2 x (hs3 x hx)
      have hj3 : join (fun x => one b x ∨ S3 x) (one b) S3 := ⟨fun _ => Iff.rfl, fun x y z => hjb.2 x y (hS31 x z)⟩
      refine ⟨fun x => one b x ∨ S3 x, fun x hx => (hjb.1 x).2 (hx.imp (fun h => h) (hS31 x)), ?_⟩
      have hqp : q.toNat - p.toNat = ((xs.take q.toNat).drop p.toNat).length := by simp; omega
      by_cases hcp : c = p.toNat
      · have hnil : (xs.take q.toNat).drop p.toNat = [] := by
          apply List.drop_eq_nil_of_le; simp; omega
        have hS3 : emp S3 := by rw [hnil] at hr3; exact hr3
        rw [hnil]
        simp only [rel0]
        refine ⟨some ⟨b, off, none⟩, q.toNat - p.toNat, c - p.toNat, by simp [v, hcp], by rw [hqp, hnil], by omega, .inl ⟨trivial, .inr ⟨b, off, arr, ty, S3, rfl, hbk, ?_, ?_, hj3⟩⟩⟩
        · have : c - p.toNat = 0 := by omega
          rw [this]; have : 0 ≤ c * sz := Nat.zero_le _; omega
        · exact hS3
      · simp only [rel0]
        refine ⟨some (ad b (off + p.toNat * sz)), q.toNat - p.toNat, c - p.toNat, ?_, hqp, by omega, .inl ⟨trivial, .inr ⟨b, off + p.toNat * sz, arr, ty, S3, rfl, hbk, ?_, hr3, hj3⟩⟩⟩
        · simp only [v, if_neg hcp]
          exact congrArg (fun x => Value.slice (some x) _ _) (ad_add b off _)
        · have : (c - p.toNat) * sz + p.toNat * sz = c * sz := by rw [← Nat.add_mul]; congr 1; omega
          omega
  refine ⟨v, w, _, hrun, h, ?_⟩
  have hcell : isCell v := rel0_sl_cells hnew
  refine hin.putOwn (A1 := A) (B1 := B) (A' := A') (η' := fun i => if i = s.nx then v else η i) hr1 hri (fun _ h => h) (fun _ h h' => (h' h).elim) hAT hBT (fun b x y => hj.2 b x y)
    (fun b hb => (hin.own b (hAT b hb)).1) (fun b hb => (hin.own b (hBT b hb)).1) (w' := w) ⟨rfl, rfl, rfl, Nat.le_refl _, fun _ _ _ => rfl⟩ (Nat.le_succ _) (fun i hi => if_neg (by omega)) ?_ ?_ ?_ dst
  · simp only [relS]
    refine ⟨fun _ => by simp, ?_⟩
    exact rel0_mono (fun b hz hb => ⟨fun x => x.elim hz (fun x => by omega), rfl⟩) _ _ _ (fun _ _ => rfl) hnew
  · simp only [idsB]; exact fun _ => Nat.lt_succ_self _
  · intro b hb; exact ⟨.inl (hA' b hb), (hin.own b (hAT b (hA' b hb))).2.1⟩
end Go.Eng
end
section
/- Rows that the call makes: written out, and of one value. -/
set_option linter.unusedVariables false
set_option linter.unusedSimpArgs false
namespace Go.Eng

structure ES : Type 1 where
  α : Type
  f : α → List AV

/- cells written over -/
def overV (l : List Value) (off : Nat) (cs : List Value) : List Value := over l off cs
theorem fold_set (l : List Value) : ∀ (cs : List Value) (j : Nat) (arr : Array Value) (off : Nat), off + j + cs.length ≤ arr.size →
    ((cs.zipIdx j).foldl (fun (a : Array Value) (p : Value × Nat) => a.setIfInBounds (off + p.2) p.1) arr).toList = over arr.toList (off + j) cs
  | [], j, arr, off, h => by simp [over]
  | c :: cs, j, arr, off, h => by
    simp only [List.zipIdx_cons, List.foldl_cons]
    rw [fold_set l cs (j + 1) _ off (by simp at h ⊢; omega)]
    simp only [over, Array.toList_setIfInBounds]
    have hlt : off + j < arr.toList.length := by simp at h ⊢; omega
    have e1 : (arr.toList.set (off + j) c).take (off + (j + 1)) = arr.toList.take (off + j) ++ [c] := by
      rw [show off + (j + 1) = off + j + 1 by omega]
      rw [List.take_succ_eq_append_getElem (by simpa using hlt)]
      simp [List.take_set_of_le]
    have e2 : (arr.toList.set (off + j) c).drop (off + (j + 1) + cs.length) = arr.toList.drop (off + j + (c :: cs).length) := by
      rw [List.drop_set_of_lt (by omega)]; congr 1; simp; omega
    rw [e1, e2]; simp

theorem fill_ok (sz : Nat) : ∀ (vs : List Value) (j : Nat) (cells : Array Value), (∀ v ∈ vs, v.cells.size = sz) → (j + vs.length) * sz ≤ cells.size →
    ∃ out : Array Value, Instr.fill (fun i => some (i * sz, sz)) cells ((vs.zipIdx j).map fun p => (p.2, p.1)) = some out ∧
      out.toList = over cells.toList (j * sz) (vs.map (·.cells.toList)).flatten
  | [], j, cells, hv, hl => ⟨cells, by simp [Instr.fill], by simp [over]⟩
  | v :: vs, j, cells, hv, hl => by
    have hsz : v.cells.size = sz := hv v (by simp)
    have hl' : j * sz + sz + vs.length * sz ≤ cells.size := by
      have : (j + (v :: vs).length) * sz = j * sz + sz + vs.length * sz := by simp [Nat.add_mul]; omega
      omega
    simp only [List.zipIdx_cons, List.map_cons, Instr.fill]
    rw [if_neg (by simp [hsz]; omega)]
    have hf := fold_set [] v.cells.toList 0 cells (j * sz) (by simp [hsz]; omega)
    have hfold : (v.cells.zipIdx.foldl (fun cs (x : Value × Nat) => cs.setIfInBounds (j * sz + x.2) x.1) cells) =
        ((v.cells.toList.zipIdx 0).foldl (fun (a : Array Value) (p : Value × Nat) => a.setIfInBounds (j * sz + p.2) p.1) cells) := by
      rw [← Array.foldl_toList]; simp
    rw [← hfold] at hf
    have hlen : (over cells.toList (j * sz + 0) v.cells.toList).length = cells.toList.length := over_length (by simp [hsz]; omega)
    obtain ⟨out, ho, hout⟩ := fill_ok sz vs (j + 1) (v.cells.zipIdx.foldl (fun cs (x : Value × Nat) => cs.setIfInBounds (j * sz + x.2) x.1) cells) (fun u hu => hv u (by simp [hu])) (by
      have : (v.cells.zipIdx.foldl (fun cs (x : Value × Nat) => cs.setIfInBounds (j * sz + x.2) x.1) cells).size = cells.size := by
        rw [← Array.length_toList, hf, hlen]; simp
      rw [this]; simp [Nat.add_mul]; omega)
    refine ⟨out, ho, ?_⟩
    rw [hout, hf]
    have hvl : v.cells.toList.length = sz := by simp [hsz]
    simp only [over, Nat.add_zero, List.map_cons, List.flatten_cons]
    have e : (j + 1) * sz = j * sz + sz := by simp [Nat.add_mul]
    rw [e]
    have hjl : (cells.toList.take (j * sz)).length = j * sz := by simp; omega
    have t1 : (cells.toList.take (j * sz) ++ v.cells.toList ++ cells.toList.drop (j * sz + v.cells.toList.length)).take (j * sz + sz) = cells.toList.take (j * sz) ++ v.cells.toList := by
      rw [List.take_append_of_le_length (by rw [List.length_append, hjl, hvl]; omega)]
      rw [List.take_of_length_le (by rw [List.length_append, hjl, hvl]; omega)]
    have t2 : ∀ m, (cells.toList.take (j * sz) ++ v.cells.toList ++ cells.toList.drop (j * sz + v.cells.toList.length)).drop (j * sz + sz + m) = cells.toList.drop (j * sz + sz + m) := by
      intro m
      rw [List.drop_append]
      have : (cells.toList.take (j * sz) ++ v.cells.toList).length = j * sz + sz := by rw [List.length_append, hjl, hvl]
      rw [this, List.drop_of_length_le (by rw [this]; omega), List.drop_drop, hvl]
      simp only [List.nil_append]; congr 1; omega
    rw [t1, t2]
    simp only [List.append_assoc, List.length_append, hvl, Nat.add_assoc]

/- the parts of a row, each handed over -/
def vcParts {α : Type} (f : α → List AV) : List (List AV) → List AV → (List α → List AV → Prop) → Prop
  | [], regs, K => K [] regs
  | l :: ls, regs, K => ∃ x : α, handL false (f x) regs l fun regs' => vcParts f ls regs' fun xs => K (x :: xs)

theorem Rows_append_cells {α : Type} {sz : Nat} {R : α → List Value → FP → Prop} : ∀ (xs : List α) (cs rest : List Value) (S : FP), Rows sz R xs cs S → xs.length * sz ≤ cs.length → Rows sz R xs (cs ++ rest) S
  | [], cs, rest, S, h, _ => h
  | x :: xs, cs, rest, S, h, hl => by
    obtain ⟨A, B, hj, hl2, h1, h2⟩ := h
    have hs : sz ≤ cs.length := by simp [Nat.succ_mul] at hl; omega
    refine ⟨A, B, hj, ?_, ?_, ?_⟩
    · rw [List.take_append_of_le_length hs]; exact hl2
    · rw [List.take_append_of_le_length hs]; exact h1
    · rw [List.drop_append_of_le_length hs]
      exact Rows_append_cells xs _ rest B h2 (by simp [Nat.succ_mul] at hl ⊢; omega)

theorem vcParts_ok {η : Nat → Value} {w : World} {n : Nat} {α : Type} {f : α → List AV} (sz : Nat) : ∀ (ls : List (List AV)) (regs : List AV) (K : List α → List AV → Prop), vcParts f ls regs K →
    ∀ (Z : FP) (vs : List Value) (css : List (List Value)) (B : FP), relSL Z η w regs vs B → idsBL n regs → css.length = ls.length →
    (∀ (i : Nat) (l : List AV) (cs : List Value), ls[i]? = some l → css[i]? = some cs → relSL Z η w l cs (fun _ => False) ∧ idsBL n l ∧ cs.length = sz) → (∀ b, B b → Z b) →
    ∃ Z' A' B' regs' xs, relSL Z' η w regs' vs B' ∧ idsBL n regs' ∧ Rows sz (fun x cs A => rel0L Z' w (f x) cs A) xs css.flatten A' ∧ xs.length = ls.length ∧
      (∀ b, Z' b → Z b) ∧ (∀ b, Z b → ¬ Z' b → B b) ∧ (∀ b, A' b ∨ B' b → B b) ∧ (∀ b, A' b → B' b → False) ∧ (∀ b, A' b → Z' b) ∧ (∀ b, B' b → Z' b) ∧ K xs regs'
  | [], regs, K, h, Z, vs, css, B, hR, hI, hl, hp, hB => by
    have : css = [] := List.length_eq_zero_iff.1 hl
    subst this
    exact ⟨Z, fun _ => False, B, regs, [], hR, hI, emp_false, rfl, fun _ h => h, fun _ h h' => (h' h).elim, fun b h => h.resolve_left id, fun _ h => h.elim, fun _ h => h.elim, hB, h⟩
  | l :: ls, regs, K, h, Z, vs, css, B, hR, hI, hl, hp, hB => by
    obtain ⟨x, h⟩ := h
    cases css with
    | nil => simp at hl
    | cons cs css =>
      obtain ⟨g1, g2, g3⟩ := hp 0 l cs rfl rfl
      obtain ⟨Z1, A1, B1, r1, ho⟩ := handL_ok (f x) regs l _ h Z vs cs B (fun _ => False) B hR hI g1 g2 (join_emp_left B)
      have hB1 : ∀ b, B1 b → Z1 b := fun b hb => ho.ownB rfl b hb (hB b (ho.part b (.inr hb)))
      have hA1 : ∀ b, A1 b → Z1 b := fun b hb => ho.ownA b hb (hB b (ho.part b (.inl hb)))
      obtain ⟨Z2, A2, B2, r2, xs, k1, k2, k3, k4, k5, k6, k7, k8, k9, k10, k11⟩ := vcParts_ok sz ls r1 _ ho.k Z1 vs css B1 ho.rel ho.ids (by simpa using hl)
        (fun i l' cs' h1 h2 => by
          obtain ⟨p1, p2, p3⟩ := hp (i + 1) l' cs' (by simpa using h1) (by simpa using h2)
          exact ⟨relSL_mono (zmono (w := w) ho.zz) (fun _ _ => rfl) _ _ _ p2 (fun _ _ => rfl) p1, p2, p3⟩) hB1
      have hA1Z2 : ∀ b, A1 b → Z2 b := fun b hb => Classical.byContradiction fun hn => ho.dis b hb (k6 b (hA1 b hb) hn)
      refine ⟨Z2, fun b => A1 b ∨ A2 b, B2, r2, x :: xs, k1, k2, ?_, by simp [k4], fun b hb => ho.zz b (k5 b hb), ?_, ?_, ?_, ?_, k10, k11⟩
      · refine ⟨A1, A2, ⟨fun _ => Iff.rfl, fun b p q => ho.dis b p (k7 b (.inl q))⟩, ?_, ?_, ?_⟩
        · simp [g3]
        · simp only [List.flatten_cons]
          rw [List.take_append_of_le_length (by omega), List.take_of_length_le (by omega)]
          exact rel0L_mono (zmono k5) _ _ _ (fun _ _ => rfl) ho.got
        · simp only [List.flatten_cons]
          rw [List.drop_append_of_le_length (by omega), List.drop_of_length_le (by omega)]
          exact k3
      · intro b hz hz2
        by_cases hz1 : Z1 b
        · exact ho.part b (.inr (k6 b hz1 hz2))
        · exact ho.gone b hz hz1
      · intro b hb
        rcases hb with (hb | hb) | hb
        · exact ho.part b (.inl hb)
        · exact ho.part b (.inr (k7 b (.inl hb)))
        · exact ho.part b (.inr (k7 b (.inr hb)))
      · intro b hb hc
        rcases hb with hb | hb
        · exact ho.dis b hb (k7 b (.inr hc))
        · exact k8 b hb hc
      · intro b hb
        exact hb.elim (hA1Z2 b) (k9 b)

def leavesAll (regs : List AV) (sz : Nat) : List (Nat × Operand) → Nat → Option (List (List AV))
  | [], _ => some []
  | (i, x) :: ps, j => match Nat.beq i j with
    | true => match leavesOf (opAV regs x) with
      | some l => match Nat.beq l.length sz with
        | true => match leavesAll regs sz ps (j + 1) with
          | some ls => some (l :: ls)
          | none => none
        | false => none
      | none => none
    | false => none

theorem leavesOf_ids {n : Nat} {x : AV} {ls : List AV} (hxi : idsB n x) (hl : leavesOf x = some ls) : idsBL n ls := by
  cases x <;> simp only [leavesOf, Option.some.injEq, reduceCtorEq] at hl <;> try (subst hl; exact ⟨hxi, trivial⟩)
  case agg fs =>
    split at hl
    · simp only [Option.some.injEq] at hl; subst hl; simpa only [idsB] using hxi
    · cases hl

theorem leavesAll_ok {Z : FP} {η : Nat → Value} {w : World} {n : Nat} {regs : List AV} {a : Act} {S : FP} (hR : relSL Z η w regs a.tmps.toList S) (hI : idsBL n regs) {sz : Nat} :
    ∀ (ps : List (Nat × Operand)) (j : Nat) (ls : List (List AV)), leavesAll regs sz ps j = some ls →
    ps.map (fun p => (p.1, a.eval p.2)) = ((ps.map fun p => a.eval p.2).zipIdx j).map (fun p => (p.2, p.1)) ∧ ls.length = ps.length ∧
    (∀ v ∈ ps.map (fun p => a.eval p.2), v.cells.size = sz) ∧
    (∀ (i : Nat) (l : List AV) (cs : List Value), ls[i]? = some l → (ps.map fun p => (a.eval p.2).cells.toList)[i]? = some cs → relSL Z η w l cs (fun _ => False) ∧ idsBL n l ∧ cs.length = sz)
  | [], j, ls, h => by
    simp only [leavesAll, Option.some.injEq] at h; subst h
    exact ⟨rfl, rfl, by simp, by simp⟩
  | (i, x) :: ps, j, ls, h => by
    unfold leavesAll at h
    split at h
    · rename_i hij
      have hij := Nat.eq_of_beq_eq_true hij
      subst hij
      split at h
      · rename_i l hl
        split at h
        · rename_i hlen
          have hlen := Nat.eq_of_beq_eq_true hlen
          split at h
          · rename_i ls' hls
            simp only [Option.some.injEq] at h; subst h
            obtain ⟨p1, p2, p3, p4⟩ := leavesAll_ok hR hI ps (i + 1) ls' hls
            obtain ⟨q1, q2⟩ := leaves_rel (opAV_rel hR x) hl
            have hsz : (a.eval x).cells.toList.length = sz := by rw [relSL_len _ _ _ q1]; exact hlen
            refine ⟨by simp [p1], by simp [p2], ?_, ?_⟩
            · intro v hv
              simp only [List.map_cons, List.mem_cons] at hv
              rcases hv with rfl | hv
              · simpa using hsz
              · exact p3 v hv
            · intro k l' cs h1 h2
              cases k with
              | zero =>
                simp at h1 h2; subst h1; subst h2
                exact ⟨q1, leavesOf_ids (opAV_ids hI x) hl, hsz⟩
              | succ k => exact p4 k l' cs (by simpa using h1) (by simpa using h2)
          · cases h
        · cases h
      · cases h
    · cases h

def vcBuildSlice (P : Program) (E : TypeId → Option ES) (s : St) (dst : Option Nat) (t : TypeId) (len : Nat) (parts : List (Nat × Operand)) (K : St → Prop) : Prop :=
  match elemOfT P t, E t with
  | some (e, sz), some es => match P.info? e with
    | some i => match i.zero with
      | some z => match leavesAll s.regs sz parts 0, Nat.beq parts.length len, Nat.ble (len * sz) 16777216, Nat.blt 0 sz, Nat.beq z.cells.size sz with
        | some ls, true, true, true, true => vcParts es.f ls s.regs fun xs regs' => K ⟨setR regs' dst (.sl true s.nx sz es.α es.f xs), s.nx + 1⟩
        | _, _, _, _, _ => False
      | none => False
    | none => False
  | _, _ => False

theorem vcBuildSlice_ok {P : Program} {E : TypeId → Option ES} {s : St} {dst : Option Nat} {t : TypeId} {len : Nat} {parts : Array (Nat × Operand)} {K : St → Prop}
    (h : vcBuildSlice P E s dst t len parts.toList K) {C : Ctx} {a : Act} {w : World} {η : Nat → Value} {Z T : FP} (hi : Inst C s a w η Z T) :
    ∃ u w' s', (Instr.buildSlice t len (parts.map fun p => (p.1, a.eval p.2))).run P w = .ok u w' ∧ K s' ∧ Rel C s' (a.put dst u) w' := by
  unfold vcBuildSlice at h
  split at h
  · rename_i e sz es he hE
    obtain ⟨hu, inf, hinf, hsz⟩ := elemOfT_ok he
    split at h
    · rename_i i hi2
      rw [hinf] at hi2; simp only [Option.some.injEq] at hi2; subst hi2
      split at h
      · rename_i z hz
        split at h
        · rename_i ls hls hlen hle hpos hzs
          have hlen := Nat.eq_of_beq_eq_true hlen
          have hle := Nat.le_of_ble_eq_true hle
          have hpos : 0 < sz := Nat.le_of_ble_eq_true hpos
          have hzs := Nat.eq_of_beq_eq_true hzs
          obtain ⟨p1, p2, p3, p4⟩ := leavesAll_ok (a := a) hi.rel hi.ids parts.toList 0 ls hls
          obtain ⟨Z1, A1, B1, r1, xs, k1, k2, k3, k4, k5, k6, k7, k8, k9, k10, k11⟩ := vcParts_ok sz ls s.regs _ h Z a.tmps.toList
            (parts.toList.map fun p => (a.eval p.2).cells.toList) T hi.rel hi.ids (by simp [p2]) (fun i l cs h1 h2 => p4 i l cs h1 h2) (fun b hb => (hi.own b hb).1)
          obtain ⟨out, ho, hout⟩ := fill_ok sz (parts.toList.map fun p => a.eval p.2) 0 ((Array.range (len * sz)).map (fun k => (if len * sz = 0 then #[] else z.cells)[k % (if len * sz = 0 then #[] else z.cells).size]!)) p3 (by simp [hlen])
          have hflat : out.toList = (parts.toList.map fun p => (a.eval p.2).cells.toList).flatten := by
            rw [hout]
            simp only [over, Nat.zero_mul, List.take_zero, List.nil_append, Nat.zero_add, List.map_map]
            rw [List.drop_of_length_le]
            · simp; rfl
            · have hall : ∀ (l : List (Nat × Operand)), (∀ v ∈ l.map (fun p => a.eval p.2), v.cells.size = sz) → ((l.map ((fun x => x.cells.toList) ∘ fun p => a.eval p.2)).flatten).length = l.length * sz := by
                intro l
                induction l with
                | nil => intro _; simp
                | cons q l ih =>
                  intro hq
                  simp only [List.map_cons, List.flatten_cons, List.length_append, Function.comp]
                  have h1 := hq (a.eval q.2) (by simp)
                  have h2 := ih (fun v hv => hq v (by simp at hv ⊢; exact .inr hv))
                  rw [h2]; simp [h1, Nat.succ_mul]; omega
              rw [hall _ p3, hlen]; simp
          refine ⟨.slice (some (ad w.heap.size 0)) len len, pushed w (.cells out e (0, 0)), _, ?_, k11, ?_⟩
          · unfold Instr.buildSlice
            rw [run_bind_ok (run_underlying hu w)]
            simp only []
            rw [run_bind_ok (run_sizeOf hinf w), hsz]
            rw [if_neg (by omega)]
            have hparts : (parts.map fun p => (p.1, a.eval p.2)).toList = ((parts.toList.map fun p => a.eval p.2).zipIdx 0).map (fun p => (p.2, p.1)) := by
              rw [← p1]; simp
            rw [hparts]
            by_cases h0 : len * sz = 0
            · simp only [h0, if_true] at ho ⊢
              rw [run_bind_ok (run_pure' P _ w)]
              simp only [ho]
              rw [run_bind_ok run_newRow]; rfl
            · simp only [h0, if_false] at ho ⊢
              rw [run_bind_ok (run_zeroValue hinf hz w)]
              rw [run_bind_ok (run_pure' P _ w)]
              simp only [ho]
              rw [run_bind_ok run_newRow]; rfl
          · refine hi.putOwn (A1 := A1) (η' := fun i => if i = s.nx then .slice (some (ad w.heap.size 0)) len len else η i) (A' := fun b => b = w.heap.size ∨ A1 b) k1 k2 k5 k6 (fun b hb => k7 b (.inl hb)) (fun b hb => k7 b (.inr hb)) k8 k9 k10
              (pushed_grew _ _ _) (Nat.le_succ _) (fun i hi => if_neg (by omega)) ?_ ?_ ?_ dst
            · simp only [relS, rel0]
              refine ⟨fun _ => by simp, some (ad w.heap.size 0), len, len, rfl, ?_, Nat.le_refl _, .inl ⟨trivial, .inr ⟨w.heap.size, 0, out, e, A1, rfl, pushed_new _ _, ?_, ?_, ?_⟩⟩⟩
              · rw [k4, p2]; simpa using hlen.symm
              · have : out.toList.length = len * sz := by
                  rw [hout, over_length]
                  · simp
                  · have hall : ∀ (l : List Value), (∀ v ∈ l, v.cells.size = sz) → ((l.map (·.cells.toList)).flatten).length = l.length * sz := by
                      intro l
                      induction l with
                      | nil => intro _; simp
                      | cons q l ih =>
                        intro hq
                        simp only [List.map_cons, List.flatten_cons, List.length_append]
                        rw [ih (fun v hv => hq v (by simp [hv]))]
                        simp [hq q (by simp), Nat.succ_mul]; omega
                    rw [hall _ p3]; simp [hlen]
                simp at this; omega
              · rw [List.drop_zero, hflat]
                exact Rows_mono xs _ A1 (fun x cs A hA hx => rel0L_mono (fun b hz hb => ⟨fun x => x.elim hz (fun x => by omega), (pushed_grew w _ (fun _ => False)).old b hb id⟩) _ _ _
                  (fun b hb => (pushed_grew w _ (fun _ => False)).old b (hi.own b (k7 b (.inl (hA b hb)))).2.1 id) hx) k3
              · exact ⟨fun b => Iff.rfl, fun b h1 h2 => by
                  simp only [one] at h1
                  have := (hi.own b (k7 b (.inl h2))).2.1; omega⟩
            · simp only [idsB]; intro _; exact Nat.lt_succ_self _
            · intro b hb
              rw [pushed_size]
              rcases hb with hb | hb
              · omega
              · have := (hi.own b (k7 b (.inl hb))).2.1
                exact ⟨.inl hb, by omega⟩
        · exact h.elim
      · exact h.elim
    · exact h.elim
  · exact h.elim

end Go.Eng
end
section
/- Rows of one value; append. -/
set_option linter.unusedVariables false
set_option linter.unusedSimpArgs false
namespace Go.Eng

theorem Rows_rep {α : Type} {sz : Nat} {R : α → List Value → FP → Prop} {x : α} {zl : List Value} (hz : zl.length = sz) (hx : R x zl (fun _ => False)) : ∀ (n : Nat) (cs : List Value),
    (∀ k, k < n → (cs.drop (k * sz)).take sz = zl) → Rows sz R (List.replicate n x) cs (fun _ => False)
  | 0, cs, h => by simp [Rows, emp]
  | n + 1, cs, h => by
    have h0 := h 0 (by omega)
    simp at h0
    simp only [List.replicate_succ, Rows]
    refine ⟨_, _, join_emp_left _, by rw [h0]; exact hz, by rw [h0]; exact hx, Rows_rep hz hx n _ fun k hk => ?_⟩
    have := h (k + 1) (by omega)
    rw [List.drop_drop]
    rw [show sz + k * sz = (k + 1) * sz by rw [Nat.succ_mul]; omega]
    exact this

theorem range_cells (zl : List Value) (sz c : Nat) (hz : zl.length = sz) (k : Nat) (hk : k < c) :
    ((((Array.range (c * sz)).map fun i => zl.toArray[i % zl.toArray.size]!).toList.drop (k * sz)).take sz) = zl := by
  have hle : (k + 1) * sz ≤ c * sz := Nat.mul_le_mul_right _ hk
  rw [Nat.succ_mul] at hle
  apply List.ext_getElem
  · simp; omega
  · intro i h1 h2
    have hi : i < sz := by omega
    simp only [List.getElem_take, List.getElem_drop, Array.getElem_toList, Array.getElem_map, Array.getElem_range, List.size_toArray]
    rw [hz]
    have : (k * sz + i) % sz = i := by rw [Nat.add_comm, Nat.add_mul_mod_self_right]; exact Nat.mod_eq_of_lt hi
    rw [this]
    simp [h2]

def vcMake (P : Program) (E : TypeId → Option ES) (s : St) (dst : Option Nat) (t : TypeId) (l c : AV) (K : St → Prop) : Prop :=
  match l, c with
  | .int _ n, .int _ m => match elemOfT P t, E t with
    | some (e, sz), some es => match P.info? e with
      | some i => match i.zero with
        | some z => match Nat.beq z.cells.size sz with
          | true => (0 ≤ n ∧ n ≤ m ∧ (i.bytes : Int) * m ≤ 2 ^ 46 ∧ m ≤ 2 ^ 46) ∧ ∃ x : es.α, handL false (es.f x) [] (z.cells.toList.map constLeaf) fun _ =>
              K ⟨setR s.regs dst (.sl true s.nx sz es.α es.f (List.replicate n.toNat x)), s.nx + 1⟩
          | false => False
        | none => False
      | none => False
    | _, _ => False
  | _, _ => False

theorem run_askRoom {P : Program} {n : Nat} {w : World} : (askRoom n).run P w = .ok () w := by
  unfold askRoom; split <;> rfl

theorem vcMake_ok {P : Program} {E : TypeId → Option ES} {s : St} {dst : Option Nat} {t : TypeId} {l c : AV} {K : St → Prop} (h : vcMake P E s dst t l c K) {C : Ctx} {a : Act} {w : World}
    {η : Nat → Value} {Z T : FP} (hi : Inst C s a w η Z T) {lv cv : Value} (hl : relS Z η w l lv (fun _ => False)) (hc : relS Z η w c cv (fun _ => False)) :
    ∃ u w' s', (Instr.makeSlice t lv cv).run P w = .ok u w' ∧ K s' ∧ Rel C s' (a.put dst u) w' := by
  unfold vcMake at h
  split at h
  · rename_i k1 n k2 m
    simp only [relS, rel0] at hl hc
    rw [hl.1, hc.1]
    split at h
    · rename_i e sz es he hE
      obtain ⟨hu, inf, hinf, hsz⟩ := elemOfT_ok he
      split at h
      · rename_i i hi2
        rw [hinf] at hi2; simp only [Option.some.injEq] at hi2; subst hi2
        split at h
        · rename_i z hz
          split at h
          · rename_i hzs
            have hzs := Nat.eq_of_beq_eq_true hzs
            obtain ⟨⟨h0, h1, h2, h3⟩, x, h⟩ := h
            have hcr := constL_rel Z η w z.cells.toList
            have hci := idsBL_const s.nx z.cells.toList
            obtain ⟨Z', A', B', r', ho⟩ := handL_ok (es.f x) [] _ _ h Z [] z.cells.toList (fun _ => False) (fun _ => False) (fun _ => False) (by simp [relSL, emp]) (by trivial) hcr hci (join_emp_left _)
            have hA' : A' = fun _ => False := emp_eq fun b hb => ho.part b (.inl hb)
            have hgot := ho.got
            rw [hA'] at hgot
            have hZ : ∀ b, Z b → Z' b := fun b hb => Classical.byContradiction fun hn => ho.gone b hb hn
            have hn64 : IntKind.i64.wrap n = n := wrap_in ⟨by simp [IntKind.min, IntKind.bits, IntKind.signed]; omega, by simp [IntKind.max, IntKind.bits, IntKind.signed]; omega⟩
            have hm64 : IntKind.i64.wrap m = m := wrap_in ⟨by simp [IntKind.min, IntKind.bits, IntKind.signed]; omega, by simp [IntKind.max, IntKind.bits, IntKind.signed]; omega⟩
            let cells := (Array.range (m.toNat * sz)).map fun i => z.cells.toList.toArray[i % z.cells.toList.toArray.size]!
            refine ⟨.slice (some (ad w.heap.size 0)) n.toNat m.toNat, pushed w (.cells cells e (0, 0)), _, ?_, ho.k, ?_⟩
            · unfold Instr.makeSlice
              rw [run_bind_ok (run_underlying hu w)]
              simp only [asInt, asIntOf]
              rw [run_bind_ok (x := n) (w' := w) rfl]
              rw [run_bind_ok (x := m) (w' := w) rfl]
              rw [run_bind_ok (run_typeInfo hinf w)]
              simp only [hn64, hm64]
              have hcond : ((decide (m < 0) || decide (inf.bytes * m > 2 ^ 48)) || decide (n < 0) || decide (n > m)) = false := by
                simp; omega
              simp only [Bool.or_eq_true, decide_eq_true_eq, Bool.not_eq_eq_eq_not] at hcond ⊢
              rw [if_neg (by simp; omega)]
              rw [run_bind_ok run_askRoom]
              rw [run_bind_ok (run_sizeOf hinf w), hsz]
              by_cases hq : m.toNat * sz = 0
              · simp only [hq, if_true]
                rw [run_bind_ok (run_pure' P _ w)]
                rw [run_bind_ok run_newRow]
                have : cells = #[] := by simp [cells, hq]
                have hr0 : Array.range 0 = #[] := rfl
                rw [this]; simp [run_pure', ad, hr0]
              · simp only [hq, if_false]
                rw [run_bind_ok (run_zeroValue hinf hz w)]
                rw [run_bind_ok (run_pure' P _ w)]
                rw [run_bind_ok run_newRow]
                simp [cells, run_pure', ad]
            · refine hi.putOwn (A1 := fun _ => False) (η' := fun i => if i = s.nx then .slice (some (ad w.heap.size 0)) n.toNat m.toNat else η i) (A' := one w.heap.size) hi.rel hi.ids (fun _ h => h) (fun _ h h' => (h' h).elim) (fun _ h => h.elim)
                (fun _ h => h) (fun _ h => h.elim) (fun _ h => h.elim) (fun b hb => (hi.own b hb).1) (pushed_grew _ _ _) (Nat.le_succ _) (fun i hi => if_neg (by omega)) ?_ ?_ ?_ dst
              · simp only [relS, rel0]
                refine ⟨fun _ => by simp, _, _, _, rfl, by simp, by omega, .inl ⟨trivial, .inr ⟨w.heap.size, 0, cells, e, fun _ => False, rfl, pushed_new _ _, ?_, ?_, join_emp_right _⟩⟩⟩
                · simp [cells]
                · rw [List.drop_zero]
                  refine Rows_rep (zl := z.cells.toList) (by simpa using hzs) ?_ _ _ (fun k hk => ?_)
                  · refine rel0L_mono (fun b hz hb => ⟨fun x => x.elim (fun x => hz (hZ b x)) (fun x => by omega), (pushed_grew w _ (fun _ => False)).old b hb id⟩) _ _ _ (fun b hb => hb.elim) hgot
                  · exact range_cells z.cells.toList sz m.toNat (by simpa using hzs) k (by omega)
              · simp only [idsB]; intro _; exact Nat.lt_succ_self _
              · intro b hb; rw [pushed_size]; simp only [one] at hb; omega
          · exact h.elim
        · exact h.elim
      · exact h.elim
    · exact h.elim
  · exact h.elim

theorem Rows_congr {α : Type} {sz : Nat} {R : α → List Value → FP → Prop} : ∀ (xs : List α) (cs cs' : List Value) (S : FP), Rows sz R xs cs S →
    cs.take (xs.length * sz) = cs'.take (xs.length * sz) → Rows sz R xs cs' S
  | [], _, _, _, h, _ => h
  | x :: xs, cs, cs', S, h, he => by
    obtain ⟨A, B, hj, hl, h1, h2⟩ := h
    have e0 : (x :: xs).length * sz = sz + xs.length * sz := by simp [Nat.succ_mul]; omega
    rw [e0] at he
    have e1 : cs'.take sz = cs.take sz := by
      have := congrArg (List.take sz) he
      simpa [List.take_take, Nat.min_eq_left (Nat.le_add_right sz (xs.length * sz))] using this.symm
    have e2 : (cs.drop sz).take (xs.length * sz) = (cs'.drop sz).take (xs.length * sz) := by
      have := congrArg (List.drop sz) he
      simpa [List.drop_take] using this
    exact ⟨A, B, hj, by rw [e1]; exact hl, by rw [e1]; exact h1, Rows_congr xs _ _ B h2 e2⟩
theorem Rows_concat {α : Type} {sz : Nat} {R : α → List Value → FP → Prop} : ∀ (xs ys : List α) (cs : List Value) (A B S : FP), Rows sz R xs cs A → Rows sz R ys (cs.drop (xs.length * sz)) B → join S A B → Rows sz R (xs ++ ys) cs S
  | [], ys, cs, A, B, S, h1, h2, hj => by
    rw [show S = B from fp_ext (join_emp_l hj h1)]; simpa using h2
  | x :: xs, ys, cs, A, B, S, h1, h2, hj => by
    obtain ⟨A1, A2, hj1, hl, h3, h4⟩ := h1
    have e0 : (x :: xs).length * sz = sz + xs.length * sz := by simp [Nat.succ_mul]; omega
    rw [e0, ← List.drop_drop] at h2
    obtain ⟨E, h5, h6⟩ := join_assoc' hj hj1
    exact ⟨A1, E, h5, hl, h3, Rows_concat xs ys _ A2 B E h4 h2 h6⟩
theorem leaf0_cell {Z : FP} {w : World} {a : AV} {v : Value} {S : FP} (h : rel0 Z w a v S) (hl : isLeaf a = true) : isCell v := by
  cases a <;> simp only [isLeaf, Bool.false_eq_true] at hl <;> simp only [rel0] at h
  case int => rw [h.1]; trivial
  case bool => rw [h.1]; trivial
  case str => rw [h.1]; trivial
  case val => rw [h.1]; exact h.2.1
  case any => exact h.1
  case nil => rw [h.1]; trivial
  case box => obtain ⟨b, arr, ty, S1, e, _⟩ := h; rw [e]; trivial
  case pf => obtain ⟨_, b, off, arr, ty, fr, cs, rest, S1, e, _⟩ := h; rw [e]; trivial
  case clo => obtain ⟨cs, e, _⟩ := h; rw [e]; trivial
  case sl => obtain ⟨a, n, c, e, _⟩ := h; rw [e]; trivial
theorem leaves0_cells {Z : FP} {w : World} : ∀ (azs : List AV) (cs : List Value) (S : FP), rel0L Z w azs cs S → azs.all isLeaf = true → ∀ c ∈ cs, isCell c
  | [], cs, S, h, _ => by simp only [rel0L] at h; simp [h.1]
  | a :: azs, cs, S, h, hl => by
    simp only [rel0L] at h
    obtain ⟨v, cs', A, B, e, hj, h1, h2⟩ := h
    simp only [List.all_cons, Bool.and_eq_true] at hl
    subst e
    intro c hc
    rcases List.mem_cons.1 hc with rfl | hc
    · exact leaf0_cell h1 hl.1
    · exact leaves0_cells azs cs' B h2 hl.2 c hc
theorem Rows_cells {Z : FP} {w : World} {α : Type} {sz : Nat} {f : α → List AV} (hf : ∀ x, (f x).all isLeaf = true) : ∀ (xs : List α) (cs : List Value) (S : FP), Rows sz (fun x cs A => rel0L Z w (f x) cs A) xs cs S →
    (∀ c ∈ cs.take (xs.length * sz), isCell c) ∧ xs.length * sz ≤ cs.length
  | [], cs, S, _ => by simp
  | x :: xs, cs, S, h => by
    obtain ⟨A, B, hj, hl, h1, h2⟩ := h
    obtain ⟨k1, k2⟩ := Rows_cells hf xs _ B h2
    have e0 : (x :: xs).length * sz = sz + xs.length * sz := by simp [Nat.succ_mul]; omega
    have hs : sz ≤ cs.length := by simp at hl; omega
    rw [e0]
    refine ⟨fun c hc => ?_, by simp at k2; omega⟩
    rw [List.take_add] at hc
    rcases List.mem_append.1 hc with hc | hc
    · exact leaves0_cells _ _ _ h1 (hf x) c hc
    · exact k1 c hc
theorem Rows_len {α : Type} {sz : Nat} {R : α → List Value → FP → Prop} : ∀ (xs : List α) (cs : List Value) (S : FP), Rows sz R xs cs S → xs.length * sz ≤ cs.length
  | [], cs, S, _ => by simp
  | x :: xs, cs, S, h => by
    obtain ⟨A, B, hj, hl, h1, h2⟩ := h
    have k2 := Rows_len xs _ B h2
    have e0 : (x :: xs).length * sz = sz + xs.length * sz := by simp [Nat.succ_mul]; omega
    have hs : sz ≤ cs.length := by simp at hl; omega
    rw [e0]; simp at k2; omega

theorem growBy_le : ∀ (r n c : Nat), 256 ≤ c → c < n → Builtin.growBy n r c ≤ 2 * n
  | 0, n, c, h1, h2 => by simp [Builtin.growBy]; omega
  | r + 1, n, c, h1, h2 => by
    simp only [Builtin.growBy]
    rw [if_neg (by omega)]
    by_cases h : c + (c + 768) / 4 < n
    · exact growBy_le r n _ (by omega) h
    · cases r with
      | zero => simp only [Builtin.growBy]; omega
      | succ r => simp only [Builtin.growBy]; rw [if_pos (by omega)]; omega
theorem nextcap_le {n c : Nat} (h : c < n) : Builtin.nextslicecap n c ≤ 2 * n := by
  unfold Builtin.nextslicecap
  split
  · omega
  · split
    · omega
    · exact growBy_le 4 n c (by omega) h

end Go.Eng
end
section
/- append. -/
set_option linter.unusedVariables false
set_option linter.unusedSimpArgs false
namespace Go.Eng

theorem run_choose_cap {P : Program} {n c : Nat} {e : TypeId} {w : World} : ∃ k, n ≤ k ∧ (choose (.appendCap n c e)).run P w = .ok k { w with drawn := w.drawn + 1 } :=
  ⟨n + w.tape w.drawn (.appendCap n c e) % (2 ^ 63 - n), by omega, rfl⟩

theorem run_firstCells {P : Program} {w : World} {b off m cap sz : Nat} {arr : Array Value} {ty : TypeId} {fr : Nat × Nat} (hb : w.heap[b]? = some (.cells arr ty fr)) (hl : off + m * sz ≤ arr.size) :
    (Builtin.firstCells sz m (.slice (some (ad b off)) m cap)).run P w = .ok ((arr.toList.drop off).take (m * sz)).toArray w := by
  unfold Builtin.firstCells
  have := run_loadCells (P := P) (off := off) hb (cs := (arr.toList.drop off).take (m * sz)) (rest := (arr.toList.drop off).drop (m * sz)) (List.take_append_drop _ _).symm
  rw [show ((arr.toList.drop off).take (m * sz)).length = m * sz by simp; omega] at this
  exact this

def World.drewOne (w : World) : World := { w with drawn := w.drawn + 1 }

/- what append does, where what is appended is known -/
theorem append_core {P : Program} {t e : TypeId} {ts : Array TypeId} {ty : TypeId} {tx : TypeId} {dx : TypeDesc} {inf : TypeInfo} {z : Value} {w : World} {Z1 : FP} {sz : Nat} {α : Type} {f : α → List AV}
    {xs ys : List α} {i j : Nat} {sv xv : Value} {A Ay S : FP} {new : List Value}
    (ht0 : ts[0]? = some t) (ht1 : ts[1]? = some tx) (hu : P.underlying t = some (.slice e)) (hux : P.underlying tx = some dx) (hdx : ∀ k, dx ≠ .int k) (hinf : P.info? e = some inf) (hsz : inf.size = sz) (hpos : 0 < sz)
    (hz : inf.zero = some z) (hzs : z.cells.size = sz) (hby : 0 < inf.bytes)
    (hs : rel0 Z1 w (.sl true i sz α f xs) sv A) (hlen : ∀ W : World, W.heap = w.heap → (Builtin.lenOf xv).run P W = .ok ys.length W)
    (hfirst : ∀ W : World, W.heap = w.heap → (Builtin.firstCells sz ys.length xv).run P W = .ok new.toArray W)
    (hnew : new.length = ys.length * sz) (hrows : Rows sz (fun x cs A => rel0L Z1 w (f x) cs A) ys new Ay) (hcell : ∀ c ∈ new, isCell c) (hj : join S A Ay)
    (hroom : (xs.length + ys.length) * inf.bytes ≤ 2 ^ 46) (hSlt : ∀ b, S b → Z1 b ∧ b < w.heap.size) :
    ∃ v w' A', (Builtin.append_ ts ty #[sv, xv]).run P w = .ok v w' ∧ Grew w w' A ∧ (∀ b, A' b → (S b ∨ w.heap.size ≤ b) ∧ b < w'.heap.size) ∧
      rel0 (fun c => Z1 c ∨ w.heap.size ≤ c) w' (.sl true j sz α f (xs ++ ys)) v A' := by
  have hzz : ∀ b, ¬ Z1 b → b < w.heap.size → ¬ (Z1 b ∨ w.heap.size ≤ b) := fun b h1 h2 h => h.elim h1 (fun h => by omega)
  simp only [rel0] at hs
  obtain ⟨a, n, c, e1, hn, hc, hs⟩ := hs
  subst e1; subst hn
  have hbound : xs.length + ys.length ≤ 2 ^ 46 := by
    have : (xs.length + ys.length) * 1 ≤ (xs.length + ys.length) * inf.bytes := Nat.mul_le_mul_left _ hby
    omega
  have hpre : (Builtin.append_ ts ty #[.slice a xs.length c, xv]).run P w = (do
      let need := xs.length + ys.length
      if need ≤ c then
        let new ← Builtin.firstCells sz ys.length xv
        if let some a := a then storeCells (a.add (xs.length * sz)) new.toList
        pure (.slice a need c)
      else
        let newCap ← choose (.appendCap need c e)
        askRoom (newCap * inf.bytes)
        let old ← Builtin.firstCells sz xs.length (.slice a xs.length c)
        let new ← Builtin.firstCells sz ys.length xv
        let rest := Builtin.zeroCells z.cells (newCap - need)
        pure (.slice (some (← newRow e (old ++ new ++ rest))) need newCap) : Sem Value).run P w := by
    unfold Builtin.append_
    have g0 : (#[.slice a xs.length c, xv] : Array Value)[0]? = some (.slice a xs.length c) := rfl
    have g1 : (#[.slice a xs.length c, xv] : Array Value)[1]? = some xv := rfl
    simp only [ht0, g0, g1, ht1]
    rw [run_bind_ok (run_underlying hu w)]
    simp only []
    rw [run_bind_ok (run_sizeOf hinf w), hsz]
    rw [run_bind_ok (run_underlying hux w)]
    have hz0 : (match dx with | .int k => true | _ => false) = false := by
      cases dx <;> first | rfl | exact ((hdx _) rfl).elim
    simp only []
    rw [run_bind_ok (run_pure' P _ w)]
    simp only [hz0, Bool.false_eq_true, if_false, Bool.not_false, if_true]
    rw [run_bind_ok (hlen w rfl)]
    by_cases hle : xs.length + ys.length ≤ c
    · simp only [hle, if_true]
      cases a <;> rfl
    · simp only [hle, if_false]
      rw [run_bind_ok (run_typeInfo hinf w)]
      rw [if_neg (by simp [IntKind.max, IntKind.bits, IntKind.signed]; omega)]
      rw [run_bind_ok (run_typeInfo hinf w)]
      have hnc := nextcap_le (show c < xs.length + ys.length by omega)
      have hcap : Builtin.nextslicecap (xs.length + ys.length) c * inf.bytes ≤ 2 ^ 48 := by
        calc Builtin.nextslicecap (xs.length + ys.length) c * inf.bytes ≤ (2 * (xs.length + ys.length)) * inf.bytes := Nat.mul_le_mul_right _ hnc
          _ = 2 * ((xs.length + ys.length) * inf.bytes) := Nat.mul_assoc _ _ _
          _ ≤ 2 ^ 48 := by omega
      rw [if_neg (by omega)]
      obtain ⟨k, hk, hch⟩ := run_choose_cap (P := P) (n := xs.length + ys.length) (c := c) (e := e) (w := w)
      rw [run_bind_ok hch, run_bind_ok hch]
      rw [run_bind_ok (run_typeInfo hinf _)]
      rw [run_bind_ok run_askRoom, run_bind_ok run_askRoom]
      simp only [run_bind]
      cases (Builtin.firstCells sz xs.length (.slice a xs.length c)).run P { w with drawn := w.drawn + 1 } with
      | halt h w' => rfl
      | ok o w' =>
        simp only []
        cases (Builtin.firstCells sz ys.length xv).run P w' with
        | halt h w' => rfl
        | ok o w' =>
          simp only []
          rw [run_zeroValue hinf hz]
  rw [hpre]
  have hmono : ∀ (w' : World), (∀ b, b < w.heap.size → ¬ A b → w'.heap[b]? = w.heap[b]?) → Rows sz (fun x cs A => rel0L (fun c => Z1 c ∨ w.heap.size ≤ c) w' (f x) cs A) ys new Ay := by
    intro w' hw
    refine Rows_mono ys new Ay (fun x cs A' hA' hx => rel0L_mono (fun b h1 h2 => ⟨hzz b h1 h2, hw b h2 (fun x => h1 (hSlt b ((hj.1 b).2 (.inl x))).1)⟩) _ _ _ (fun b hb => ?_) hx) hrows
    exact hw b (hSlt b ((hj.1 b).2 (.inr (hA' b hb)))).2 (fun x => hj.2 b x (hA' b hb))
  by_cases hle : xs.length + ys.length ≤ c
  · simp only [hle, if_true]
    rw [run_bind_ok (hfirst w rfl)]
    rcases hs with ⟨_, hs⟩ | ⟨ho, _⟩
    · rcases hs with ⟨ha, hc0, hA⟩ | ⟨b, off, arr, tyy, S1, ha, hb, hsize, hr, hj1⟩
      · subst ha
        have hx0 : xs = [] := List.length_eq_zero_iff.1 (by omega)
        have hy0 : ys = [] := List.length_eq_zero_iff.1 (by omega)
        subst hx0; subst hy0; subst hc0
        refine ⟨.slice none 0 0, w, fun _ => False, rfl, ⟨rfl, rfl, rfl, Nat.le_refl _, fun _ _ _ => rfl⟩, fun b hb => hb.elim, ?_⟩
        simp only [rel0]
        exact ⟨none, 0, 0, rfl, rfl, Nat.le_refl _, .inl ⟨trivial, .inl ⟨rfl, rfl, emp_false⟩⟩⟩
      · subst ha
        have hmul : (xs.length + ys.length) * sz ≤ c * sz := Nat.mul_le_mul_right _ hle
        rw [Nat.add_mul] at hmul
        obtain ⟨w', hst, hw⟩ := run_storeCells (P := P) (off := off + xs.length * sz) new 0 w arr hb (by rw [hnew]; omega) hcell
        simp only []
        have hadd : (Addr.add ⟨b, off, none⟩ (xs.length * sz)) = ad b (off + xs.length * sz) := ad_add b off _
        rw [hadd]
        have hst' : (storeCells (ad b (off + xs.length * sz)) new.toArray.toList).run P w = .ok () w' := by simpa using hst
        rw [run_bind_ok hst']
        have hbA : A b := (hj1.1 b).2 (.inl rfl)
        have hgrew : Grew w w' A := ⟨hw.os, hw.tape, hw.output, by rw [hw.size]; exact Nat.le_refl _, fun x hx hxA => hw.oth x (fun h => hxA (h ▸ hbA))⟩
        refine ⟨_, w', S, rfl, hgrew, fun x hx => ⟨.inl hx, by rw [hw.size]; exact (hSlt x hx).2⟩, ?_⟩
        simp only [rel0]
        have hwb := hw.blk
        simp only [Nat.add_zero] at hwb
        obtain ⟨E, h5, h6⟩ := join_assoc' hj hj1
        refine ⟨some ⟨b, off, none⟩, _, c, rfl, by simp, hle, .inl ⟨trivial, .inr ⟨b, off, _, tyy, E, rfl, hwb, ?_, ?_, h5⟩⟩⟩
        · have := over_length (l := arr.toList) (off := off + xs.length * sz) (cs := new) (by simp [hnew]; omega)
          simp [this]; omega
        · have hxrows : Rows sz (fun x cs A => rel0L (fun c => Z1 c ∨ w.heap.size ≤ c) w' (f x) cs A) xs (arr.toList.drop off) S1 := by
            refine Rows_mono xs _ S1 (fun x cs A' hA' hx => rel0L_mono (fun b' h1 h2 => ⟨hzz b' h1 h2, hw.oth b' (fun h => h1 (h ▸ (hSlt b ((hj.1 b).2 (.inl hbA))).1))⟩) _ _ _ (fun b' hb' => ?_) hx) hr
            exact hw.oth b' (fun h => hj1.2 b rfl (h ▸ hA' b' hb'))
          have hlx := Rows_len xs _ _ hr
          simp at hlx
          refine Rows_concat xs ys _ S1 Ay E ?_ ?_ h6
          · refine Rows_congr xs _ _ S1 hxrows ?_
            simp only [List.toList_toArray, over]
            rw [List.append_assoc, List.drop_append_of_le_length (by simp; omega)]
            rw [List.take_append_of_le_length (by simp; omega)]
            rw [List.drop_take, List.take_take]
            congr 1; omega
          · refine Rows_congr ys new _ Ay (hmono w' (fun x hx hxA => hgrew.old x hx hxA)) ?_
            simp only [List.toList_toArray, over]
            rw [List.drop_drop, List.append_assoc, List.drop_append, List.drop_of_length_le (by simp; omega)]
            have : off + xs.length * sz - (List.take (off + xs.length * sz) arr.toList).length = 0 := by simp; omega
            rw [this]
            simp only [List.drop_zero, List.nil_append]
            rw [List.take_append_of_le_length (by omega)]
    · cases ho
  · simp only [hle, if_false]
    obtain ⟨k, hk, hch⟩ := run_choose_cap (P := P) (n := xs.length + ys.length) (c := c) (e := e) (w := w)
    rw [run_bind_ok hch, run_bind_ok run_askRoom]
    obtain ⟨old, hold, holdlen, hoR⟩ : ∃ old : List Value, (Builtin.firstCells sz xs.length (.slice a xs.length c)).run P { w with drawn := w.drawn + 1 } = .ok old.toArray { w with drawn := w.drawn + 1 } ∧
        old.length = xs.length * sz ∧ ∃ A1, (∀ b, A1 b → A b) ∧ Rows sz (fun x cs A => rel0L Z1 w (f x) cs A) xs old A1 := by
      rcases hs with ⟨_, hs⟩ | ⟨ho, _⟩
      · rcases hs with ⟨ha, hc0, hA⟩ | ⟨b, off, arr, tyy, S1, ha, hb, hsize, hr, hj1⟩
        · subst ha
          have hx0 : xs = [] := List.length_eq_zero_iff.1 (by omega)
          subst hx0
          exact ⟨[], rfl, by simp, fun _ => False, fun _ h => h.elim, emp_false⟩
        · subst ha
          have hmul : xs.length * sz ≤ c * sz := Nat.mul_le_mul_right _ hc
          refine ⟨(arr.toList.drop off).take (xs.length * sz), run_firstCells hb (by omega), by simp; omega, S1, fun b' hb' => (hj1.1 b').2 (.inr hb'), ?_⟩
          exact Rows_congr xs _ _ S1 hr (by rw [List.take_take, Nat.min_self])
      · cases ho
    obtain ⟨A1, hA1, hxr⟩ := hoR
    rw [run_bind_ok hold, run_bind_ok (hfirst { w with drawn := w.drawn + 1 } rfl), run_bind_ok run_newRow]
    let w1 : World := { w with drawn := w.drawn + 1 }
    have hgr : ∀ o, Grew w (pushed w1 o) A := fun o => ⟨rfl, rfl, rfl, by simp [pushed, w1], fun b hb _ => by simp only [pushed, w1]; rw [Array.getElem?_push, if_neg (by omega)]⟩
    have hjj : join (fun b => A1 b ∨ Ay b) A1 Ay := ⟨fun _ => Iff.rfl, fun b x y => hj.2 b (hA1 b x) y⟩
    refine ⟨_, _, fun b => b = w.heap.size ∨ (A1 b ∨ Ay b), rfl, hgr _, fun b hb => ?_, ?_⟩
    · have : (pushed w1 (.cells (old.toArray ++ new.toArray ++ Builtin.zeroCells z.cells (k - (xs.length + ys.length))) e (0, 0))).heap.size = w.heap.size + 1 := pushed_size w1 _
      rw [this]
      rcases hb with hb | hb | hb
      · omega
      · have := (hSlt b ((hj.1 b).2 (.inl (hA1 b hb)))).2
        exact ⟨.inl ((hj.1 b).2 (.inl (hA1 b hb))), by omega⟩
      · have := (hSlt b ((hj.1 b).2 (.inr hb))).2
        exact ⟨.inl ((hj.1 b).2 (.inr hb)), by omega⟩
    · simp only [rel0]
      refine ⟨_, _, _, rfl, by simp, hk, .inl ⟨trivial, .inr ⟨w.heap.size, 0, _, e, fun b => A1 b ∨ Ay b, rfl, pushed_new w1 _, ?_, ?_, ⟨fun b => Iff.rfl, fun b h1 h2 => ?_⟩⟩⟩⟩
      · have : (Builtin.zeroCells z.cells (k - (xs.length + ys.length))).size = (k - (xs.length + ys.length)) * sz := by simp [Builtin.zeroCells, hzs]
        simp only [Array.size_append, List.size_toArray, holdlen, hnew, this]
        rw [← Nat.add_mul, ← Nat.add_mul]
        rw [show xs.length + ys.length + (k - (xs.length + ys.length)) = k by omega]; omega
      · rw [List.drop_zero]
        have hxrows : Rows sz (fun x cs A => rel0L (fun c => Z1 c ∨ w.heap.size ≤ c) (pushed w1 (.cells (old.toArray ++ new.toArray ++ Builtin.zeroCells z.cells (k - (xs.length + ys.length))) e (0, 0))) (f x) cs A) xs old A1 := by
          refine Rows_mono xs _ A1 (fun x cs A' hA' hx => rel0L_mono (fun b' h1 h2 => ⟨hzz b' h1 h2, ?_⟩) _ _ _ (fun b' hb' => ?_) hx) hxr
          · simp only [pushed, w1]; rw [Array.getElem?_push, if_neg (by omega)]
          · have := (hSlt b' ((hj.1 b').2 (.inl (hA1 b' (hA' b' hb'))))).2
            simp only [pushed, w1]; rw [Array.getElem?_push, if_neg (by omega)]
        refine Rows_concat xs ys _ A1 Ay _ ?_ ?_ hjj
        · refine Rows_congr xs old _ A1 hxrows ?_
          simp only [Array.toList_append, List.append_assoc]
          rw [List.take_append_of_le_length (by omega)]
        · refine Rows_congr ys new _ Ay (hmono _ (fun x hx _ => by simp only [pushed, w1]; rw [Array.getElem?_push, if_neg (by omega)])) ?_
          simp only [Array.toList_append, List.append_assoc]
          rw [List.drop_append, List.drop_of_length_le (by omega)]
          have : xs.length * sz - old.length = 0 := by omega
          rw [this]
          simp only [List.drop_zero, List.nil_append]
          rw [List.take_append_of_le_length (by omega)]
      · simp only [one] at h1
        have := h2.elim (fun h => (hSlt b ((hj.1 b).2 (.inl (hA1 b h)))).2) (fun h => (hSlt b ((hj.1 b).2 (.inr h))).2)
        omega

end Go.Eng
end
section
/- The conditions of append and of stores. -/
set_option linter.unusedVariables false
set_option linter.unusedSimpArgs false
namespace Go.Eng

def leafy {α : Type} (f : α → List AV) : Prop := ∀ x, (f x).all isLeaf = true
def room (n bytes : Nat) : Prop := n * bytes ≤ 2 ^ 46

def appInto (sz bytes : Nat) (nx : Nat) (dst : Option Nat) {α : Type} (f : α → List AV) (xs : List α) (regs : List AV) (x : AV) (K : St → Prop) : Prop :=
  match x with
  | .nil => leafy f ∧ room xs.length bytes ∧ K ⟨setR regs dst (.sl true nx sz α f xs), nx + 1⟩
  | .sl false _ sz' α' f' ys => ∃ zs : List α, AV.sl false 0 sz' α' f' ys = AV.sl false 0 sz α f zs ∧ leafy f ∧ room (xs.length + zs.length) bytes ∧
      K ⟨setR regs dst (.sl true nx sz α f (xs ++ zs)), nx + 1⟩
  | .al id => match takeL id regs with
    | some (.sl true _ sz' α' f' ys, regs') => ∃ zs : List α, AV.sl true 0 sz' α' f' ys = AV.sl true 0 sz α f zs ∧ leafy f ∧ room (xs.length + zs.length) bytes ∧
        K ⟨setR regs' dst (.sl true nx sz α f (xs ++ zs)), nx + 1⟩
    | _ => False
  | _ => False

def appOk (P : Program) (ts : Array TypeId) : Option (TypeId × Nat × Nat) :=
  match ts[0]?, ts[1]? with
  | some t, some tx => match elemOfT P t, P.underlying tx with
    | some (e, sz), some (.slice _) => match P.info? e with
      | some i => match i.zero with
        | some z => match Nat.beq z.cells.size sz, Nat.blt 0 sz, Nat.blt 0 i.bytes with
          | true, true, true => some (t, sz, i.bytes)
          | _, _, _ => none
        | none => none
      | none => none
    | _, _ => none
  | _, _ => none

def vcAppend (P : Program) (E : TypeId → Option ES) (s : St) (dst : Option Nat) (ts : Array TypeId) (sv x : AV) (K : St → Prop) : Prop :=
  match appOk P ts with
  | some (t, sz, bytes) => match sv with
    | .nil => match E t with
      | some es => appInto sz bytes s.nx dst es.f ([] : List es.α) s.regs x K
      | none => False
    | .al id => match takeL id s.regs with
      | some (.sl true _ sz' α f xs, regs1) => match Nat.beq sz' sz with
        | true => appInto sz bytes s.nx dst f xs regs1 x K
        | false => False
      | _ => False
    | _ => False
  | none => False

theorem appInto_ok {P : Program} {ts : Array TypeId} {t : TypeId} {sz bytes : Nat} (ho : appOk P ts = some (t, sz, bytes)) (ty : TypeId) {s : St} {dst : Option Nat} {α : Type} {f : α → List AV} {xs : List α}
    {regs1 : List AV} {x : AV} {K : St → Prop} (h : appInto sz bytes s.nx dst f xs regs1 x K) {C : Ctx} {a : Act} {w : World} {η : Nat → Value} {Z T : FP} (hi : Inst C s a w η Z T)
    {A1 B1 : FP} (hj : join T A1 B1) {i : Nat} {sv xv : Value} (hs : rel0 Z w (.sl true i sz α f xs) sv A1) (hr : relSL Z η w regs1 a.tmps.toList B1) (hids : idsBL s.nx regs1)
    (hx : relS Z η w x xv (fun _ => False)) :
    ∃ u w' s', (Builtin.append_ ts ty #[sv, xv]).run P w = .ok u w' ∧ K s' ∧ Rel C s' (a.put dst u) w' := by
  unfold appOk at ho
  split at ho
  · rename_i t' tx ht0 ht1
    split at ho
    · rename_i e sz' ex he hux
      obtain ⟨hu, inf, hinf, hsz⟩ := elemOfT_ok he
      split at ho
      · rename_i i' hi2
        rw [hinf] at hi2; simp only [Option.some.injEq] at hi2; subst hi2
        split at ho
        · rename_i z hz
          split at ho
          · rename_i hzs hpos hby
            simp only [Option.some.injEq, Prod.mk.injEq] at ho
            obtain ⟨rfl, rfl, rfl⟩ := ho
            have hzs := Nat.eq_of_beq_eq_true hzs
            have hpos : 0 < sz' := Nat.le_of_ble_eq_true hpos
            have hby : 0 < inf.bytes := Nat.le_of_ble_eq_true hby
            have hTo := hi.own
            -- the common part
            have core : ∀ (ys : List α) (new : List Value) (Ay B2 : FP) (regs2 : List AV),
                (∀ W : World, W.heap = w.heap → (Builtin.lenOf xv).run P W = .ok ys.length W) →
                (∀ W : World, W.heap = w.heap → (Builtin.firstCells sz' ys.length xv).run P W = .ok new.toArray W) → new.length = ys.length * sz' →
                Rows sz' (fun x cs A => rel0L Z w (f x) cs A) ys new Ay → (∀ b, Ay b ∨ B2 b → B1 b) → (∀ b, Ay b → B2 b → False) →
                relSL Z η w regs2 a.tmps.toList B2 → idsBL s.nx regs2 → leafy f → room (xs.length + ys.length) inf.bytes →
                K ⟨setR regs2 dst (.sl true s.nx sz' α f (xs ++ ys)), s.nx + 1⟩ → ∃ u w' s', (Builtin.append_ ts ty #[sv, xv]).run P w = .ok u w' ∧ K s' ∧ Rel C s' (a.put dst u) w' := by
              intro ys new Ay B2 regs2 h1 h2 h3 h4 h5 h6 h7 h8 h9 h10 h11
              have hcell : ∀ c ∈ new, isCell c := by
                have := (Rows_cells h9 ys new Ay h4).1
                rw [← h3, List.take_length] at this; exact this
              have hjA : join (fun b => A1 b ∨ Ay b) A1 Ay := ⟨fun _ => Iff.rfl, fun b p q => hj.2 b p (h5 b (.inl q))⟩
              have hAT : ∀ b, A1 b ∨ Ay b → T b := fun b hb => (hj.1 b).2 (hb.imp id (fun h => h5 b (.inl h)))
              obtain ⟨v, w', A', k1, k2, k3, k4⟩ := append_core (P := P) (ts := ts) (ty := ty) (i := i) (j := s.nx) (xs := xs) ht0 ht1 hu hux (fun k hk => by cases hk) hinf hsz hpos hz hzs hby hs h1 h2 h3 h4 hcell hjA h10
                (fun b hb => ⟨(hTo b (hAT b hb)).1, (hTo b (hAT b hb)).2.1⟩)
              refine ⟨v, w', _, k1, h11, ?_⟩
              refine hi.putOwn (A1 := fun b => A1 b ∨ Ay b) (η' := fun i => if i = s.nx then v else η i) (A' := A') h7 h8 (fun _ h => h) (fun _ h h' => (h' h).elim) hAT (fun b hb => (hj.1 b).2 (.inr (h5 b (.inr hb))))
                (fun b p q => p.elim (fun p => hj.2 b p (h5 b (.inr q))) (fun p => h6 b p q)) (fun b hb => (hTo b (hAT b hb)).1) (fun b hb => (hTo b ((hj.1 b).2 (.inr (h5 b (.inr hb))))).1)
                ⟨k2.os, k2.tape, k2.output, k2.size, fun b hb hn => k2.old b hb (fun x => hn (.inl x))⟩ (Nat.le_succ _) (fun i hi => if_neg (by omega)) ?_ ?_ k3 dst
              · simp only [relS]; exact ⟨fun _ => by simp, k4⟩
              · simp only [idsB]; intro _; exact Nat.lt_succ_self _
            unfold appInto at h
            split at h
            · obtain ⟨g1, g2, g3⟩ := h
              simp only [relS, rel0] at hx
              refine core [] [] (fun _ => False) B1 regs1 (fun W _ => by rw [hx.1]; rfl) (fun W _ => by rw [hx.1]; rfl) (by simp) emp_false (fun b hb => hb.resolve_left id) (fun _ h => h.elim) hr hids g1 (by simpa using g2) (by simpa using g3)
            · rename_i i2 szz α' f' ys
              obtain ⟨zs, he, g1, g2, g3⟩ := h
              simp only [relS] at hx
              have hx := sl_eq_own (j := 0) he hx.2
              simp only [rel0] at hx
              obtain ⟨a2, n2, c2, ev, hn, hc, hx⟩ := hx
              rcases hx with ⟨ho, _⟩ | ⟨_, _, hx⟩
              · cases ho
              · rcases hx with hx | ⟨b, off, arr, tyy, fr, ha, hzb, hb, hrows⟩
                · subst hx
                  refine core [] [] (fun _ => False) B1 regs1 (fun W _ => by rw [ev, hn]; rfl) (fun W _ => ?_) (by simp) emp_false (fun b hb => hb.resolve_left id) (fun _ h => h.elim) hr hids g1 (by simpa using g2) (by simpa using g3)
                  rw [ev]
                  cases a2 with
                  | none => rfl
                  | some ad2 => simp [Builtin.firstCells, loadCells, loadCellsFrom]
                · have hlr := Rows_len zs _ _ hrows
                  simp at hlr
                  have hle : off + zs.length * sz' ≤ arr.size ∨ zs.length * sz' = 0 := by omega
                  refine core zs ((arr.toList.drop off).take (zs.length * sz')) (fun _ => False) B1 regs1 (fun W _ => by rw [ev, hn]; rfl) (fun W hW => ?_) (by simp; omega)
                    (Rows_congr zs _ _ _ hrows (by rw [List.take_take, Nat.min_self])) (fun b hb => hb.resolve_left id) (fun _ h => h.elim) hr hids g1 g2 g3
                  rw [ev, ha]
                  have hb' : W.heap[b]? = some (.cells arr tyy fr) := by rw [hW]; exact hb
                  rcases hle with hle | hle
                  · exact run_firstCells (cap := c2) hb' hle
                  · simp [Builtin.firstCells, loadCells, loadCellsFrom, hle]
            · rename_i id
              split at h
              · rename_i i2 szz α' f' ys regs2 ht
                obtain ⟨zs, he, g1, g2, g3⟩ := h
                obtain ⟨A2, B2, hj2, hio, hro, hrr⟩ := takeL_ok regs1 _ B1 _ _ hr ht
                obtain ⟨q1, q2, q3⟩ := takeL_ids regs1 _ _ hids ht
                simp only [relS] at hx hro
                have hro := sl_eq_own (j := 0) he hro.2
                rw [← hx.1] at hro
                simp only [rel0] at hro
                obtain ⟨a2, n2, c2, ev, hn, hc, hro⟩ := hro
                rcases hro with ⟨_, hro⟩ | ⟨ho, _⟩
                · rcases hro with ⟨ha, hc0, _⟩ | ⟨b, off, arr, tyy, S1, ha, hb, hsize, hrows, hj3⟩
                  · have hz0 : zs = [] := List.length_eq_zero_iff.1 (by omega)
                    subst hz0
                    refine core [] [] (fun _ => False) B2 regs2 (fun W _ => by rw [ev, hn]; rfl) (fun W _ => by rw [ev, ha]; rfl) (by simp) emp_false (fun b hb => (hj2.1 b).2 (.inr (hb.resolve_left (fun x => x)))) (fun _ h => h.elim) hrr q3 g1 (by simpa using g2) (by simpa using g3)
                  · have hmul : zs.length * sz' ≤ c2 * sz' := Nat.mul_le_mul_right _ (by omega)
                    refine core zs ((arr.toList.drop off).take (zs.length * sz')) S1 B2 regs2 (fun W _ => by rw [ev, hn]; rfl) (fun W hW => ?_) (by simp; omega)
                      (Rows_congr zs _ _ _ hrows (by rw [List.take_take, Nat.min_self])) (fun b hb => (hj2.1 b).2 (hb.imp (fun h => (hj3.1 b).2 (.inr h)) (fun x => x))) (fun b p q => hj2.2 b ((hj3.1 b).2 (.inr p)) q) hrr q3 g1 g2 g3
                    rw [ev, ha]
                    exact run_firstCells (cap := c2) (by rw [hW]; exact hb) (by omega)
                · cases ho
              · exact h.elim
            · exact h.elim
          · cases ho
        · cases ho
      · cases ho
    · cases ho
  · cases ho

theorem vcAppend_ok {P : Program} {E : TypeId → Option ES} {ts : Array TypeId} {ty : TypeId} {s : St} {dst : Option Nat} {svA x : AV} {K : St → Prop} (h : vcAppend P E s dst ts svA x K)
    {C : Ctx} {a : Act} {w : World} {η : Nat → Value} {Z T : FP} (hi : Inst C s a w η Z T) {sv xv : Value} (hs : relS Z η w svA sv (fun _ => False)) (hx : relS Z η w x xv (fun _ => False)) :
    ∃ u w' s', (Builtin.append_ ts ty #[sv, xv]).run P w = .ok u w' ∧ K s' ∧ Rel C s' (a.put dst u) w' := by
  unfold vcAppend at h
  split at h
  · rename_i t sz bytes ho
    split at h
    · split at h
      · rename_i es hE
        simp only [relS, rel0] at hs
        refine appInto_ok ho ty h hi (A1 := fun _ => False) (B1 := T) (i := 0) (join_emp_left T) ?_ hi.rel hi.ids hx
        simp only [rel0]
        exact ⟨none, 0, 0, hs.1, rfl, Nat.le_refl _, .inl ⟨trivial, .inl ⟨rfl, rfl, emp_false⟩⟩⟩
      · exact h.elim
    · rename_i id
      split at h
      · rename_i i sz' α f xs regs1 ht
        split at h
        · rename_i hb
          have hb := Nat.eq_of_beq_eq_true hb
          subst hb
          obtain ⟨A1, B1, hj, hio, hro, hrr⟩ := takeL_ok s.regs _ T _ _ hi.rel ht
          obtain ⟨q1, q2, q3⟩ := takeL_ids s.regs _ _ hi.ids ht
          simp only [relS] at hs hro
          refine appInto_ok ho ty h hi hj (i := i) ?_ hrr q3 hx
          rw [hs.1]; exact hro.2
        · exact h.elim
      · exact h.elim
    · exact h.elim
  · exact h.elim

end Go.Eng
end
