/- Abstract values for Go data, and what they say of memory. -/
import Derived.Calls
import Derived.KernelRfl
set_option linter.unusedVariables false
namespace Go.Eng

abbrev FP := Nat → Prop
def emp (S : FP) : Prop := ∀ b, ¬ S b
def one (b : Nat) : FP := fun c => c = b
def join (S A B : FP) : Prop := (∀ b, S b ↔ (A b ∨ B b)) ∧ (∀ b, A b → B b → False)

/- the value of one cell -/
def isCell : Value → Prop
  | .agg _ => False
  | .tuple _ => False
  | _ => True

inductive AV : Type 1
  | int (k : IntKind) (n : Int)
  | bool (b : Bool)
  | str (l : List UInt8)
  | val (v : Value)
  | any
  | top
  | nil
  | hole (id : Nat)
  | al (id : Nat)
  | po (id k sz off : Nat)
  | agg (fs : List AV)
  | tup (vs : List AV)
  | box (id : Nat) (c : List AV)
  | pf (c : List AV)
  | clo (fn : Fn) (caps : List AV)
  | sl (own : Bool) (id sz : Nat) (α : Type) (f : α → List AV) (xs : List α)

def Rows {α : Type} (sz : Nat) (R : α → List Value → FP → Prop) : List α → List Value → FP → Prop
  | [], _, S => emp S
  | x :: xs, cs, S => ∃ A B, join S A B ∧ (cs.take sz).length = sz ∧ R x (cs.take sz) A ∧ Rows sz R xs (cs.drop sz) B

mutual
def rel0 (Z : FP) (w : World) : AV → Value → FP → Prop
  | .int k n, v, S => v = .int k n ∧ emp S
  | .bool b, v, S => v = .bool b ∧ emp S
  | .str l, v, S => v = .string ⟨l.toArray⟩ ∧ emp S
  | .val x, v, S => v = x ∧ isCell x ∧ emp S
  | .any, v, S => isCell v ∧ emp S
  | .top, v, S => emp S
  | .nil, v, S => v = .slice none 0 0 ∧ emp S
  | .agg fs, v, S => ∃ cs : List Value, v = .agg cs.toArray ∧ rel0L Z w fs cs S
  | .tup fs, v, S => ∃ cs : List Value, v = .tuple cs.toArray ∧ rel0L Z w fs cs S
  | .clo fn fs, v, S => ∃ cs : List Value, v = .func fn #[] cs.toArray ∧ rel0L Z w fs cs S
  | .box _ c, v, S => ∃ b arr ty S1, v = .pointer (some ⟨b, 0, none⟩) ∧ w.heap[b]? = some (.cells arr ty (0, 0)) ∧
      rel0L Z w c arr.toList S1 ∧ join S (one b) S1
  | .pf c, v, S => emp S ∧ ∃ b off arr ty fr cs rest S1, v = .pointer (some ⟨b, off, none⟩) ∧ ¬ Z b ∧ w.heap[b]? = some (.cells arr ty fr) ∧
      arr.toList.drop off = cs ++ rest ∧ rel0L Z w c cs S1 ∧ emp S1
  | .sl own _ sz _ f xs, v, S => ∃ a n c, v = .slice a n c ∧ n = xs.length ∧ n ≤ c ∧
      ((own = true ∧ ((a = none ∧ c = 0 ∧ emp S) ∨ ∃ b off arr ty S1, a = some ⟨b, off, none⟩ ∧ w.heap[b]? = some (.cells arr ty (0, 0)) ∧
          off + c * sz ≤ arr.size ∧ Rows sz (fun x cs A => rel0L Z w (f x) cs A) xs (arr.toList.drop off) S1 ∧ join S (one b) S1)) ∨
       (own = false ∧ emp S ∧ (xs = [] ∨ ∃ b off arr ty fr, a = some ⟨b, off, none⟩ ∧ ¬ Z b ∧ w.heap[b]? = some (.cells arr ty fr) ∧
          Rows sz (fun x cs A => rel0L Z w (f x) cs A) xs (arr.toList.drop off) S)))
  | .hole _, _, _ => False
  | .al _, _, _ => False
  | .po _ _ _ _, _, _ => False
def rel0L (Z : FP) (w : World) : List AV → List Value → FP → Prop
  | [], cs, S => cs = [] ∧ emp S
  | a :: as, cs, S => ∃ v cs' A B, cs = v :: cs' ∧ join S A B ∧ rel0 Z w a v A ∧ rel0L Z w as cs' B
end


theorem join_emp_l {S A B : FP} (h : join S A B) (ha : emp A) : ∀ b, S b ↔ B b := by
  intro b; rw [h.1 b]; exact ⟨fun | .inl x => (ha b x).elim | .inr x => x, .inr⟩
theorem join_emp_r {S A B : FP} (h : join S A B) (hb : emp B) : ∀ b, S b ↔ A b := by
  intro b; rw [h.1 b]; exact ⟨fun | .inr x => (hb b x).elim | .inl x => x, .inl⟩
theorem fp_ext {A B : FP} (h : ∀ b, A b ↔ B b) : A = B := funext fun b => propext (h b)
theorem join_emp_left (S : FP) : join S (fun _ => False) S := ⟨fun b => by simp, fun b h => h.elim⟩
theorem join_emp_right (S : FP) : join S S (fun _ => False) := ⟨fun b => by simp, fun b _ h => h⟩
theorem join_comm {S A B : FP} (h : join S A B) : join S B A := ⟨fun b => by rw [h.1 b]; exact or_comm, fun b x y => h.2 b y x⟩
theorem join_assoc {S A B C D : FP} (h : join S A B) (h2 : join B C D) : ∃ E, join S E D ∧ join E A C :=
  ⟨fun b => A b ∨ C b, ⟨fun b => by rw [h.1 b, h2.1 b]; exact or_assoc.symm, fun b x y => x.elim (fun x => h.2 b x ((h2.1 b).2 (.inr y))) (fun x => h2.2 b x y)⟩,
    ⟨fun b => Iff.rfl, fun b x y => h.2 b x ((h2.1 b).2 (.inl y))⟩⟩
theorem join_assoc' {S A B C D : FP} (h : join S A B) (h2 : join A C D) : ∃ E, join S C E ∧ join E D B :=
  ⟨fun b => D b ∨ B b, ⟨fun b => by rw [h.1 b, h2.1 b]; exact or_assoc, fun b x y => y.elim (fun y => h2.2 b x y) (fun y => h.2 b ((h2.1 b).2 (.inl x)) y)⟩,
    ⟨fun b => Iff.rfl, fun b x y => h.2 b ((h2.1 b).2 (.inr x)) y⟩⟩
theorem emp_of_join {S A B : FP} (h : join S A B) (hs : emp S) : emp A ∧ emp B :=
  ⟨fun b x => hs b ((h.1 b).2 (.inl x)), fun b x => hs b ((h.1 b).2 (.inr x))⟩
theorem emp_false : emp (fun _ => False) := fun _ h => h
theorem emp_eq {S : FP} (h : emp S) : S = fun _ => False := funext fun b => propext ⟨fun x => h b x, False.elim⟩

theorem Rows_mono {α : Type} {sz : Nat} {R R' : α → List Value → FP → Prop} : ∀ (xs : List α) (cs : List Value) (S : FP),
    (∀ x cs A, (∀ b, A b → S b) → R x cs A → R' x cs A) → Rows sz R xs cs S → Rows sz R' xs cs S
  | [], _, _, _, h => h
  | x :: xs, cs, S, hr, h => by
    obtain ⟨A, B, hj, hl, h1, h2⟩ := h
    exact ⟨A, B, hj, hl, hr _ _ _ (fun b hb => (hj.1 b).2 (.inl hb)) h1, Rows_mono xs _ B (fun x cs A' hA => hr x cs A' (fun b hb => (hj.1 b).2 (.inr (hA b hb)))) h2⟩

mutual
theorem rel0_mono {Z Z' : FP} {w w' : World} (hZ : ∀ b, ¬ Z b → b < w.heap.size → ¬ Z' b ∧ w'.heap[b]? = w.heap[b]?) :
    ∀ (a : AV) (v : Value) (S : FP), (∀ b, S b → w'.heap[b]? = w.heap[b]?) → rel0 Z w a v S → rel0 Z' w' a v S
  | .int _ _, _, _, _, h => h
  | .bool _, _, _, _, h => h
  | .str _, _, _, _, h => h
  | .val _, _, _, _, h => h
  | .any, _, _, _, h => h
  | .top, _, _, _, h => h
  | .nil, _, _, _, h => h
  | .agg fs, v, S, hS, h => by
    simp only [rel0] at h ⊢; obtain ⟨cs, e, h⟩ := h; exact ⟨cs, e, rel0L_mono hZ fs cs S hS h⟩
  | .tup fs, v, S, hS, h => by
    simp only [rel0] at h ⊢; obtain ⟨cs, e, h⟩ := h; exact ⟨cs, e, rel0L_mono hZ fs cs S hS h⟩
  | .clo _ fs, v, S, hS, h => by
    simp only [rel0] at h ⊢; obtain ⟨cs, e, h⟩ := h; exact ⟨cs, e, rel0L_mono hZ fs cs S hS h⟩
  | .box _ c, v, S, hS, h => by
    simp only [rel0] at h ⊢
    obtain ⟨b, arr, ty, S1, e, hb, h, hj⟩ := h
    exact ⟨b, arr, ty, S1, e, by rw [hS b ((hj.1 b).2 (.inl rfl))]; exact hb, rel0L_mono hZ c _ S1 (fun b hb => hS b ((hj.1 b).2 (.inr hb))) h, hj⟩
  | .pf c, v, S, hS, h => by
    simp only [rel0] at h ⊢
    obtain ⟨he, b, off, arr, ty, fr, cs, rest, S1, e, hz, hb, hd, h, h1⟩ := h
    have hlt : b < w.heap.size := by
      rcases Nat.lt_or_ge b w.heap.size with hh | hh
      · exact hh
      · simp [Array.getElem?_eq_none hh] at hb
    exact ⟨he, b, off, arr, ty, fr, cs, rest, S1, e, (hZ b hz hlt).1, by rw [(hZ b hz hlt).2]; exact hb, hd, rel0L_mono hZ c _ S1 (fun b hb => (h1 b hb).elim) h, h1⟩
  | .sl own _ sz α f xs, v, S, hS, h => by
    simp only [rel0] at h ⊢
    obtain ⟨a, n, c, e, hn, hc, h⟩ := h
    refine ⟨a, n, c, e, hn, hc, ?_⟩
    rcases h with ⟨ho, h⟩ | ⟨ho, he, h⟩
    · refine .inl ⟨ho, ?_⟩
      rcases h with h | ⟨b, off, arr, ty, S1, ha, hb, hsz, hr, hj⟩
      · exact .inl h
      · refine .inr ⟨b, off, arr, ty, S1, ha, by rw [hS b ((hj.1 b).2 (.inl rfl))]; exact hb, hsz, ?_, hj⟩
        exact Rows_mono xs _ S1 (fun x cs A hA hx => rel0L_mono hZ (f x) cs A (fun b hb => hS b ((hj.1 b).2 (.inr (hA b hb)))) hx) hr
    · refine .inr ⟨ho, he, ?_⟩
      rcases h with h | ⟨b, off, arr, ty, fr, ha, hz, hb, hr⟩
      · exact .inl h
      · have hlt : b < w.heap.size := by
          rcases Nat.lt_or_ge b w.heap.size with hh | hh
          · exact hh
          · simp [Array.getElem?_eq_none hh] at hb
        refine .inr ⟨b, off, arr, ty, fr, ha, (hZ b hz hlt).1, by rw [(hZ b hz hlt).2]; exact hb, ?_⟩
        exact Rows_mono xs _ S (fun x cs A hA hx => rel0L_mono hZ (f x) cs A (fun b hb => hS b (hA b hb)) hx) hr
  | .hole _, _, _, _, h => h
  | .al _, _, _, _, h => h
  | .po _ _ _ _, _, _, _, h => h
theorem rel0L_mono {Z Z' : FP} {w w' : World} (hZ : ∀ b, ¬ Z b → b < w.heap.size → ¬ Z' b ∧ w'.heap[b]? = w.heap[b]?) :
    ∀ (as : List AV) (cs : List Value) (S : FP), (∀ b, S b → w'.heap[b]? = w.heap[b]?) → rel0L Z w as cs S → rel0L Z' w' as cs S
  | [], _, _, _, h => h
  | a :: as, cs, S, hS, h => by
    simp only [rel0L] at h ⊢
    obtain ⟨v, cs', A, B, e, hj, h1, h2⟩ := h
    exact ⟨v, cs', A, B, e, hj, rel0_mono hZ a v A (fun b hb => hS b ((hj.1 b).2 (.inl hb))) h1, rel0L_mono hZ as cs' B (fun b hb => hS b ((hj.1 b).2 (.inr hb))) h2⟩
end

end Go.Eng
