/- Steps that make or write memory: the common part; boxes. -/
import Derived.Test.YtinkjpfkemkhaaaDoorEngL
set_option linter.unusedVariables false
set_option linter.unusedSimpArgs false
namespace Go.Eng

structure Grew (w w' : World) (A : FP) : Prop where
  os : w'.os = w.os
  tape : w'.tape = w.tape
  output : w'.output = w.output
  size : w.heap.size ≤ w'.heap.size
  old : ∀ b, b < w.heap.size → ¬ A b → w'.heap[b]? = w.heap[b]?

theorem Inst.next {C : Ctx} {s : St} {a : Act} {w : World} {η : Nat → Value} {Z T : FP} (hi : Inst C s a w η Z T) {Z1 A1 : FP}
    (hzz : ∀ b, Z1 b → Z b) (hgone : ∀ b, Z b → ¬ Z1 b → T b) (hA1T : ∀ b, A1 b → T b)
    {w' : World} (hg : Grew w w' A1) {regs' : List AV} {n' : Nat} {η' : Nat → Value} {S' : FP} {a' : Act} (hd : a'.defers = a.defers)
    (hrel : relSL (fun c => Z1 c ∨ w.heap.size ≤ c) η' w' regs' a'.tmps.toList S') (hids : idsBL n' regs')
    (hS' : ∀ b, S' b → (Z1 b ∨ w.heap.size ≤ b) ∧ (T b ∨ w.heap.size ≤ b) ∧ b < w'.heap.size) :
    Inst C ⟨regs', n'⟩ a' w' η' (fun c => Z1 c ∨ w.heap.size ≤ c) S' := by
  refine ⟨hd.trans hi.defers, hrel, hids, fun b hb => ?_, ?_⟩
  · obtain ⟨g1, g2, g3⟩ := hS' b hb
    refine ⟨g1, g3, fun h0 => ?_⟩
    rcases g2 with g2 | g2
    · exact (hi.own b g2).2.2 h0
    · exact absurd (Nat.lt_of_lt_of_le h0 hi.ok.size) (by omega)
  · refine ⟨hg.os.trans hi.ok.os, hg.tape.trans hi.ok.tape, hg.output.trans hi.ok.output, Nat.le_trans hi.ok.size hg.size, fun b h0 hs => ?_⟩
    have hnT : ¬ T b := fun x => hs ((hi.own b x).2.2 h0)
    have hlt := Nat.lt_of_lt_of_le h0 hi.ok.size
    obtain ⟨g3, g4⟩ := hi.ok.old b h0 hs
    refine ⟨(hg.old b hlt (fun x => hnT (hA1T b x))).trans g3, ⟨fun x => ?_, fun x => ?_⟩⟩
    · rcases x with x | x
      · exact g4.1 (hzz b x)
      · omega
    · exact .inl (Classical.byContradiction fun hn => hnT (hgone b (g4.2 x) hn))

/- a thing of its own put into a slot -/
theorem Inst.putOwn {C : Ctx} {s : St} {a : Act} {w : World} {η : Nat → Value} {Z T : FP} (hi : Inst C s a w η Z T) {Z1 A1 B1 : FP} {regs1 : List AV}
    (hr : relSL Z1 η w regs1 a.tmps.toList B1) (hids : idsBL s.nx regs1)
    (hzz : ∀ b, Z1 b → Z b) (hgone : ∀ b, Z b → ¬ Z1 b → T b) (hA1T : ∀ b, A1 b → T b) (hB1T : ∀ b, B1 b → T b) (hdis : ∀ b, A1 b → B1 b → False)
    (hA1Z : ∀ b, A1 b → Z1 b) (hB1Z : ∀ b, B1 b → Z1 b)
    {w' : World} (hg : Grew w w' A1) {r : AV} {v : Value} {n' : Nat} {A' : FP} {η' : Nat → Value} (hn : s.nx ≤ n') (hη : ∀ i, i < s.nx → η' i = η i)
    (hrr : relS (fun c => Z1 c ∨ w.heap.size ≤ c) η' w' r v A') (hri : idsB n' r) (hA' : ∀ b, A' b → (A1 b ∨ w.heap.size ≤ b) ∧ b < w'.heap.size) (dst : Option Nat) :
    Rel C ⟨setR regs1 dst r, n'⟩ (a.put dst v) w' := by
  have hr' : relSL (fun c => Z1 c ∨ w.heap.size ≤ c) η' w' regs1 a.tmps.toList B1 := by
    refine relSL_mono (n := s.nx) (fun b hz hb => ⟨fun x => x.elim hz (fun x => by omega), hg.old b hb (fun x => hz (hA1Z b x))⟩) hη _ _ _ hids (fun b hb => ?_) hr
    exact hg.old b (hi.own b (hB1T b hb)).2.1 (fun x => hdis b x hb)
  have hlt : ∀ b, B1 b → b < w.heap.size := fun b hb => (hi.own b (hB1T b hb)).2.1
  obtain ⟨S', hS', hfin⟩ : ∃ S', (∀ b, S' b → B1 b ∨ A' b) ∧ relSL (fun c => Z1 c ∨ w.heap.size ≤ c) η' w' (setR regs1 dst r) (a.put dst v).tmps.toList S' := by
    cases dst with
    | none => exact ⟨_, fun b hb => .inl hb, hr'⟩
    | some d =>
      rw [put_toList]
      simp only [setR]
      rcases Nat.lt_or_ge d regs1.length with hd | hd
      · exact relSL_put_own hr' hd hrr (fun b x y => (hA' b x).1.elim (fun x => hdis b x y) (fun x => by have := hlt b y; omega))
      · rw [List.set_eq_of_length_le hd, List.set_eq_of_length_le (by rw [relSL_len _ _ _ hr']; exact hd)]
        exact ⟨_, fun b hb => .inl hb, hr'⟩
  refine ⟨η', _, S', hi.next hzz hgone hA1T hg (by rw [put_defers]) hfin ?_ (fun b hb => ?_)⟩
  · cases dst with
    | none => exact idsBL_le hn _ hids
    | some d => exact idsBL_set _ _ _ (idsBL_le hn _ hids) hri
  · rcases hS' b hb with hb | hb
    · exact ⟨.inl (hB1Z b hb), .inl (hB1T b hb), Nat.lt_of_lt_of_le (hlt b hb) hg.size⟩
    · obtain ⟨g1, g2⟩ := hA' b hb
      exact ⟨g1.imp (hA1Z b) id, g1.imp (hA1T b) id, g2⟩

def pushed (w : World) (o : Obj) : World := { w with heap := w.heap.push o }
theorem pushed_grew (w : World) (o : Obj) (A : FP) : Grew w (pushed w o) A :=
  ⟨rfl, rfl, rfl, by simp [pushed], fun b hb _ => by simp only [pushed]; rw [Array.getElem?_push, if_neg (by omega)]⟩
theorem pushed_new (w : World) (o : Obj) : (pushed w o).heap[w.heap.size]? = some o := by
  show (w.heap.push o)[w.heap.size]? = some o
  rw [Array.getElem?_push, if_pos rfl]
theorem pushed_size (w : World) (o : Obj) : (pushed w o).heap.size = w.heap.size + 1 := by simp [pushed]
theorem run_newRow {P : Program} {e : TypeId} {cells : Array Value} {w : World} : (newRow e cells).run P w = .ok (ad w.heap.size 0) (pushed w (.cells cells e (0, 0))) := rfl

/- a block of its own for a variable -/
def vcBox (s : St) (dst : Option Nat) (x : AV) (K : St → Prop) : Prop :=
  match leavesOf x with
  | some ls => K ⟨setR s.regs dst (.box s.nx ls), s.nx + 1⟩
  | none => False

theorem vcBox_ok {P : Program} {s : St} {dst : Option Nat} {x : AV} {K : St → Prop} (h : vcBox s dst x K) {C : Ctx} {a : Act} {w : World} {η : Nat → Value} {Z T : FP}
    (hi : Inst C s a w η Z T) {v : Value} (hx : relS Z η w x v (fun _ => False)) (hxi : idsB s.nx x) (e : TypeId) :
    ∃ u w' s', (do pure (Value.pointer (some (← newVar e v))) : Sem Value).run P w = .ok u w' ∧ K s' ∧ Rel C s' (a.put dst u) w' := by
  unfold vcBox at h
  split at h
  · rename_i ls hl
    obtain ⟨hr, hc⟩ := leaves_rel hx hl
    refine ⟨.pointer (some (ad w.heap.size 0)), pushed w (.cells v.cells e (0, 0)), _, by unfold newVar; rw [run_bind_ok run_newRow]; rfl, h, ?_⟩
    have hids : idsBL s.nx ls := by
      cases x <;> simp only [leavesOf, Option.some.injEq, reduceCtorEq] at hl <;> try (subst hl; exact ⟨hxi, trivial⟩)
      case agg fs =>
        split at hl
        · simp only [Option.some.injEq] at hl; subst hl; simpa only [idsB] using hxi
        · cases hl
    refine hi.putOwn (A1 := fun _ => False) (η' := fun i => if i = s.nx then .pointer (some (ad w.heap.size 0)) else η i) (A' := one w.heap.size) hi.rel hi.ids (fun _ h => h) (fun _ h h' => (h' h).elim) (fun _ h => h.elim)
      (fun _ h => h) (fun _ h => h.elim) (fun _ h => h.elim) (fun b hb => (hi.own b hb).1) (pushed_grew _ _ _) (Nat.le_succ _) (fun i hi => if_neg (by omega)) ?_ ?_ ?_ dst
    · simp only [relS]
      refine ⟨by simp, w.heap.size, v.cells, e, fun _ => False, rfl, pushed_new _ _, ?_, join_emp_right _⟩
      exact relSL_mono (n := s.nx) (fun b hz hb => ⟨fun x => x.elim hz (fun x => by omega), (pushed_grew w _ (fun _ => False)).old b hb id⟩) (fun i hi => if_neg (by omega)) _ _ _ hids (fun b hb => hb.elim) hr
    · simp only [idsB]; exact ⟨Nat.lt_succ_self _, idsBL_le (Nat.le_succ _) _ hids⟩
    · intro b hb; rw [pushed_size]; simp only [one] at hb; omega
  · exact h.elim

end Go.Eng
