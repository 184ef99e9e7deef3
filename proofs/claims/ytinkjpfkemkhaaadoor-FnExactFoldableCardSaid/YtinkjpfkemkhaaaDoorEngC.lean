/- The state of a call and the operations that only look. -/
import Derived.Test.YtinkjpfkemkhaaaDoorEngR
set_option linter.unusedVariables false
set_option linter.unusedSimpArgs false
namespace Go.Eng

structure St where
  regs : List AV
  nx : Nat

structure Ctx where
  w0 : World
  Z0 : FP
  S0 : FP

structure OkW (C : Ctx) (Z : FP) (w : World) : Prop where
  os : w.os = C.w0.os
  tape : w.tape = C.w0.tape
  output : w.output = C.w0.output
  size : C.w0.heap.size ≤ w.heap.size
  old : ∀ b, b < C.w0.heap.size → ¬ C.S0 b → w.heap[b]? = C.w0.heap[b]? ∧ (Z b ↔ C.Z0 b)

structure Inst (C : Ctx) (s : St) (a : Act) (w : World) (η : Nat → Value) (Z S : FP) : Prop where
  defers : a.defers = []
  rel : relSL Z η w s.regs a.tmps.toList S
  ids : idsBL s.nx s.regs
  own : ∀ b, S b → Z b ∧ b < w.heap.size ∧ (b < C.w0.heap.size → C.S0 b)
  ok : OkW C Z w

def Rel (C : Ctx) (s : St) (a : Act) (w : World) : Prop := ∃ η Z S, Inst C s a w η Z S

def setR (regs : List AV) (dst : Option Nat) (r : AV) : List AV := match dst with
  | some d => regs.set d r
  | none => regs

theorem put_toList (a : Act) (d : Nat) (v : Value) : (a.put (some d) v).tmps.toList = a.tmps.toList.set d v := by
  simp [Act.put]
theorem put_defers (a : Act) (d : Option Nat) (v : Value) : (a.put d v).defers = a.defers := by
  cases d <;> rfl

theorem Inst.put {C : Ctx} {s : St} {a : Act} {w : World} {η : Nat → Value} {Z S : FP} (h : Inst C s a w η Z S) (dst : Option Nat) {r : AV} {v : Value}
    (hr : relS Z η w r v (fun _ => False)) (hi : idsB s.nx r) : Rel C ⟨setR s.regs dst r, s.nx⟩ (a.put dst v) w := by
  cases dst with
  | none => exact ⟨η, Z, S, h⟩
  | some d =>
    obtain ⟨S', hs, hr'⟩ := relSL_put h.rel d hr
    refine ⟨η, Z, S', ⟨by rw [put_defers]; exact h.defers, by rw [put_toList]; exact hr', idsBL_set _ _ _ h.ids hi, fun b hb => h.own b (hs b hb), h.ok⟩⟩

/- what an operand is -/
def constLeaf : Value → AV
  | .int k n => .int k n
  | .bool b => .bool b
  | .string s => .str s.data.toList
  | .slice none 0 0 => .nil
  | .agg _ => .top
  | .tuple _ => .top
  | v => .val v
def constAV : Value → AV
  | .agg cs => .agg (cs.toList.map constLeaf)
  | .tuple _ => .top
  | v => constLeaf v
def opAV (regs : List AV) : Operand → AV
  | .tmp t => copyAV (regs.getD t .top)
  | .const v => constAV v
  | .func f => .clo (.func f) []
  | .global _ => .top

theorem constLeaf_rel (Z : FP) (η : Nat → Value) (w : World) (v : Value) : relS Z η w (constLeaf v) v (fun _ => False) := by
  cases v with
  | slice a n c =>
    unfold constLeaf
    split <;> simp_all [relS, rel0, emp, isCell]
  | _ => simp [constLeaf, relS, rel0, emp, isCell]
theorem constL_rel (Z : FP) (η : Nat → Value) (w : World) : ∀ l : List Value, relSL Z η w (l.map constLeaf) l (fun _ => False)
  | [] => by simp [relSL, emp]
  | v :: l => by simp only [List.map, relSL]; exact ⟨v, l, _, _, rfl, join_emp_left _, constLeaf_rel Z η w v, constL_rel Z η w l⟩
theorem constAV_rel (Z : FP) (η : Nat → Value) (w : World) (v : Value) : relS Z η w (constAV v) v (fun _ => False) := by
  unfold constAV
  split
  · simp only [relS]; exact ⟨_, by simp, constL_rel Z η w _⟩
  · simp only [relS, rel0]; exact emp_false
  · exact constLeaf_rel Z η w v

theorem idsB_constLeaf (n : Nat) (v : Value) : idsB n (constLeaf v) := by
  unfold constLeaf; split <;> trivial
theorem idsBL_const (n : Nat) : ∀ l : List Value, idsBL n (l.map constLeaf)
  | [] => trivial
  | v :: l => ⟨idsB_constLeaf n v, idsBL_const n l⟩
theorem idsB_const (n : Nat) (v : Value) : idsB n (constAV v) := by
  unfold constAV; split
  · simp only [idsB]; exact idsBL_const n _
  · trivial
  · exact idsB_constLeaf n v

theorem opAV_rel {Z : FP} {η : Nat → Value} {w : World} {regs : List AV} {a : Act} {S : FP} (h : relSL Z η w regs a.tmps.toList S) (x : Operand) :
    relS Z η w (opAV regs x) (a.eval x) (fun _ => False) := by
  cases x with
  | const v => exact constAV_rel Z η w v
  | func f => simp only [opAV, Act.eval, relS, relSL]; exact ⟨[], rfl, rfl, emp_false⟩
  | global g => simp only [opAV, relS, rel0]; exact emp_false
  | tmp t =>
    simp only [opAV, Act.eval]
    rcases Nat.lt_or_ge t regs.length with ht | ht
    · obtain ⟨v, A, B, hv, hr, hj, _⟩ := focus regs a.tmps.toList S t regs[t] h (by simp)
      have e1 : regs.getD t .top = regs[t] := by simp [List.getD, ht]
      have e2 : a.tmps.getD t undef = v := by
        have : a.tmps[t]? = some v := by simpa [Array.getElem?_toList] using hv
        simp [Array.getD_eq_getD_getElem?, this]
      rw [e1, e2]; exact copy_rel _ _ _ hr
    · have e1 : regs.getD t .top = .top := by simp [List.getD, ht]
      rw [e1]; simp only [copyAV, relS, rel0]; exact emp_false
theorem opAV_ids {n : Nat} {regs : List AV} (h : idsBL n regs) (x : Operand) : idsB n (opAV regs x) := by
  cases x with
  | const v => exact idsB_const n v
  | func f => simp only [opAV, idsB, idsBL]
  | global g => trivial
  | tmp t =>
    simp only [opAV]
    rcases Nat.lt_or_ge t regs.length with ht | ht
    · have e1 : regs.getD t .top = regs[t] := by simp [List.getD, ht]
      rw [e1]; exact copy_ids _ (idsBL_get regs t _ h (by simp))
    · have e1 : regs.getD t .top = .top := by simp [List.getD, ht]
      rw [e1]; trivial

/- leaves: what fills one cell -/
def isLeaf : AV → Bool
  | .agg _ => false
  | .tup _ => false
  | .top => false
  | _ => true
theorem leaf_cell {Z : FP} {η : Nat → Value} {w : World} {a : AV} {v : Value} {S : FP} (h : relS Z η w a v S) (hl : isLeaf a = true) : isCell v := by
  cases a <;> simp only [isLeaf, Bool.false_eq_true] at hl <;> simp only [relS, rel0] at h
  case int => rw [h.1]; trivial
  case bool => rw [h.1]; trivial
  case str => rw [h.1]; trivial
  case val => rw [h.1]; exact h.2.1
  case any => exact h.1
  case nil => rw [h.1]; trivial
  case hole => exact h.2.1
  case al => exact h.2.1
  case po => rw [h.1]; trivial
  case box => obtain ⟨_, b, arr, ty, S1, e, _⟩ := h; rw [e]; trivial
  case pf => obtain ⟨_, b, off, arr, ty, fr, cs, rest, S1, e, _⟩ := h; rw [e]; trivial
  case clo => obtain ⟨cs, e, _⟩ := h; rw [e]; trivial
  case sl => obtain ⟨_, a, n, c, e, _⟩ := h; rw [e]; trivial
theorem cells_of_cell {v : Value} (h : isCell v) : v.cells = #[v] := by cases v <;> first | rfl | exact h.elim

def leavesOf : AV → Option (List AV)
  | .agg fs => if fs.all isLeaf then some fs else none
  | .tup _ => none
  | .top => none
  | a => some [a]
theorem leavesL_cells {Z : FP} {η : Nat → Value} {w : World} : ∀ (fs : List AV) (cs : List Value) (S : FP), relSL Z η w fs cs S → fs.all isLeaf = true → ∀ c ∈ cs, isCell c
  | [], cs, S, h, hl => by simp only [relSL] at h; simp [h.1]
  | f :: fs, cs, S, h, hl => by
    simp only [relSL] at h
    obtain ⟨v, cs', A, B, e, hj, h1, h2⟩ := h
    simp only [List.all_cons, Bool.and_eq_true] at hl
    subst e
    intro c hc
    rcases List.mem_cons.1 hc with rfl | hc
    · exact leaf_cell h1 hl.1
    · exact leavesL_cells fs cs' B h2 hl.2 c hc
theorem leaves_rel {Z : FP} {η : Nat → Value} {w : World} {a : AV} {v : Value} {S : FP} {ls : List AV} (h : relS Z η w a v S) (hl : leavesOf a = some ls) :
    relSL Z η w ls v.cells.toList S ∧ (∀ c ∈ v.cells.toList, isCell c) := by
  have leafcase : ∀ a : AV, isLeaf a = true → relS Z η w a v S → relSL Z η w [a] v.cells.toList S ∧ (∀ c ∈ v.cells.toList, isCell c) := by
    intro a hl h
    have hc := leaf_cell h hl
    rw [cells_of_cell hc]
    exact ⟨⟨v, [], S, fun _ => False, rfl, join_emp_right S, h, rfl, emp_false⟩, by simpa using hc⟩
  cases a <;> simp only [leavesOf, Option.some.injEq, reduceCtorEq] at hl <;> try (subst hl; exact leafcase _ rfl h)
  case agg fs =>
    split at hl
    · rename_i hall
      simp only [Option.some.injEq] at hl; subst hl
      simp only [relS] at h
      obtain ⟨cs, e, h⟩ := h
      subst e
      simp only [Value.cells]
      exact ⟨h, leavesL_cells fs cs S h hall⟩
    · simp at hl

end Go.Eng
