/- What the model's small steps on memory do, said of blocks. -/
import Derived.Test.YtinkjpfkemkhaaaDoorEngB
import Derived.Laws.Strings
set_option linter.unusedVariables false
set_option linter.unusedSimpArgs false
namespace Go.Eng

@[simp] theorem run_pure {α : Type} (P : Program) (x : α) (w : World) : (Sem.pure x).run P w = .ok x w := rfl
@[simp] theorem run_pure' {α : Type} (P : Program) (x : α) (w : World) : (pure x : Sem α).run P w = .ok x w := rfl
theorem run_bind {α β : Type} (P : Program) (s : Sem α) (f : α → Sem β) (w : World) : (s >>= f).run P w = match s.run P w with
    | .ok x w' => (f x).run P w'
    | .halt h w' => .halt h w' := by
  show (Sem.bind s f).run P w = _
  induction s generalizing w with
  | pure a => rfl
  | load m a k ih =>
    simp only [Sem.bind, Sem.run]
    cases w.cell? a with
    | some v => exact ih v w
    | none => simp only []; cases w.farLoad P a (m == .atomic) with
      | ok r => exact ih _ w
      | error h => rfl
  | store m a v k ih =>
    simp only [Sem.bind]
    cases v <;> first | rfl | (simp only [Sem.run]; cases w.cell? a with
      | some u => simp only []; cases w.frozen? a with
        | true => rfl
        | false => exact ih _
      | none => simp only []; cases w.farStore P a _ (m == .atomic) with
        | ok r => exact ih _
        | error h => rfl)
  | new o k ih => exact ih _ _
  | shape r k ih => exact ih _ _
  | freeze a n k ih => exact ih _
  | frozen a k ih => exact ih _ _
  | getObj r k ih =>
    simp only [Sem.bind, Sem.run]
    cases w.heap[r]? with
    | none => rfl
    | some o => cases o <;> first | rfl | exact ih _ _
  | setObj r o k ih =>
    simp only [Sem.bind, Sem.run]
    cases w.heap[r]? with
    | none => rfl
    | some o => cases o <;> first | rfl | exact ih _
  | choose q k ih =>
    simp only [Sem.bind, Sem.run]
    split
    · exact ih _ _
    · exact ih _ _
  | sys c k ih => exact ih _ _
  | program k ih => exact ih _ _
  | mark m k ih => exact ih _
  | halt h => rfl

theorem run_bind_ok {α β : Type} {P : Program} {s : Sem α} {f : α → Sem β} {w w' : World} {x : α} (h : s.run P w = .ok x w') : (s >>= f).run P w = (f x).run P w' := by
  rw [run_bind, h]

theorem run_typeInfo {P : Program} {t : TypeId} {i : TypeInfo} (h : P.info? t = some i) (w : World) : (typeInfo t).run P w = .ok i w := by
  simp only [typeInfo, program, run_bind, Sem.run, h]
  rfl
theorem run_underlying {P : Program} {t : TypeId} {d : TypeDesc} (h : P.underlying t = some d) (w : World) : (underlying t).run P w = .ok d w := by
  simp only [underlying, program, run_bind, Sem.run, h]
  rfl
theorem run_sizeOf {P : Program} {t : TypeId} {i : TypeInfo} (h : P.info? t = some i) (w : World) : (sizeOf t).run P w = .ok i.size w := by
  simp only [sizeOf]; rw [run_bind_ok (run_typeInfo h w)]; rfl
theorem run_zeroValue {P : Program} {t : TypeId} {i : TypeInfo} {z : Value} (h : P.info? t = some i) (hz : i.zero = some z) (w : World) : (zeroValue t).run P w = .ok z w := by
  simp only [zeroValue]; rw [run_bind_ok (run_typeInfo h w)]; simp only [hz]; rfl

def isAggD : TypeDesc → Bool
  | .struct _ => true
  | .array _ _ => true
  | _ => false
theorem run_isAgg {P : Program} {t : TypeId} {d : TypeDesc} (h : P.underlying t = some d) (w : World) : (isAgg t).run P w = .ok (isAggD d) w := by
  simp only [isAgg]; rw [run_bind_ok (run_underlying h w)]
  cases d <;> rfl

def ad (b off : Nat) : Addr := ⟨b, off, none⟩
@[simp] theorem ad_add (b off n : Nat) : (ad b off).add n = ad b (off + n) := by
  unfold Addr.add ad; split
  · rename_i h; subst h; rfl
  · rfl
theorem cell_ad {w : World} {b off : Nat} {arr : Array Value} {ty : TypeId} {fr : Nat × Nat} (h : w.heap[b]? = some (.cells arr ty fr)) : w.cell? (ad b off) = arr[off]? := by
  simp [World.cell?, ad, h]
theorem frozen_ad {w : World} {b off : Nat} {arr : Array Value} {ty : TypeId} (h : w.heap[b]? = some (.cells arr ty (0, 0))) : w.frozen? (ad b off) = false := by
  simp [World.frozen?, ad, h]

theorem run_load {P : Program} {w : World} {a : Addr} {v : Value} (h : w.cell? a = some v) : (load a).run P w = .ok v w := by
  simp [load, Sem.run, h]

theorem run_loadCellsFrom {P : Program} {w : World} {b off : Nat} : ∀ (cs : List Value) (i : Nat) (acc : Array Value),
    (∀ j, j < cs.length → w.cell? (ad b (off + (i + j))) = cs[j]?) → (loadCellsFrom (ad b off) i cs.length acc).run P w = .ok (acc ++ cs.toArray) w
  | [], i, acc, h => by simp [loadCellsFrom]
  | c :: cs, i, acc, h => by
    simp only [List.length_cons, loadCellsFrom]
    have h0 := h 0 (by simp)
    simp at h0
    rw [run_bind_ok (run_load (v := c) (by simpa using h0))]
    rw [run_loadCellsFrom cs (i + 1) (acc.push c) (fun j hj => by have := h (j + 1) (by simpa using hj); simpa [Nat.add_assoc, Nat.add_comm 1 j] using this)]
    simp

theorem run_loadCells {P : Program} {w : World} {b off : Nat} {arr : Array Value} {ty : TypeId} {fr : Nat × Nat} (hb : w.heap[b]? = some (.cells arr ty fr))
    {cs rest : List Value} (hc : arr.toList.drop off = cs ++ rest) : (loadCells (ad b off) cs.length).run P w = .ok cs.toArray w := by
  unfold loadCells
  rw [run_loadCellsFrom cs 0 #[] (fun j hj => ?_)]
  · simp
  · rw [cell_ad hb]
    have : (arr.toList.drop off)[j]? = (cs ++ rest)[j]? := by rw [hc]
    rw [List.getElem?_drop, List.getElem?_append_left hj] at this
    simpa [Array.getElem?_toList] using this

/- a row of cells in a block written over -/
def over (l : List Value) (off : Nat) (cs : List Value) : List Value := l.take off ++ cs ++ l.drop (off + cs.length)

structure Wrote (w w' : World) (b : Nat) (arr' : Array Value) (ty : TypeId) : Prop where
  os : w'.os = w.os
  tape : w'.tape = w.tape
  output : w'.output = w.output
  size : w'.heap.size = w.heap.size
  blk : w'.heap[b]? = some (.cells arr' ty (0, 0))
  oth : ∀ c, c ≠ b → w'.heap[c]? = w.heap[c]?

theorem over_nil (l : List Value) (off : Nat) : over l off [] = l := by simp [over]
theorem over_length {l : List Value} {off : Nat} {cs : List Value} (h : off + cs.length ≤ l.length) : (over l off cs).length = l.length := by
  simp [over]; omega

theorem run_storeCells {P : Program} {b off : Nat} {ty : TypeId} : ∀ (cs : List Value) (i : Nat) (w : World) (arr : Array Value), w.heap[b]? = some (.cells arr ty (0, 0)) →
    off + i + cs.length ≤ arr.size → (∀ c ∈ cs, isCell c) → ∃ w', (storeCells (ad b off) cs i).run P w = .ok () w' ∧ Wrote w w' b (over arr.toList (off + i) cs).toArray ty
  | [], i, w, arr, hb, hl, hc => by
    refine ⟨w, by simp [storeCells], ⟨rfl, rfl, rfl, rfl, ?_, fun _ _ => rfl⟩⟩
    rw [over_nil]; simpa using hb
  | c :: cs, i, w, arr, hb, hl, hc => by
    have hlt : off + i < arr.size := by simp at hl; omega
    have hst : (store (ad b (off + i)) c).run P w = .ok () (w.setCell (ad b (off + i)) c) := by
      have hcell : isCell c := hc c (by simp)
      have h1 : w.cell? (ad b (off + i)) = some arr[off + i] := by rw [cell_ad hb]; simp [hlt]
      have h2 := frozen_ad (off := off + i) hb
      cases c <;> first | exact hcell.elim | simp [store, Sem.run, h1, h2]
    have hb' : (w.setCell (ad b (off + i)) c).heap[b]? = some (.cells (arr.setIfInBounds (off + i) c) ty (0, 0)) := by
      simp [World.setCell, ad, Array.getElem?_modify, hb]
    obtain ⟨w', hr, hw⟩ := run_storeCells (P := P) (off := off) cs (i + 1) (w.setCell (ad b (off + i)) c) _ hb' (by simp at hl ⊢; omega) (fun x hx => hc x (by simp [hx]))
    refine ⟨w', ?_, ?_⟩
    · simp only [storeCells]
      rw [ad_add, run_bind_ok hst]
      exact hr
    · refine ⟨hw.os.trans rfl, hw.tape.trans rfl, hw.output.trans rfl, by rw [hw.size]; simp [World.setCell], ?_, fun x hx => ?_⟩
      · rw [hw.blk]
        congr 2
        apply congrArg List.toArray
        simp only [over, Array.toList_setIfInBounds]
        have e1 : (arr.toList.set (off + i) c).take (off + (i + 1)) = arr.toList.take (off + i) ++ [c] := by
          rw [show off + (i + 1) = off + i + 1 by omega]
          rw [List.take_succ_eq_append_getElem (by simp; omega)]
          simp [List.take_set_of_le]
        have e2 : (arr.toList.set (off + i) c).drop (off + (i + 1) + cs.length) = arr.toList.drop (off + i + (c :: cs).length) := by
          rw [List.drop_set_of_lt (by omega)]; congr 1; simp; omega
        rw [e1, e2]; simp
      · rw [hw.oth x hx]
        simp only [World.setCell, ad, Array.getElem?_modify]
        rw [if_neg (by omega)]

end Go.Eng
