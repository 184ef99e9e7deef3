/- What a reading of data says, in the engine's words. -/
import Derived.Test.YtinkjpfkemkhaaaDoorEngW
import Derived.ProofKit
set_option linter.unusedVariables false
set_option linter.unusedSimpArgs false
namespace Go.Eng

def Old (w : World) : FP := fun b => w.heap.size ≤ b

def Opens (P : Program) (t : TypeId) {α : Type} (f : α → List AV) (good : α → Prop) : Prop :=
  ∀ {H : Type} (enc : TypeId × Value → H) (w : World) (spare : Nat → Bool) (held : Bool) (fuel : Nat) (cs : List Value) (y : DataW H × List MemPlace),
    DataW.trod enc P w 0 spare held fuel t cs = some y → ∃ x : α, good x ∧ rel0L (Old w) w (f x) cs (fun _ => False)

theorem rel0L_one {Z : FP} {w : World} {a : AV} {v : Value} : rel0L Z w [a] [v] (fun _ => False) ↔ rel0 Z w a v (fun _ => False) := by
  simp only [rel0L]
  constructor
  · rintro ⟨u, cs', A, B, e, hj, h1, h2, h3⟩
    simp only [List.cons.injEq] at e
    obtain ⟨rfl, rfl⟩ := e
    have := (emp_of_join hj emp_false).1
    rwa [emp_eq this] at h1
  · intro h
    exact ⟨v, [], fun _ => False, fun _ => False, rfl, join_emp_left _, h, rfl, emp_false⟩

theorem rel0L_cons {Z : FP} {w : World} {a : AV} {as : List AV} {v : Value} {vs : List Value} (h1 : rel0 Z w a v (fun _ => False)) (h2 : rel0L Z w as vs (fun _ => False)) :
    rel0L Z w (a :: as) (v :: vs) (fun _ => False) := by
  simp only [rel0L]
  exact ⟨v, vs, _, _, rfl, join_emp_left _, h1, h2⟩

theorem wf_int {k : IntKind} {n : Int} (h : (Lit.int k n).wf = true) : inR k n := by
  unfold inR
  simpa [Lit.wf] using h

theorem opens_int {P : Program} {t : TypeId} {k : IntKind} (ht : P.underlying t = some (.int k)) : Opens P t (fun n : Int => [.int k n]) (fun n => inR k n) := by
  intro H enc w spare held fuel cs y h
  obtain ⟨n, rfl, _, hw⟩ := DataW.trod_int ht h
  exact ⟨n, wf_int hw, rel0L_one.2 (by simp [rel0, emp])⟩
theorem opens_bool {P : Program} {t : TypeId} (ht : P.underlying t = some .bool) : Opens P t (fun b : Bool => [.bool b]) (fun _ => True) := by
  intro H enc w spare held fuel cs y h
  obtain ⟨n, rfl, _⟩ := DataW.trod_bool ht h
  exact ⟨n, trivial, rel0L_one.2 (by simp [rel0, emp])⟩
theorem opens_str {P : Program} {t : TypeId} (ht : P.underlying t = some .string) : Opens P t (fun s : List UInt8 => [.str s]) (fun s => s.length < 2 ^ 63) := by
  intro H enc w spare held fuel cs y h
  obtain ⟨n, rfl, _, hl⟩ := DataW.trod_string ht h
  refine ⟨n.data.toList, ?_, rel0L_one.2 ?_⟩
  · have : n.data.toList.length ≤ maxLen := hl
    unfold maxLen at this; omega
  · simp only [rel0]; exact ⟨trivial, emp_false⟩

theorem exists_list {α : Type} {p : Nat → α → Prop} : ∀ n, (∀ i, i < n → ∃ x, p i x) → ∃ l : List α, l.length = n ∧ ∀ i x, l[i]? = some x → p i x
  | 0, _ => ⟨[], rfl, fun i x h => by simp at h⟩
  | n + 1, h => by
    obtain ⟨l, hl, hp⟩ := exists_list n fun i hi => h i (by omega)
    obtain ⟨x, hx⟩ := h n (by omega)
    refine ⟨l ++ [x], by simp [hl], fun i y hy => ?_⟩
    by_cases hi : i < l.length
    · rw [List.getElem?_append_left hi] at hy; exact hp i y hy
    · rw [List.getElem?_append_right (by omega)] at hy
      have : i - l.length = 0 := by
        rcases Nat.eq_zero_or_pos (i - l.length) with h | h
        · exact h
        · rw [List.getElem?_eq_none (by simp; omega)] at hy; cases hy
      rw [this] at hy; simp at hy; subst hy
      rwa [show i = n by omega]

theorem rows_of {α : Type} {sz : Nat} {R : α → List Value → FP → Prop} : ∀ (xs : List α) (arr : List Value),
    (∀ (i : Nat) (x : α), xs[i]? = some x → ((arr.drop (i * sz)).take sz).length = sz ∧ R x ((arr.drop (i * sz)).take sz) (fun _ => False)) → Rows sz R xs arr (fun _ => False)
  | [], arr, h => emp_false
  | x :: xs, arr, h => by
    have h0 := h 0 x rfl
    simp only [Nat.zero_mul, List.drop_zero] at h0
    refine ⟨_, _, join_emp_left _, h0.1, h0.2, rows_of xs (arr.drop sz) fun i y hy => ?_⟩
    have := h (i + 1) y (by simpa using hy)
    rwa [Nat.succ_mul, Nat.add_comm, ← List.drop_drop] at this

theorem opens_slice {P : Program} {t e : TypeId} {sz : Nat} {α : Type} {f : α → List AV} {good : α → Prop} (ht : P.underlying t = some (.slice e)) (hc : P.cellsOf e = sz) (hpos : 0 < sz)
    (ho : Opens P e f good) : Opens P t (fun l : List α => [.sl false 0 sz α f l]) (fun l => l.length < 2 ^ 63 ∧ ∀ x ∈ l, good x) := by
  intro H enc w spare held fuel cs y h
  rcases DataW.trod_slice ht h with ⟨rfl, _⟩ | ⟨a, len, cap, elems, rest, n, _, rfl, _, hb, hl, hm, hlen, hel, _, _⟩
  · refine ⟨[], ⟨by simp, by simp⟩, rel0L_one.2 ?_⟩
    simp only [rel0]
    exact ⟨none, 0, 0, rfl, rfl, Nat.le_refl _, .inr ⟨trivial, emp_false, .inl trivial⟩⟩
  · have each : ∀ i, i < len → ∃ x : α, good x ∧ ∃ cs, w.cells? 0 (a.add (i * sz)) sz = some cs ∧ rel0L (Old w) w (f x) cs (fun _ => False) := by
      intro i hi
      have h1 := hel i hi
      rw [hc] at h1
      rw [List.getElem?_eq_getElem (by omega : i < elems.length), Option.bind_eq_some_iff] at h1
      obtain ⟨cs, h2, h3⟩ := h1
      obtain ⟨x, hg, hr⟩ := ho enc w spare held n cs _ h3
      exact ⟨x, hg, cs, h2, hr⟩
    obtain ⟨l, hll, hp⟩ := exists_list len each
    refine ⟨l, ⟨?_, ?_⟩, rel0L_one.2 ?_⟩
    · unfold maxLen at hm; omega
    · intro x hx
      obtain ⟨i, hi⟩ := List.getElem?_of_mem hx
      exact (hp i x hi).1
    · simp only [rel0]
      refine ⟨some a, len, cap, rfl, hll.symm, hl, .inr ⟨trivial, emp_false, ?_⟩⟩
      rcases Nat.eq_zero_or_pos len with h0 | h0
      · exact .inl (List.length_eq_zero_iff.1 (by omega))
      · refine .inr ?_
        obtain ⟨x0, _, c0, hc0, _⟩ := each 0 h0
        have h00 := (World.cells?_some hc0).2.2 0 hpos
        have hcl := (World.cells?_some hc0).2.1
        simp only [Nat.zero_mul, Addr.add] at h00
        obtain ⟨b, off, sp⟩ := a
        simp only [World.cell?, if_true] at h00
        split at h00
        · rename_i arr ty fr harr
          split at h00
          · rw [List.getElem?_eq_getElem (by omega)] at h00; cases h00
          · rename_i hsp
            have hsp : sp = none := by simpa using hsp
            subst hsp
            have hlt : b < w.heap.size := by
              rcases Nat.lt_or_ge b w.heap.size with h | h
              · exact h
              · rw [Array.getElem?_eq_none h] at harr; cases harr
            refine ⟨b, off, arr, ty, fr, rfl, by unfold Old; omega, harr, rows_of l _ fun i x hx => ?_⟩
            have hi : i < l.length := (List.getElem?_eq_some_iff.1 hx).1
            obtain ⟨hg, cs, hcs, hr⟩ := hp i x hx
            obtain ⟨_, hcl, hce⟩ := World.cells?_some hcs
            have e : ((arr.toList.drop off).drop (i * sz)).take sz = cs := by
              refine List.ext_getElem? fun j => ?_
              rw [List.getElem?_take]
              split
              · rename_i hj
                have := hce j hj
                rw [← this]
                simp only [List.getElem?_drop, Array.getElem?_toList]
                have ea : ((⟨b, off, none⟩ : Addr).add (i * sz)).add j = ⟨b, off + i * sz + j, none⟩ := by
                  unfold Addr.add
                  by_cases h1 : i * sz = 0 <;> by_cases h2 : j = 0 <;> simp [h1, h2]
                rw [ea]
                simp only [World.cell?, harr]
                simp [Nat.add_assoc]
              · rw [List.getElem?_eq_none (by omega)]
            rw [e]
            exact ⟨hcl, hr⟩
        · rw [List.getElem?_eq_getElem (by omega)] at h00; cases h00

theorem trod_struct_cells {P : Program} {H : Type} {enc : TypeId × Value → H} {w : World} {base : Nat} {spare : Nat → Bool} {held : Bool} {fuel : Nat} {t : TypeId} {cs : List Value} {y : DataW H × List MemPlace} {fs : Array Field}
    (ht : P.underlying t = some (.struct fs)) (hn : P.cellsOf t = fs.size) (hf : ∀ (i : Nat) (f : Field), fs[i]? = some f → f.offset = i ∧ P.cellsOf f.type = 1)
    (h : DataW.trod enc P w base spare held fuel t cs = some y) : cs.length = fs.size ∧ ∃ n, ∀ (i : Nat) (f : Field) (c : Value), fs[i]? = some f → cs[i]? = some c →
      ∃ z, DataW.trod enc P w base spare held n f.type [c] = some z := by
  obtain ⟨xs, n, _, _, h1, h2, h3⟩ := DataW.trod_struct ht h
  refine ⟨by omega, n, fun i f c hi hc => ?_⟩
  have h4 := h3 i f hi
  rw [(hf i f hi).1, (hf i f hi).2] at h4
  have hlt : i < cs.length := (List.getElem?_eq_some_iff.1 hc).1
  have e : (cs.drop i).take 1 = [c] := by
    rw [List.drop_eq_getElem_cons hlt]
    simp only [List.take_succ_cons, List.take_zero, List.cons.injEq, and_true]
    exact (List.getElem?_eq_some_iff.1 hc).2
  rw [e] at h4
  rw [h4]
  have : i < xs.length := by omega
  exact ⟨xs[i], by simp [this]⟩
end Go.Eng
