/- Rows of one value; append. -/
import Derived.Test.YtinkjpfkemkhaaaDoorEngN
set_option linter.unusedVariables false
set_option linter.unusedSimpArgs false
namespace Go.Eng

theorem Rows_rep {α : Type} {sz : Nat} {R : α → List Value → FP → Prop} {x : α} {zl : List Value} (hz : zl.length = sz) (hx : R x zl (fun _ => False)) : ∀ (n : Nat) (cs : List Value),
    (∀ k, k < n → (cs.drop (k * sz)).take sz = zl) → Rows sz R (List.replicate n x) cs (fun _ => False)
  | 0, cs, h => by simp [Rows, emp]
  | n + 1, cs, h => by
    have h0 := h 0 (by omega)
    simp at h0
    simp only [List.replicate_succ, Rows]
    refine ⟨_, _, join_emp_left _, by rw [h0]; exact hz, by rw [h0]; exact hx, Rows_rep hz hx n _ fun k hk => ?_⟩
    have := h (k + 1) (by omega)
    rw [List.drop_drop]
    rw [show sz + k * sz = (k + 1) * sz by rw [Nat.succ_mul]; omega]
    exact this

theorem range_cells (zl : List Value) (sz c : Nat) (hz : zl.length = sz) (k : Nat) (hk : k < c) :
    ((((Array.range (c * sz)).map fun i => zl.toArray[i % zl.toArray.size]!).toList.drop (k * sz)).take sz) = zl := by
  have hle : (k + 1) * sz ≤ c * sz := Nat.mul_le_mul_right _ hk
  rw [Nat.succ_mul] at hle
  apply List.ext_getElem
  · simp; omega
  · intro i h1 h2
    have hi : i < sz := by omega
    simp only [List.getElem_take, List.getElem_drop, Array.getElem_toList, Array.getElem_map, Array.getElem_range, List.size_toArray]
    rw [hz]
    have : (k * sz + i) % sz = i := by rw [Nat.add_comm, Nat.add_mul_mod_self_right]; exact Nat.mod_eq_of_lt hi
    rw [this]
    simp [h2]

def vcMake (P : Program) (E : TypeId → Option ES) (s : St) (dst : Option Nat) (t : TypeId) (l c : AV) (K : St → Prop) : Prop :=
  match l, c with
  | .int _ n, .int _ m => match elemOfT P t, E t with
    | some (e, sz), some es => match P.info? e with
      | some i => match i.zero with
        | some z => match Nat.beq z.cells.size sz with
          | true => (0 ≤ n ∧ n ≤ m ∧ (i.bytes : Int) * m ≤ 2 ^ 46 ∧ m ≤ 2 ^ 46) ∧ ∃ x : es.α, handL false (es.f x) [] (z.cells.toList.map constLeaf) fun _ =>
              K ⟨setR s.regs dst (.sl true s.nx sz es.α es.f (List.replicate n.toNat x)), s.nx + 1⟩
          | false => False
        | none => False
      | none => False
    | _, _ => False
  | _, _ => False

theorem run_askRoom {P : Program} {n : Nat} {w : World} : (askRoom n).run P w = .ok () w := by
  unfold askRoom; split <;> rfl

theorem vcMake_ok {P : Program} {E : TypeId → Option ES} {s : St} {dst : Option Nat} {t : TypeId} {l c : AV} {K : St → Prop} (h : vcMake P E s dst t l c K) {C : Ctx} {a : Act} {w : World}
    {η : Nat → Value} {Z T : FP} (hi : Inst C s a w η Z T) {lv cv : Value} (hl : relS Z η w l lv (fun _ => False)) (hc : relS Z η w c cv (fun _ => False)) :
    ∃ u w' s', (Instr.makeSlice t lv cv).run P w = .ok u w' ∧ K s' ∧ Rel C s' (a.put dst u) w' := by
  unfold vcMake at h
  split at h
  · rename_i k1 n k2 m
    simp only [relS, rel0] at hl hc
    rw [hl.1, hc.1]
    split at h
    · rename_i e sz es he hE
      obtain ⟨hu, inf, hinf, hsz⟩ := elemOfT_ok he
      split at h
      · rename_i i hi2
        rw [hinf] at hi2; simp only [Option.some.injEq] at hi2; subst hi2
        split at h
        · rename_i z hz
          split at h
          · rename_i hzs
            have hzs := Nat.eq_of_beq_eq_true hzs
            obtain ⟨⟨h0, h1, h2, h3⟩, x, h⟩ := h
            have hcr := constL_rel Z η w z.cells.toList
            have hci := idsBL_const s.nx z.cells.toList
            obtain ⟨Z', A', B', r', ho⟩ := handL_ok (es.f x) [] _ _ h Z [] z.cells.toList (fun _ => False) (fun _ => False) (fun _ => False) (by simp [relSL, emp]) (by trivial) hcr hci (join_emp_left _)
            have hA' : A' = fun _ => False := emp_eq fun b hb => ho.part b (.inl hb)
            have hgot := ho.got
            rw [hA'] at hgot
            have hZ : ∀ b, Z b → Z' b := fun b hb => Classical.byContradiction fun hn => ho.gone b hb hn
            have hn64 : IntKind.i64.wrap n = n := wrap_in ⟨by simp [IntKind.min, IntKind.bits, IntKind.signed]; omega, by simp [IntKind.max, IntKind.bits, IntKind.signed]; omega⟩
            have hm64 : IntKind.i64.wrap m = m := wrap_in ⟨by simp [IntKind.min, IntKind.bits, IntKind.signed]; omega, by simp [IntKind.max, IntKind.bits, IntKind.signed]; omega⟩
            let cells := (Array.range (m.toNat * sz)).map fun i => z.cells.toList.toArray[i % z.cells.toList.toArray.size]!
            refine ⟨.slice (some (ad w.heap.size 0)) n.toNat m.toNat, pushed w (.cells cells e (0, 0)), _, ?_, ho.k, ?_⟩
            · unfold Instr.makeSlice
              rw [run_bind_ok (run_underlying hu w)]
              simp only [asInt, asIntOf]
              rw [run_bind_ok (x := n) (w' := w) rfl]
              rw [run_bind_ok (x := m) (w' := w) rfl]
              rw [run_bind_ok (run_typeInfo hinf w)]
              simp only [hn64, hm64]
              have hcond : ((decide (m < 0) || decide (inf.bytes * m > 2 ^ 48)) || decide (n < 0) || decide (n > m)) = false := by
                simp; omega
              simp only [Bool.or_eq_true, decide_eq_true_eq, Bool.not_eq_eq_eq_not] at hcond ⊢
              rw [if_neg (by simp; omega)]
              rw [run_bind_ok run_askRoom]
              rw [run_bind_ok (run_sizeOf hinf w), hsz]
              by_cases hq : m.toNat * sz = 0
              · simp only [hq, if_true]
                rw [run_bind_ok (run_pure' P _ w)]
                rw [run_bind_ok run_newRow]
                have : cells = #[] := by simp [cells, hq]
                have hr0 : Array.range 0 = #[] := rfl
                rw [this]; simp [run_pure', ad, hr0]
              · simp only [hq, if_false]
                rw [run_bind_ok (run_zeroValue hinf hz w)]
                rw [run_bind_ok (run_pure' P _ w)]
                rw [run_bind_ok run_newRow]
                simp [cells, run_pure', ad]
            · refine hi.putOwn (A1 := fun _ => False) (η' := fun i => if i = s.nx then .slice (some (ad w.heap.size 0)) n.toNat m.toNat else η i) (A' := one w.heap.size) hi.rel hi.ids (fun _ h => h) (fun _ h h' => (h' h).elim) (fun _ h => h.elim)
                (fun _ h => h) (fun _ h => h.elim) (fun _ h => h.elim) (fun b hb => (hi.own b hb).1) (pushed_grew _ _ _) (Nat.le_succ _) (fun i hi => if_neg (by omega)) ?_ ?_ ?_ dst
              · simp only [relS, rel0]
                refine ⟨fun _ => by simp, _, _, _, rfl, by simp, by omega, .inl ⟨trivial, .inr ⟨w.heap.size, 0, cells, e, fun _ => False, rfl, pushed_new _ _, ?_, ?_, join_emp_right _⟩⟩⟩
                · simp [cells]
                · rw [List.drop_zero]
                  refine Rows_rep (zl := z.cells.toList) (by simpa using hzs) ?_ _ _ (fun k hk => ?_)
                  · refine rel0L_mono (fun b hz hb => ⟨fun x => x.elim (fun x => hz (hZ b x)) (fun x => by omega), (pushed_grew w _ (fun _ => False)).old b hb id⟩) _ _ _ (fun b hb => hb.elim) hgot
                  · exact range_cells z.cells.toList sz m.toNat (by simpa using hzs) k (by omega)
              · simp only [idsB]; intro _; exact Nat.lt_succ_self _
              · intro b hb; rw [pushed_size]; simp only [one] at hb; omega
          · exact h.elim
        · exact h.elim
      · exact h.elim
    · exact h.elim
  · exact h.elim

theorem Rows_congr {α : Type} {sz : Nat} {R : α → List Value → FP → Prop} : ∀ (xs : List α) (cs cs' : List Value) (S : FP), Rows sz R xs cs S →
    cs.take (xs.length * sz) = cs'.take (xs.length * sz) → Rows sz R xs cs' S
  | [], _, _, _, h, _ => h
  | x :: xs, cs, cs', S, h, he => by
    obtain ⟨A, B, hj, hl, h1, h2⟩ := h
    have e0 : (x :: xs).length * sz = sz + xs.length * sz := by simp [Nat.succ_mul]; omega
    rw [e0] at he
    have e1 : cs'.take sz = cs.take sz := by
      have := congrArg (List.take sz) he
      simpa [List.take_take, Nat.min_eq_left (Nat.le_add_right sz (xs.length * sz))] using this.symm
    have e2 : (cs.drop sz).take (xs.length * sz) = (cs'.drop sz).take (xs.length * sz) := by
      have := congrArg (List.drop sz) he
      simpa [List.drop_take] using this
    exact ⟨A, B, hj, by rw [e1]; exact hl, by rw [e1]; exact h1, Rows_congr xs _ _ B h2 e2⟩
theorem Rows_concat {α : Type} {sz : Nat} {R : α → List Value → FP → Prop} : ∀ (xs ys : List α) (cs : List Value) (A B S : FP), Rows sz R xs cs A → Rows sz R ys (cs.drop (xs.length * sz)) B → join S A B → Rows sz R (xs ++ ys) cs S
  | [], ys, cs, A, B, S, h1, h2, hj => by
    rw [show S = B from fp_ext (join_emp_l hj h1)]; simpa using h2
  | x :: xs, ys, cs, A, B, S, h1, h2, hj => by
    obtain ⟨A1, A2, hj1, hl, h3, h4⟩ := h1
    have e0 : (x :: xs).length * sz = sz + xs.length * sz := by simp [Nat.succ_mul]; omega
    rw [e0, ← List.drop_drop] at h2
    obtain ⟨E, h5, h6⟩ := join_assoc' hj hj1
    exact ⟨A1, E, h5, hl, h3, Rows_concat xs ys _ A2 B E h4 h2 h6⟩
theorem leaf0_cell {Z : FP} {w : World} {a : AV} {v : Value} {S : FP} (h : rel0 Z w a v S) (hl : isLeaf a = true) : isCell v := by
  cases a <;> simp only [isLeaf, Bool.false_eq_true] at hl <;> simp only [rel0] at h
  case int => rw [h.1]; trivial
  case bool => rw [h.1]; trivial
  case str => rw [h.1]; trivial
  case val => rw [h.1]; exact h.2.1
  case any => exact h.1
  case nil => rw [h.1]; trivial
  case box => obtain ⟨b, arr, ty, S1, e, _⟩ := h; rw [e]; trivial
  case pf => obtain ⟨_, b, off, arr, ty, fr, cs, rest, S1, e, _⟩ := h; rw [e]; trivial
  case clo => obtain ⟨cs, e, _⟩ := h; rw [e]; trivial
  case sl => obtain ⟨a, n, c, e, _⟩ := h; rw [e]; trivial
theorem leaves0_cells {Z : FP} {w : World} : ∀ (as : List AV) (cs : List Value) (S : FP), rel0L Z w as cs S → as.all isLeaf = true → ∀ c ∈ cs, isCell c
  | [], cs, S, h, _ => by simp only [rel0L] at h; simp [h.1]
  | a :: as, cs, S, h, hl => by
    simp only [rel0L] at h
    obtain ⟨v, cs', A, B, e, hj, h1, h2⟩ := h
    simp only [List.all_cons, Bool.and_eq_true] at hl
    subst e
    intro c hc
    rcases List.mem_cons.1 hc with rfl | hc
    · exact leaf0_cell h1 hl.1
    · exact leaves0_cells as cs' B h2 hl.2 c hc
theorem Rows_cells {Z : FP} {w : World} {α : Type} {sz : Nat} {f : α → List AV} (hf : ∀ x, (f x).all isLeaf = true) : ∀ (xs : List α) (cs : List Value) (S : FP), Rows sz (fun x cs A => rel0L Z w (f x) cs A) xs cs S →
    (∀ c ∈ cs.take (xs.length * sz), isCell c) ∧ xs.length * sz ≤ cs.length
  | [], cs, S, _ => by simp
  | x :: xs, cs, S, h => by
    obtain ⟨A, B, hj, hl, h1, h2⟩ := h
    obtain ⟨k1, k2⟩ := Rows_cells hf xs _ B h2
    have e0 : (x :: xs).length * sz = sz + xs.length * sz := by simp [Nat.succ_mul]; omega
    have hs : sz ≤ cs.length := by simp at hl; omega
    rw [e0]
    refine ⟨fun c hc => ?_, by simp at k2; omega⟩
    rw [List.take_add] at hc
    rcases List.mem_append.1 hc with hc | hc
    · exact leaves0_cells _ _ _ h1 (hf x) c hc
    · exact k1 c hc
theorem Rows_len {α : Type} {sz : Nat} {R : α → List Value → FP → Prop} : ∀ (xs : List α) (cs : List Value) (S : FP), Rows sz R xs cs S → xs.length * sz ≤ cs.length
  | [], cs, S, _ => by simp
  | x :: xs, cs, S, h => by
    obtain ⟨A, B, hj, hl, h1, h2⟩ := h
    have k2 := Rows_len xs _ B h2
    have e0 : (x :: xs).length * sz = sz + xs.length * sz := by simp [Nat.succ_mul]; omega
    have hs : sz ≤ cs.length := by simp at hl; omega
    rw [e0]; simp at k2; omega

theorem growBy_le : ∀ (r n c : Nat), 256 ≤ c → c < n → Builtin.growBy n r c ≤ 2 * n
  | 0, n, c, h1, h2 => by simp [Builtin.growBy]; omega
  | r + 1, n, c, h1, h2 => by
    simp only [Builtin.growBy]
    rw [if_neg (by omega)]
    by_cases h : c + (c + 768) / 4 < n
    · exact growBy_le r n _ (by omega) h
    · cases r with
      | zero => simp only [Builtin.growBy]; omega
      | succ r => simp only [Builtin.growBy]; rw [if_pos (by omega)]; omega
theorem nextcap_le {n c : Nat} (h : c < n) : Builtin.nextslicecap n c ≤ 2 * n := by
  unfold Builtin.nextslicecap
  split
  · omega
  · split
    · omega
    · exact growBy_le 4 n c (by omega) h

end Go.Eng
