/- Rows that the call makes: written out, and of one value. -/
import Derived.Test.YtinkjpfkemkhaaaDoorEngM2
set_option linter.unusedVariables false
set_option linter.unusedSimpArgs false
namespace Go.Eng

structure ES : Type 1 where
  α : Type
  f : α → List AV

/- cells written over -/
def overV (l : List Value) (off : Nat) (cs : List Value) : List Value := over l off cs
theorem fold_set (l : List Value) : ∀ (cs : List Value) (j : Nat) (arr : Array Value) (off : Nat), off + j + cs.length ≤ arr.size →
    ((cs.zipIdx j).foldl (fun (a : Array Value) (p : Value × Nat) => a.setIfInBounds (off + p.2) p.1) arr).toList = over arr.toList (off + j) cs
  | [], j, arr, off, h => by simp [over]
  | c :: cs, j, arr, off, h => by
    simp only [List.zipIdx_cons, List.foldl_cons]
    rw [fold_set l cs (j + 1) _ off (by simp at h ⊢; omega)]
    simp only [over, Array.toList_setIfInBounds]
    have hlt : off + j < arr.toList.length := by simp at h ⊢; omega
    have e1 : (arr.toList.set (off + j) c).take (off + (j + 1)) = arr.toList.take (off + j) ++ [c] := by
      rw [show off + (j + 1) = off + j + 1 by omega]
      rw [List.take_succ_eq_append_getElem (by simpa using hlt)]
      simp [List.take_set_of_le]
    have e2 : (arr.toList.set (off + j) c).drop (off + (j + 1) + cs.length) = arr.toList.drop (off + j + (c :: cs).length) := by
      rw [List.drop_set_of_lt (by omega)]; congr 1; simp; omega
    rw [e1, e2]; simp

theorem fill_ok (sz : Nat) : ∀ (vs : List Value) (j : Nat) (cells : Array Value), (∀ v ∈ vs, v.cells.size = sz) → (j + vs.length) * sz ≤ cells.size →
    ∃ out : Array Value, Instr.fill (fun i => some (i * sz, sz)) cells ((vs.zipIdx j).map fun p => (p.2, p.1)) = some out ∧
      out.toList = over cells.toList (j * sz) (vs.map (·.cells.toList)).flatten
  | [], j, cells, hv, hl => ⟨cells, by simp [Instr.fill], by simp [over]⟩
  | v :: vs, j, cells, hv, hl => by
    have hsz : v.cells.size = sz := hv v (by simp)
    have hl' : j * sz + sz + vs.length * sz ≤ cells.size := by
      have : (j + (v :: vs).length) * sz = j * sz + sz + vs.length * sz := by simp [Nat.add_mul]; omega
      omega
    simp only [List.zipIdx_cons, List.map_cons, Instr.fill]
    rw [if_neg (by simp [hsz]; omega)]
    have hf := fold_set [] v.cells.toList 0 cells (j * sz) (by simp [hsz]; omega)
    have hfold : (v.cells.zipIdx.foldl (fun cs (x : Value × Nat) => cs.setIfInBounds (j * sz + x.2) x.1) cells) =
        ((v.cells.toList.zipIdx 0).foldl (fun (a : Array Value) (p : Value × Nat) => a.setIfInBounds (j * sz + p.2) p.1) cells) := by
      rw [← Array.foldl_toList]; simp
    rw [← hfold] at hf
    have hlen : (over cells.toList (j * sz + 0) v.cells.toList).length = cells.toList.length := over_length (by simp [hsz]; omega)
    obtain ⟨out, ho, hout⟩ := fill_ok sz vs (j + 1) (v.cells.zipIdx.foldl (fun cs (x : Value × Nat) => cs.setIfInBounds (j * sz + x.2) x.1) cells) (fun u hu => hv u (by simp [hu])) (by
      have : (v.cells.zipIdx.foldl (fun cs (x : Value × Nat) => cs.setIfInBounds (j * sz + x.2) x.1) cells).size = cells.size := by
        rw [← Array.length_toList, hf, hlen]; simp
      rw [this]; simp [Nat.add_mul]; omega)
    refine ⟨out, ho, ?_⟩
    rw [hout, hf]
    have hvl : v.cells.toList.length = sz := by simp [hsz]
    simp only [over, Nat.add_zero, List.map_cons, List.flatten_cons]
    have e : (j + 1) * sz = j * sz + sz := by simp [Nat.add_mul]
    rw [e]
    have hjl : (cells.toList.take (j * sz)).length = j * sz := by simp; omega
    have t1 : (cells.toList.take (j * sz) ++ v.cells.toList ++ cells.toList.drop (j * sz + v.cells.toList.length)).take (j * sz + sz) = cells.toList.take (j * sz) ++ v.cells.toList := by
      rw [List.take_append_of_le_length (by rw [List.length_append, hjl, hvl]; omega)]
      rw [List.take_of_length_le (by rw [List.length_append, hjl, hvl]; omega)]
    have t2 : ∀ m, (cells.toList.take (j * sz) ++ v.cells.toList ++ cells.toList.drop (j * sz + v.cells.toList.length)).drop (j * sz + sz + m) = cells.toList.drop (j * sz + sz + m) := by
      intro m
      rw [List.drop_append]
      have : (cells.toList.take (j * sz) ++ v.cells.toList).length = j * sz + sz := by rw [List.length_append, hjl, hvl]
      rw [this, List.drop_of_length_le (by rw [this]; omega), List.drop_drop, hvl]
      simp only [List.nil_append]; congr 1; omega
    rw [t1, t2]
    simp only [List.append_assoc, List.length_append, hvl, Nat.add_assoc]

/- the parts of a row, each handed over -/
def vcParts {α : Type} (f : α → List AV) : List (List AV) → List AV → (List α → List AV → Prop) → Prop
  | [], regs, K => K [] regs
  | l :: ls, regs, K => ∃ x : α, handL false (f x) regs l fun regs' => vcParts f ls regs' fun xs => K (x :: xs)

theorem Rows_append_cells {α : Type} {sz : Nat} {R : α → List Value → FP → Prop} : ∀ (xs : List α) (cs rest : List Value) (S : FP), Rows sz R xs cs S → xs.length * sz ≤ cs.length → Rows sz R xs (cs ++ rest) S
  | [], cs, rest, S, h, _ => h
  | x :: xs, cs, rest, S, h, hl => by
    obtain ⟨A, B, hj, hl2, h1, h2⟩ := h
    have hs : sz ≤ cs.length := by simp [Nat.succ_mul] at hl; omega
    refine ⟨A, B, hj, ?_, ?_, ?_⟩
    · rw [List.take_append_of_le_length hs]; exact hl2
    · rw [List.take_append_of_le_length hs]; exact h1
    · rw [List.drop_append_of_le_length hs]
      exact Rows_append_cells xs _ rest B h2 (by simp [Nat.succ_mul] at hl ⊢; omega)

theorem vcParts_ok {η : Nat → Value} {w : World} {n : Nat} {α : Type} {f : α → List AV} (sz : Nat) : ∀ (ls : List (List AV)) (regs : List AV) (K : List α → List AV → Prop), vcParts f ls regs K →
    ∀ (Z : FP) (vs : List Value) (css : List (List Value)) (B : FP), relSL Z η w regs vs B → idsBL n regs → css.length = ls.length →
    (∀ (i : Nat) (l : List AV) (cs : List Value), ls[i]? = some l → css[i]? = some cs → relSL Z η w l cs (fun _ => False) ∧ idsBL n l ∧ cs.length = sz) → (∀ b, B b → Z b) →
    ∃ Z' A' B' regs' xs, relSL Z' η w regs' vs B' ∧ idsBL n regs' ∧ Rows sz (fun x cs A => rel0L Z' w (f x) cs A) xs css.flatten A' ∧ xs.length = ls.length ∧
      (∀ b, Z' b → Z b) ∧ (∀ b, Z b → ¬ Z' b → B b) ∧ (∀ b, A' b ∨ B' b → B b) ∧ (∀ b, A' b → B' b → False) ∧ (∀ b, A' b → Z' b) ∧ (∀ b, B' b → Z' b) ∧ K xs regs'
  | [], regs, K, h, Z, vs, css, B, hR, hI, hl, hp, hB => by
    have : css = [] := List.length_eq_zero_iff.1 hl
    subst this
    exact ⟨Z, fun _ => False, B, regs, [], hR, hI, emp_false, rfl, fun _ h => h, fun _ h h' => (h' h).elim, fun b h => h.resolve_left id, fun _ h => h.elim, fun _ h => h.elim, hB, h⟩
  | l :: ls, regs, K, h, Z, vs, css, B, hR, hI, hl, hp, hB => by
    obtain ⟨x, h⟩ := h
    cases css with
    | nil => simp at hl
    | cons cs css =>
      obtain ⟨g1, g2, g3⟩ := hp 0 l cs rfl rfl
      obtain ⟨Z1, A1, B1, r1, ho⟩ := handL_ok (f x) regs l _ h Z vs cs B (fun _ => False) B hR hI g1 g2 (join_emp_left B)
      have hB1 : ∀ b, B1 b → Z1 b := fun b hb => ho.ownB rfl b hb (hB b (ho.part b (.inr hb)))
      have hA1 : ∀ b, A1 b → Z1 b := fun b hb => ho.ownA b hb (hB b (ho.part b (.inl hb)))
      obtain ⟨Z2, A2, B2, r2, xs, k1, k2, k3, k4, k5, k6, k7, k8, k9, k10, k11⟩ := vcParts_ok sz ls r1 _ ho.k Z1 vs css B1 ho.rel ho.ids (by simpa using hl)
        (fun i l' cs' h1 h2 => by
          obtain ⟨p1, p2, p3⟩ := hp (i + 1) l' cs' (by simpa using h1) (by simpa using h2)
          exact ⟨relSL_mono (zmono (w := w) ho.zz) (fun _ _ => rfl) _ _ _ p2 (fun _ _ => rfl) p1, p2, p3⟩) hB1
      have hA1Z2 : ∀ b, A1 b → Z2 b := fun b hb => Classical.byContradiction fun hn => ho.dis b hb (k6 b (hA1 b hb) hn)
      refine ⟨Z2, fun b => A1 b ∨ A2 b, B2, r2, x :: xs, k1, k2, ?_, by simp [k4], fun b hb => ho.zz b (k5 b hb), ?_, ?_, ?_, ?_, k10, k11⟩
      · refine ⟨A1, A2, ⟨fun _ => Iff.rfl, fun b p q => ho.dis b p (k7 b (.inl q))⟩, ?_, ?_, ?_⟩
        · simp [g3]
        · simp only [List.flatten_cons]
          rw [List.take_append_of_le_length (by omega), List.take_of_length_le (by omega)]
          exact rel0L_mono (zmono k5) _ _ _ (fun _ _ => rfl) ho.got
        · simp only [List.flatten_cons]
          rw [List.drop_append_of_le_length (by omega), List.drop_of_length_le (by omega)]
          exact k3
      · intro b hz hz2
        by_cases hz1 : Z1 b
        · exact ho.part b (.inr (k6 b hz1 hz2))
        · exact ho.gone b hz hz1
      · intro b hb
        rcases hb with (hb | hb) | hb
        · exact ho.part b (.inl hb)
        · exact ho.part b (.inr (k7 b (.inl hb)))
        · exact ho.part b (.inr (k7 b (.inr hb)))
      · intro b hb hc
        rcases hb with hb | hb
        · exact ho.dis b hb (k7 b (.inr hc))
        · exact k8 b hb hc
      · intro b hb
        exact hb.elim (hA1Z2 b) (k9 b)

def leavesAll (regs : List AV) (sz : Nat) : List (Nat × Operand) → Nat → Option (List (List AV))
  | [], _ => some []
  | (i, x) :: ps, j => match Nat.beq i j with
    | true => match leavesOf (opAV regs x) with
      | some l => match Nat.beq l.length sz with
        | true => match leavesAll regs sz ps (j + 1) with
          | some ls => some (l :: ls)
          | none => none
        | false => none
      | none => none
    | false => none

theorem leavesOf_ids {n : Nat} {x : AV} {ls : List AV} (hxi : idsB n x) (hl : leavesOf x = some ls) : idsBL n ls := by
  cases x <;> simp only [leavesOf, Option.some.injEq, reduceCtorEq] at hl <;> try (subst hl; exact ⟨hxi, trivial⟩)
  case agg fs =>
    split at hl
    · simp only [Option.some.injEq] at hl; subst hl; simpa only [idsB] using hxi
    · cases hl

theorem leavesAll_ok {Z : FP} {η : Nat → Value} {w : World} {n : Nat} {regs : List AV} {a : Act} {S : FP} (hR : relSL Z η w regs a.tmps.toList S) (hI : idsBL n regs) {sz : Nat} :
    ∀ (ps : List (Nat × Operand)) (j : Nat) (ls : List (List AV)), leavesAll regs sz ps j = some ls →
    ps.map (fun p => (p.1, a.eval p.2)) = ((ps.map fun p => a.eval p.2).zipIdx j).map (fun p => (p.2, p.1)) ∧ ls.length = ps.length ∧
    (∀ v ∈ ps.map (fun p => a.eval p.2), v.cells.size = sz) ∧
    (∀ (i : Nat) (l : List AV) (cs : List Value), ls[i]? = some l → (ps.map fun p => (a.eval p.2).cells.toList)[i]? = some cs → relSL Z η w l cs (fun _ => False) ∧ idsBL n l ∧ cs.length = sz)
  | [], j, ls, h => by
    simp only [leavesAll, Option.some.injEq] at h; subst h
    exact ⟨rfl, rfl, by simp, by simp⟩
  | (i, x) :: ps, j, ls, h => by
    unfold leavesAll at h
    split at h
    · rename_i hij
      have hij := Nat.eq_of_beq_eq_true hij
      subst hij
      split at h
      · rename_i l hl
        split at h
        · rename_i hlen
          have hlen := Nat.eq_of_beq_eq_true hlen
          split at h
          · rename_i ls' hls
            simp only [Option.some.injEq] at h; subst h
            obtain ⟨p1, p2, p3, p4⟩ := leavesAll_ok hR hI ps (i + 1) ls' hls
            obtain ⟨q1, q2⟩ := leaves_rel (opAV_rel hR x) hl
            have hsz : (a.eval x).cells.toList.length = sz := by rw [relSL_len _ _ _ q1]; exact hlen
            refine ⟨by simp [p1], by simp [p2], ?_, ?_⟩
            · intro v hv
              simp only [List.map_cons, List.mem_cons] at hv
              rcases hv with rfl | hv
              · simpa using hsz
              · exact p3 v hv
            · intro k l' cs h1 h2
              cases k with
              | zero =>
                simp at h1 h2; subst h1; subst h2
                exact ⟨q1, leavesOf_ids (opAV_ids hI x) hl, hsz⟩
              | succ k => exact p4 k l' cs (by simpa using h1) (by simpa using h2)
          · cases h
        · cases h
      · cases h
    · cases h

def vcBuildSlice (P : Program) (E : TypeId → Option ES) (s : St) (dst : Option Nat) (t : TypeId) (len : Nat) (parts : List (Nat × Operand)) (K : St → Prop) : Prop :=
  match elemOfT P t, E t with
  | some (e, sz), some es => match P.info? e with
    | some i => match i.zero with
      | some z => match leavesAll s.regs sz parts 0, Nat.beq parts.length len, Nat.ble (len * sz) 16777216, Nat.blt 0 sz, Nat.beq z.cells.size sz with
        | some ls, true, true, true, true => vcParts es.f ls s.regs fun xs regs' => K ⟨setR regs' dst (.sl true s.nx sz es.α es.f xs), s.nx + 1⟩
        | _, _, _, _, _ => False
      | none => False
    | none => False
  | _, _ => False

theorem vcBuildSlice_ok {P : Program} {E : TypeId → Option ES} {s : St} {dst : Option Nat} {t : TypeId} {len : Nat} {parts : Array (Nat × Operand)} {K : St → Prop}
    (h : vcBuildSlice P E s dst t len parts.toList K) {C : Ctx} {a : Act} {w : World} {η : Nat → Value} {Z T : FP} (hi : Inst C s a w η Z T) :
    ∃ u w' s', (Instr.buildSlice t len (parts.map fun p => (p.1, a.eval p.2))).run P w = .ok u w' ∧ K s' ∧ Rel C s' (a.put dst u) w' := by
  unfold vcBuildSlice at h
  split at h
  · rename_i e sz es he hE
    obtain ⟨hu, inf, hinf, hsz⟩ := elemOfT_ok he
    split at h
    · rename_i i hi2
      rw [hinf] at hi2; simp only [Option.some.injEq] at hi2; subst hi2
      split at h
      · rename_i z hz
        split at h
        · rename_i ls hls hlen hle hpos hzs
          have hlen := Nat.eq_of_beq_eq_true hlen
          have hle := Nat.le_of_ble_eq_true hle
          have hpos : 0 < sz := Nat.le_of_ble_eq_true hpos
          have hzs := Nat.eq_of_beq_eq_true hzs
          obtain ⟨p1, p2, p3, p4⟩ := leavesAll_ok (a := a) hi.rel hi.ids parts.toList 0 ls hls
          obtain ⟨Z1, A1, B1, r1, xs, k1, k2, k3, k4, k5, k6, k7, k8, k9, k10, k11⟩ := vcParts_ok sz ls s.regs _ h Z a.tmps.toList
            (parts.toList.map fun p => (a.eval p.2).cells.toList) T hi.rel hi.ids (by simp [p2]) (fun i l cs h1 h2 => p4 i l cs h1 h2) (fun b hb => (hi.own b hb).1)
          obtain ⟨out, ho, hout⟩ := fill_ok sz (parts.toList.map fun p => a.eval p.2) 0 ((Array.range (len * sz)).map (fun k => (if len * sz = 0 then #[] else z.cells)[k % (if len * sz = 0 then #[] else z.cells).size]!)) p3 (by simp [hlen])
          have hflat : out.toList = (parts.toList.map fun p => (a.eval p.2).cells.toList).flatten := by
            rw [hout]
            simp only [over, Nat.zero_mul, List.take_zero, List.nil_append, Nat.zero_add, List.map_map]
            rw [List.drop_of_length_le]
            · simp; rfl
            · have hall : ∀ (l : List (Nat × Operand)), (∀ v ∈ l.map (fun p => a.eval p.2), v.cells.size = sz) → ((l.map ((fun x => x.cells.toList) ∘ fun p => a.eval p.2)).flatten).length = l.length * sz := by
                intro l
                induction l with
                | nil => intro _; simp
                | cons q l ih =>
                  intro hq
                  simp only [List.map_cons, List.flatten_cons, List.length_append, Function.comp]
                  have h1 := hq (a.eval q.2) (by simp)
                  have h2 := ih (fun v hv => hq v (by simp at hv ⊢; exact .inr hv))
                  rw [h2]; simp [h1, Nat.succ_mul]; omega
              rw [hall _ p3, hlen]; simp
          refine ⟨.slice (some (ad w.heap.size 0)) len len, pushed w (.cells out e (0, 0)), _, ?_, k11, ?_⟩
          · unfold Instr.buildSlice
            rw [run_bind_ok (run_underlying hu w)]
            simp only []
            rw [run_bind_ok (run_sizeOf hinf w), hsz]
            rw [if_neg (by omega)]
            have hparts : (parts.map fun p => (p.1, a.eval p.2)).toList = ((parts.toList.map fun p => a.eval p.2).zipIdx 0).map (fun p => (p.2, p.1)) := by
              rw [← p1]; simp
            rw [hparts]
            by_cases h0 : len * sz = 0
            · simp only [h0, if_true] at ho ⊢
              rw [run_bind_ok (run_pure' P _ w)]
              simp only [ho]
              rw [run_bind_ok run_newRow]; rfl
            · simp only [h0, if_false] at ho ⊢
              rw [run_bind_ok (run_zeroValue hinf hz w)]
              rw [run_bind_ok (run_pure' P _ w)]
              simp only [ho]
              rw [run_bind_ok run_newRow]; rfl
          · refine hi.putOwn (A1 := A1) (η' := fun i => if i = s.nx then .slice (some (ad w.heap.size 0)) len len else η i) (A' := fun b => b = w.heap.size ∨ A1 b) k1 k2 k5 k6 (fun b hb => k7 b (.inl hb)) (fun b hb => k7 b (.inr hb)) k8 k9 k10
              (pushed_grew _ _ _) (Nat.le_succ _) (fun i hi => if_neg (by omega)) ?_ ?_ ?_ dst
            · simp only [relS, rel0]
              refine ⟨fun _ => by simp, some (ad w.heap.size 0), len, len, rfl, ?_, Nat.le_refl _, .inl ⟨trivial, .inr ⟨w.heap.size, 0, out, e, A1, rfl, pushed_new _ _, ?_, ?_, ?_⟩⟩⟩
              · rw [k4, p2]; simpa using hlen.symm
              · have : out.toList.length = len * sz := by
                  rw [hout, over_length]
                  · simp
                  · have hall : ∀ (l : List Value), (∀ v ∈ l, v.cells.size = sz) → ((l.map (·.cells.toList)).flatten).length = l.length * sz := by
                      intro l
                      induction l with
                      | nil => intro _; simp
                      | cons q l ih =>
                        intro hq
                        simp only [List.map_cons, List.flatten_cons, List.length_append]
                        rw [ih (fun v hv => hq v (by simp [hv]))]
                        simp [hq q (by simp), Nat.succ_mul]; omega
                    rw [hall _ p3]; simp [hlen]
                simp at this; omega
              · rw [List.drop_zero, hflat]
                exact Rows_mono xs _ A1 (fun x cs A hA hx => rel0L_mono (fun b hz hb => ⟨fun x => x.elim hz (fun x => by omega), (pushed_grew w _ (fun _ => False)).old b hb id⟩) _ _ _
                  (fun b hb => (pushed_grew w _ (fun _ => False)).old b (hi.own b (k7 b (.inl (hA b hb)))).2.1 id) hx) k3
              · exact ⟨fun b => Iff.rfl, fun b h1 h2 => by
                  simp only [one] at h1
                  have := (hi.own b (k7 b (.inl h2))).2.1; omega⟩
            · simp only [idsB]; intro _; exact Nat.lt_succ_self _
            · intro b hb
              rw [pushed_size]
              rcases hb with hb | hb
              · omega
              · have := (hi.own b (k7 b (.inl hb))).2.1
                exact ⟨.inl hb, by omega⟩
        · exact h.elim
      · exact h.elim
    · exact h.elim
  · exact h.elim

end Go.Eng
