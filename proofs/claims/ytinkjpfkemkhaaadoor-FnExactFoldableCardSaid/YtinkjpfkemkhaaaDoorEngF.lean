/- More operations that only look: addresses of elements, bytes, parts, lengths, conversions. -/
import Derived.Test.YtinkjpfkemkhaaaDoorEngE
set_option linter.unusedVariables false
set_option linter.unusedSimpArgs false
namespace Go.Eng

def elemOfT (P : Program) (t : TypeId) : Option (TypeId × Nat) :=
  match P.underlying t with
  | some (.slice e) => match P.info? e with
    | some i => some (e, i.size)
    | none => none
  | _ => none

theorem elemOfT_ok {P : Program} {t e : TypeId} {n : Nat} (h : elemOfT P t = some (e, n)) : P.underlying t = some (.slice e) ∧ ∃ i, P.info? e = some i ∧ i.size = n := by
  unfold elemOfT at h
  split at h
  · rename_i e' hu
    split at h
    · rename_i i hi
      simp only [Option.some.injEq, Prod.mk.injEq] at h
      obtain ⟨rfl, rfl⟩ := h
      exact ⟨hu, i, hi, rfl⟩
    · cases h
  · cases h

def vcIndexAddr (P : Program) (regs : List AV) (t : TypeId) (x i : AV) (K : AV → Prop) : Prop :=
  match i with
  | .int _ n => match elemOfT P t with
    | some (_, es) => match x with
      | .sl false _ sz _ f xs => match Nat.beq sz es with
        | true => (0 ≤ n ∧ n < (xs.length : Int)) ∧ ∀ e, xs[n.toNat]? = some e → K (.pf (f e))
        | false => False
      | .al id => match findL id regs with
        | some (.sl true _ sz _ f xs) => match Nat.beq sz es with
          | true => (0 ≤ n ∧ n < (xs.length : Int)) ∧ K (.po id n.toNat sz 0)
          | false => False
        | _ => False
      | _ => False
    | none => False
  | _ => False

theorem run_indexAt {P : Program} {t e : TypeId} {i : TypeInfo} {k : IntKind} {n : Int} {a : Addr} {len cap : Nat} {w : World} (hu : P.underlying t = some (.slice e)) (hi : P.info? e = some i)
    (h0 : 0 ≤ n) (h1 : n < (len : Int)) : (Instr.indexAt t (.slice (some a) len cap) (.int k n)).run P w = .ok (.pointer (some (a.add (n.toNat * i.size)))) w := by
  unfold Instr.indexAt asIntOf
  rw [run_bind_ok (run_pure' P _ w)]
  simp only []
  rw [run_bind_ok (run_underlying hu w)]
  simp only []
  rw [run_bind_ok (run_pure' P _ w)]
  simp only []
  rw [run_bind_ok (run_underlying hu w)]
  simp only [h0, h1, and_self, if_true]
  rw [run_bind_ok (run_sizeOf hi w)]
  rfl

theorem vcIndexAddr_ok {P : Program} {regs : List AV} {t : TypeId} {x i : AV} {K : AV → Prop} (h : vcIndexAddr P regs t x i K) {Z : FP} {η : Nat → Value} {w : World} {n : Nat}
    {vs : List Value} {S : FP} {xv iv : Value} (hR : relSL Z η w regs vs S) (hI : idsBL n regs) (hx : relS Z η w x xv (fun _ => False)) (hxi : idsB n x)
    (hi : relS Z η w i iv (fun _ => False)) : POk P Z η w n (Instr.indexAt t xv iv) K := by
  unfold vcIndexAddr at h
  split at h
  · rename_i k q
    simp only [relS, rel0] at hi
    rw [hi.1]
    split at h
    · rename_i e es he
      obtain ⟨hu, inf, hinf, hsz⟩ := elemOfT_ok he
      split at h
      · rename_i i' sz α f xs
        split at h
        · rename_i hb
          have hb := Nat.eq_of_beq_eq_true hb
          subst hb
          obtain ⟨⟨h0, h1⟩, h⟩ := h
          have hlt : q.toNat < xs.length := by omega
          have hk : xs[q.toNat]? = some xs[q.toNat] := by simp
          have h := h _ hk
          simp only [relS, rel0] at hx
          obtain ⟨_, a, n', c, ev, hn, hc, hr⟩ := hx
          rcases hr with ⟨ho, _⟩ | ⟨_, _, hr⟩
          · cases ho
          · rcases hr with hr | ⟨b, off, arr, ty, fr, ha, hz, hbk, hrows⟩
            · subst hr; simp at hlt
            · subst ha
              subst ev
              subst hn
              obtain ⟨A, hA, hl, hr⟩ := rows_get xs _ _ _ _ hrows hk
              rw [List.drop_drop] at hl hr
              refine ⟨_, .pf (f xs[q.toNat]), fun _ _ => run_indexAt hu hinf h0 h1, ?_, trivial, h⟩
              simp only [relS, rel0]
              refine ⟨emp_false, b, off + q.toNat * sz, arr, ty, fr, _, (arr.toList.drop (off + q.toNat * sz)).drop sz, A, ?_, hz, hbk, (List.take_append_drop _ _).symm, hr, fun b hb => hA b hb⟩
              rw [hsz]; exact congrArg (fun a => Value.pointer (some a)) (ad_add b off _)
        · exact h.elim
      · rename_i id
        split at h
        · rename_i i' sz α f xs ho
          split at h
          · rename_i hb
            have hb := Nat.eq_of_beq_eq_true hb
            subst hb
            obtain ⟨⟨h0, h1⟩, h⟩ := h
            have hlt : q.toNat < xs.length := by omega
            obtain ⟨A, hA, hio, hr⟩ := findL_ok regs vs S _ hR ho
            simp only [relS] at hx
            simp only [relS, rel0] at hr
            obtain ⟨_, a, n', c, ev, hn, hc, hr⟩ := hr
            rcases hr with ⟨_, hr⟩ | ⟨ho, _⟩
            · rcases hr with ⟨ha, hc0, _⟩ | ⟨b, boff, arr, ty, S1, ha, hbk, hsz2, hrows, hj⟩
              · omega
              · subst ha
                subst hn
                rw [hx.1, ev]
                refine ⟨_, .po id q.toNat sz 0, fun _ _ => run_indexAt hu hinf h0 h1, ?_, hxi, h⟩
                simp only [relS]
                refine ⟨?_, emp_false⟩
                rw [ev, hsz]
                simp only [baseOf, Nat.add_zero]
                exact congrArg (fun a => Value.pointer (some a)) (ad_add b boff _)
            · cases ho
          · exact h.elim
        · exact h.elim
      · exact h.elim
    · exact h.elim
  · exact h.elim

/- a byte of a text; a part of an array value at a place that is known -/
def vcIndex (P : Program) (t : TypeId) (x i : AV) (K : AV → Prop) : Prop :=
  match i with
  | .int _ n => match x with
    | .str l => match P.underlying t with
      | some .string => (0 ≤ n ∧ n < (l.length : Int)) ∧ ∀ c, l[n.toNat]? = some c → K (.int .u8 c.toNat)
      | _ => False
    | _ => False
  | _ => False
theorem vcIndex_ok {P : Program} {t : TypeId} {x i : AV} {K : AV → Prop} (h : vcIndex P t x i K) {Z : FP} {η : Nat → Value} {w : World} {n : Nat} {xv iv : Value}
    (hx : relS Z η w x xv (fun _ => False)) (hi : relS Z η w i iv (fun _ => False)) : POk P Z η w n (Instr.index t xv iv) K := by
  unfold vcIndex at h
  split at h
  · rename_i k q
    simp only [relS, rel0] at hi
    rw [hi.1]
    split at h
    · rename_i l
      split at h
      · rename_i hu
        simp only [relS, rel0] at hx
        rw [hx.1]
        obtain ⟨⟨h0, h1⟩, h⟩ := h
        have hlt : q.toNat < l.length := by omega
        have hk : l[q.toNat]? = some l[q.toNat] := by simp
        refine ⟨.int .u8 l[q.toNat].toNat, .int .u8 l[q.toNat].toNat, fun w _ => ?_, ⟨rfl, emp_false⟩, trivial, h _ hk⟩
        unfold Instr.index asIntOf
        rw [run_bind_ok (run_pure' P _ w)]
        simp only []
        rw [run_bind_ok (run_underlying hu w)]
        simp only []
        have e : (if 0 ≤ q then (ByteArray.mk l.toArray)[q.toNat]? else none) = some l[q.toNat] := by
          rw [if_pos h0]
          have : q.toNat < (ByteArray.mk l.toArray).size := by simpa [ByteArray.size] using hlt
          rw [getElem?_pos (ByteArray.mk l.toArray) q.toNat this]
          rfl
        rw [e]; rfl
      · exact h.elim
    · exact h.elim
  · exact h.elim

/- slices of what is only read -/
def boundOf (d : Int) : Option AV → Option Int
  | none => some d
  | some (.int _ n) => some n
  | _ => none
def cutL {α : Type} (lo hi : Bool) (p q : Int) (l : List α) : List α := match lo, hi with
  | false, false => l
  | false, true => l.take q.toNat
  | true, false => l.drop p.toNat
  | true, true => (l.take q.toNat).drop p.toNat
theorem cutL_eq {α : Type} {lo hi : Option AV} {p q : Int} {l : List α} (hp : boundOf 0 lo = some p) (hq : boundOf l.length hi = some q) :
    cutL lo.isSome hi.isSome p q l = (l.take q.toNat).drop p.toNat := by
  have h1 : lo = none → p = 0 := fun h => by subst h; simp [boundOf] at hp; exact hp.symm
  have h2 : hi = none → q = l.length := fun h => by subst h; simp [boundOf] at hq; exact hq.symm
  cases lo <;> cases hi <;> simp only [cutL, Option.isSome]
  · rw [h1 rfl, h2 rfl]; simp
  · rw [h1 rfl]; simp
  · rw [h2 rfl]; simp
def vcSlice (P : Program) (t : TypeId) (x : AV) (lo hi : Option AV) (K : AV → Prop) : Prop :=
  match x with
  | .str l => match P.underlying t with
    | some .string => match boundOf 0 lo, boundOf l.length hi with
      | some p, some q => (0 ≤ p ∧ p ≤ q ∧ q ≤ (l.length : Int)) ∧ K (.str (cutL lo.isSome hi.isSome p q l))
      | _, _ => False
    | _ => False
  | .sl false _ sz α f xs => match elemOfT P t with
    | some (_, es) => match Nat.beq sz es with
      | true => match boundOf 0 lo, boundOf xs.length hi with
        | some p, some q => (0 ≤ p ∧ p ≤ q ∧ q ≤ (xs.length : Int)) ∧ K (.sl false 0 sz α f (cutL lo.isSome hi.isSome p q xs))
        | _, _ => False
      | false => False
    | none => False
  | _ => False

theorem run_bounds {P : Program} {w : World} {isS : Bool} {len cap : Nat} {lo hi : Option Value} {p q : Int} (hc : len ≤ cap) (hp : 0 ≤ p) (hpq : p ≤ q) (hq : q ≤ (len : Int))
    (hlo : lo = none ∧ p = 0 ∨ ∃ k, lo = some (.int k p)) (hhi : hi = none ∧ q = len ∨ ∃ k, hi = some (.int k q)) :
    (Instr.sliceBounds isS len cap lo hi none).run P w = .ok (p.toNat, q.toNat, cap) w := by
  unfold Instr.sliceBounds
  simp only []
  rw [run_bind_ok (run_pure' P _ w)]
  have h1 : ∀ (y : Nat) (code : BoundsCode) (k : IntKind) (z : Int), 0 ≤ z → z ≤ (y : Int) → (Instr.sliceBound (.int k z) y code).run P w = .ok z.toNat w := by
    intro y code k z h0 h1
    unfold Instr.sliceBound asIntOf
    rw [run_bind_ok (run_pure' P _ w)]
    simp only [h0, h1, and_self, if_true]; rfl
  rcases hhi with ⟨rfl, rfl⟩ | ⟨k, rfl⟩
  · simp only []
    rw [run_bind_ok (run_pure' P _ w)]
    rcases hlo with ⟨rfl, rfl⟩ | ⟨k', rfl⟩
    · simp only []
      rw [run_bind_ok (run_pure' P _ w)]; simp [run_pure']
    · simp only []
      rw [run_bind_ok (h1 _ _ _ _ hp hpq)]; simp [run_pure']
  · simp only []
    rw [run_bind_ok (h1 _ _ _ _ (by omega) (by omega))]
    rcases hlo with ⟨rfl, rfl⟩ | ⟨k', rfl⟩
    · simp only []
      rw [run_bind_ok (run_pure' P _ w)]; simp [run_pure']
    · simp only []
      rw [run_bind_ok (h1 _ _ _ _ hp (by omega))]; simp [run_pure']

theorem boundOf_ok {d : Int} {lo : Option AV} {p : Int} (h : boundOf d lo = some p) {Z : FP} {η : Nat → Value} {w : World} {lov : Option Value}
    (hr : ∀ a, lo = some a → ∃ v, lov = some v ∧ relS Z η w a v (fun _ => False)) (hn : lo = none → lov = none) : lov = none ∧ p = d ∨ ∃ k, lov = some (.int k p) := by
  unfold boundOf at h
  split at h
  · simp only [Option.some.injEq] at h; exact .inl ⟨hn rfl, h.symm⟩
  · rename_i k n
    simp only [Option.some.injEq] at h; subst h
    obtain ⟨v, hv, hr⟩ := hr _ rfl
    simp only [relS, rel0] at hr
    exact .inr ⟨k, by rw [hv, hr.1]⟩
  · cases h

theorem Rows_drop {α : Type} {sz : Nat} {R : α → List Value → FP → Prop} : ∀ (k : Nat) (xs : List α) (cs : List Value) (S : FP), Rows sz R xs cs S → ∃ S', (∀ b, S' b → S b) ∧ Rows sz R (xs.drop k) (cs.drop (k * sz)) S'
  | 0, xs, cs, S, h => ⟨S, fun _ h => h, by simpa using h⟩
  | k + 1, [], cs, S, h => ⟨S, fun _ h => h, by simpa [Rows] using h⟩
  | k + 1, x :: xs, cs, S, h => by
    obtain ⟨A, B, hj, hl, h1, h2⟩ := h
    obtain ⟨S', hs, hr⟩ := Rows_drop k xs (cs.drop sz) B h2
    rw [List.drop_drop] at hr
    have e : (k + 1) * sz = sz + k * sz := by rw [Nat.succ_mul]; omega
    rw [e]
    exact ⟨S', fun b hb => (hj.1 b).2 (.inr (hs b hb)), by simpa using hr⟩
theorem Rows_take {α : Type} {sz : Nat} {R : α → List Value → FP → Prop} : ∀ (k : Nat) (xs : List α) (cs : List Value) (S : FP), Rows sz R xs cs S → ∃ S', (∀ b, S' b → S b) ∧ Rows sz R (xs.take k) cs S'
  | 0, xs, cs, S, h => ⟨fun _ => False, fun _ h => h.elim, by simp [Rows, emp]⟩
  | k + 1, [], cs, S, h => ⟨S, fun _ h => h, by simpa [Rows] using h⟩
  | k + 1, x :: xs, cs, S, h => by
    obtain ⟨A, B, hj, hl, h1, h2⟩ := h
    obtain ⟨S', hs, hr⟩ := Rows_take k xs (cs.drop sz) B h2
    exact ⟨fun b => A b ∨ S' b, fun b hb => (hj.1 b).2 (hb.imp id (hs b)), A, S', ⟨fun _ => Iff.rfl, fun b x y => hj.2 b x (hs b y)⟩, hl, h1, hr⟩

theorem vcSlice_ok {P : Program} {t : TypeId} {x : AV} {lo hi : Option AV} {K : AV → Prop} (h : vcSlice P t x lo hi K) {Z : FP} {η : Nat → Value} {w : World} {n : Nat} {xv : Value}
    {lov hiv : Option Value} (hx : relS Z η w x xv (fun _ => False))
    (hlo : ∀ a, lo = some a → ∃ v, lov = some v ∧ relS Z η w a v (fun _ => False)) (hlon : lo = none → lov = none)
    (hhi : ∀ a, hi = some a → ∃ v, hiv = some v ∧ relS Z η w a v (fun _ => False)) (hhin : hi = none → hiv = none) : POk P Z η w n (Instr.sliceAt t xv lov hiv none) K := by
  unfold vcSlice at h
  split at h
  · rename_i l
    split at h
    · rename_i hu
      split at h
      · rename_i p q hp hq
        obtain ⟨⟨h0, h1, h2⟩, h⟩ := h
        rw [cutL_eq hp hq] at h
        simp only [relS, rel0] at hx
        rw [hx.1]
        refine ⟨.string ⟨((l.take q.toNat).drop p.toNat).toArray⟩, .str ((l.take q.toNat).drop p.toNat), fun w2 _ => ?_, ⟨rfl, emp_false⟩, trivial, h⟩
        unfold Instr.sliceAt Instr.slice
        rw [run_bind_ok (run_underlying hu w2)]
        simp only []
        rw [run_bind_ok (run_underlying hu w2)]
        simp only [Option.isSome_none, Bool.false_eq_true, if_false]
        have hs : (ByteArray.mk l.toArray).size = l.length := by simp [ByteArray.size]
        rw [hs]
        rw [run_bind_ok (run_bounds (Nat.le_refl _) h0 h1 h2 (boundOf_ok hp hlo hlon) (boundOf_ok hq hhi hhin))]
        simp only [run_pure']
        congr 2
        apply ByteArray.ext
        apply Array.ext'
        simp [List.drop_take]
      · exact h.elim
    · exact h.elim
  · rename_i i' sz α f xs
    split at h
    · rename_i e es he
      obtain ⟨hu, inf, hinf, hsz⟩ := elemOfT_ok he
      split at h
      · rename_i hb
        have hb := Nat.eq_of_beq_eq_true hb
        subst hb
        split at h
        · rename_i p q hp hq
          obtain ⟨⟨h0, h1, h2⟩, h⟩ := h
          rw [cutL_eq hp hq] at h
          simp only [relS, rel0] at hx
          obtain ⟨_, a, n', c, ev, hn, hc, hr⟩ := hx
          subst ev
          subst hn
          refine ⟨.slice (if c = p.toNat then a else a.map (·.add (p.toNat * sz))) (q.toNat - p.toNat) (c - p.toNat), _, fun w2 _ => ?_, ?_, ?_, h⟩
          · unfold Instr.sliceAt Instr.slice
            rw [run_bind_ok (run_underlying hu w2)]
            simp only []
            rw [run_bind_ok (run_underlying hu w2)]
            simp only []
            rw [run_bind_ok (run_bounds hc h0 h1 h2 (boundOf_ok hp hlo hlon) (boundOf_ok hq hhi hhin))]
            simp only []
            rw [run_bind_ok (run_sizeOf hinf w2), hsz]; rfl
          · simp only [relS, rel0]
            refine ⟨(fun o => by cases o), _, _, _, rfl, ?_, by omega, .inr ⟨trivial, emp_false, ?_⟩⟩
            · simp; omega
            · rcases hr with ⟨ho, _⟩ | ⟨_, _, hr⟩
              · cases ho
              · rcases hr with hr | ⟨b, off, arr, ty, fr, ha, hz, hbk, hrows⟩
                · subst hr; exact .inl (by simp)
                · by_cases hcp : c = p.toNat
                  · refine .inl ?_
                    apply List.drop_eq_nil_of_le
                    simp; omega
                  · rw [if_neg hcp]
                    subst ha
                    refine .inr ⟨b, off + p.toNat * sz, arr, ty, fr, congrArg some (ad_add b off _), hz, hbk, ?_⟩
                    obtain ⟨S1, hs1, hr1⟩ := Rows_take q.toNat xs _ _ hrows
                    obtain ⟨S2, hs2, hr2⟩ := Rows_drop p.toNat _ _ _ hr1
                    rw [List.drop_drop] at hr2
                    have : S2 = fun _ => False := emp_eq (fun b hb => hs1 b (hs2 b hb))
                    rwa [this] at hr2
          · simp only [idsB]; intro o; cases o
        · exact h.elim
      · exact h.elim
    · exact h.elim
  · exact h.elim

end Go.Eng
