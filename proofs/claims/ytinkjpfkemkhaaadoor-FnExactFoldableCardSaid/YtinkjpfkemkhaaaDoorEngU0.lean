/- A slice that lies in a row of a slice of one's own, read out and handed at once to a function that writes into it. -/
import Derived.Test.YtinkjpfkemkhaaaDoorEngT
set_option linter.unusedVariables false
set_option linter.unusedSimpArgs false
namespace Go.Eng

def isScal : AV → Bool
  | .int _ _ => true
  | .bool _ => true
  | .str _ => true
  | _ => false
def scV : AV → Value
  | .int k n => .int k n
  | .bool b => .bool b
  | .str l => .string ⟨l.toArray⟩
  | _ => undef
theorem scal_v {Z : FP} {w : World} {r : AV} {v : Value} {S : FP} (h : rel0 Z w r v S) (hs : isScal r = true) : v = scV r := by
  cases r <;> simp only [isScal, Bool.false_eq_true] at hs <;> simp only [rel0] at h <;> exact h.1
theorem scal_rel {r : AV} (hs : isScal r = true) (Z : FP) (η : Nat → Value) (w : World) (n : Nat) : relS Z η w r (scV r) (fun _ => False) ∧ idsB n r := by
  cases r <;> simp only [isScal, Bool.false_eq_true] at hs <;> exact ⟨⟨rfl, emp_false⟩, trivial⟩

def eqSc : AV → AV → Prop
  | .int k n, b => match b with
    | .int k' m => match ikEq k k' with
      | true => n = m
      | false => False
    | _ => False
  | .bool x, b => match b with
    | .bool y => x = y
    | _ => False
  | .str x, b => match b with
    | .str y => x = y
    | _ => False
  | _, _ => False
theorem eqSc_eq {a b : AV} (h : eqSc a b) : a = b := by
  unfold eqSc at h
  split at h
  · split at h
    · split at h
      · rename_i hk; rw [ikEq_eq hk, h]
      · exact h.elim
    · exact h.elim
  · split at h
    · rw [h]
    · exact h.elim
  · split at h
    · rw [h]
    · exact h.elim
  · exact h.elim

theorem Inst.put' {C : Ctx} {s : St} {a : Act} {w : World} {η : Nat → Value} {Z S : FP} (h : Inst C s a w η Z S) (d : Nat) {r : AV} {v : Value}
    (hr : relS Z η w r v (fun _ => False)) (hi : idsB s.nx r) : ∃ S', Inst C ⟨s.regs.set d r, s.nx⟩ (a.put (some d) v) w η Z S' := by
  obtain ⟨S', hs, hr'⟩ := relSL_put h.rel d hr
  exact ⟨S', ⟨by rw [put_defers]; exact h.defers, by rw [put_toList]; exact hr', idsBL_set _ _ _ h.ids hi, fun b hb => h.own b (hs b hb), h.ok⟩⟩

/- the condition: the load's slot d, the scalar x1 moved to d1, the call of g -/
def vcNest3 (S : Sig) (s : St) (id k off d d1 : Nat) (dst : Option Nat) (sc : AV) (regs2 : List AV) (sz : Nat) (K : St → Prop) : Prop :=
  match takeL id regs2 with
  | some (.sl true j sz' α f xs, r1) => match Nat.beq sz sz', isScal sc with
    | true, true => k < xs.length ∧ ∀ z, xs[k]? = some z → match (f z)[off]? with
      | some (.sl true i0 sa β ga l) => ∃ x, S.pre x ∧ match S.args x with
        | [.sl true i1 sb γ gb m, e1] => AV.sl true 0 sa β ga l = AV.sl true 0 sb γ gb m ∧ eqSc sc e1 ∧ ∀ y, S.post x y → match isScal (S.res x y), S.outs x y with
          | true, [.sl true i2 sd δ gd l', .top] => ∃ z' : α, f z' = (f z).set off (.sl true i2 sd δ gd l') ∧
              match plugL id (.sl true j sz' α f (xs.set k z')) (setR r1 dst (S.res x y)) with
              | some r2 => K ⟨r2, s.nx⟩
              | none => False
          | _, _ => False
        | _ => False
      | _ => False
    | _, _ => False
  | _ => False
def vcNest (P : Program) (Γ : FuncId → Nat → Option Sig) (o o1 o2 : Oper) (s : St) (K : St → Prop) : Prop :=
  match o.op, o.dst, o1.op, o1.dst with
  | .load t (.tmp p), some d, .move x1, some d1 => match o2.op with
    | .call ⟨.value (.func g), args, ts⟩ => match args.toList with
      | [.tmp e, .tmp e1] => match Nat.beq e d, Nat.beq e1 d1, Nat.beq d d1 || !(Nat.blt d s.regs.length && Nat.blt d1 s.regs.length) with
        | true, true, false => match P.underlying t with
          | some (.slice _) => match Γ g 0 with
            | some S => match s.regs[p]? with
              | some (.po id k sz off) => vcNest3 S s id k off d d1 o2.dst (opAV (s.regs.set d .any) x1) ((s.regs.set d .any).set d1 (opAV (s.regs.set d .any) x1)) sz K
              | _ => False
            | none => False
          | _ => False
        | _, _, _ => False
      | _ => False
    | _ => False
  | _, _, _, _ => False
/- is it such a place? -/
def isNest (P : Program) (Γ : FuncId → Nat → Option Sig) (o o1 o2 : Oper) : Bool :=
  match o.op, o.guard, o1.guard, o2.guard with
  | .load t _, none, none, none => match P.underlying t with
    | some (.slice _) => match o2.op with
      | .call ⟨.value (.func g), args, ts⟩ => match Γ g 0 with
        | some S => match S.fixed with
          | [0] => true
          | _ => false
        | none => false
      | _ => false
    | _ => false
  | _, _, _, _ => false

theorem get_drop {α : Type _} {l : List α} {n : Nat} {e : α} (h : l[n]? = some e) : l.drop n = e :: l.drop (n + 1) := by
  obtain ⟨h1, h2⟩ := List.getElem?_eq_some_iff.1 h
  rw [← h2]; exact List.drop_eq_getElem_cons h1
theorem set_eq {α : Type _} {l : List α} {n : Nat} {e e' : α} (h : l[n]? = some e) : l.set n e' = l.take n ++ e' :: l.drop (n + 1) := by
  obtain ⟨h1, h2⟩ := List.getElem?_eq_some_iff.1 h
  exact List.set_eq_take_append_cons_drop .. |>.trans (by rw [if_pos h1])

theorem rows_set2 {α : Type} {sz : Nat} {R : α → List Value → FP → Prop} : ∀ (xs : List α) (cs : List Value) (S : FP) (k : Nat) (x : α), Rows sz R xs cs S → xs[k]? = some x →
    ∃ A B, join S A B ∧ R x ((cs.drop (k * sz)).take sz) A ∧ k * sz + sz ≤ cs.length ∧
      ∀ R' : α → List Value → FP → Prop, (∀ y cs A, (∀ b, A b → B b) → R y cs A → R' y cs A) →
      ∀ x' seg' A', seg'.length = sz → R' x' seg' A' → (∀ b, A' b → ¬ B b) → Rows sz R' (xs.set k x') (over cs (k * sz) seg') (fun b => A' b ∨ B b)
  | [], cs, S, k, x, h, hk => by simp at hk
  | y :: xs, cs, S, 0, x, h, hk => by
    simp at hk; subst hk
    obtain ⟨A, B, hj, hl, h1, h2⟩ := h
    refine ⟨A, B, hj, by simpa using h1, by simp at hl ⊢; omega, fun R' hR x' seg' A' hs hr hd => ?_⟩
    simp only [List.set_cons_zero, Rows]
    refine ⟨A', B, ⟨fun _ => Iff.rfl, fun b p q => hd b p q⟩, ?_, ?_, ?_⟩
    · simp [over, hs]
    · simp only [over, Nat.zero_mul, List.take_zero, List.nil_append]
      rw [List.take_append_of_le_length (by omega), List.take_of_length_le (by omega)]; exact hr
    · simp only [over, Nat.zero_mul, List.take_zero, List.nil_append, Nat.zero_add]
      rw [List.drop_append_of_le_length (by omega), List.drop_of_length_le (by omega)]
      have h3 := Rows_mono xs _ B (fun x cs A hA hx => hR x cs A hA hx) h2
      simpa [hs] using h3
  | y :: xs, cs, S, k + 1, x, h, hk => by
    obtain ⟨A, B, hj, hl, h1, h2⟩ := h
    obtain ⟨A2, B2, hj2, hr, hlen, hset⟩ := rows_set2 xs (cs.drop sz) B k x h2 (by simpa using hk)
    have hsl : sz ≤ cs.length := by simp at hl; omega
    have e : (k + 1) * sz = sz + k * sz := by rw [Nat.succ_mul]; omega
    refine ⟨A2, fun b => A b ∨ B2 b, ⟨fun b => ?_, fun b p q => ?_⟩, ?_, ?_, fun R' hR x' seg' A' hs hr' hd => ?_⟩
    · rw [hj.1 b, hj2.1 b]; exact ⟨fun h => h.elim (fun h => .inr (.inl h)) (fun h => h.elim .inl (fun h => .inr (.inr h))), fun h => h.elim (fun h => .inr (.inl h)) (fun h => h.elim .inl (fun h => .inr (.inr h)))⟩
    · exact q.elim (fun q => hj.2 b q ((hj2.1 b).2 (.inl p))) (fun q => hj2.2 b p q)
    · rw [e, ← List.drop_drop]; exact hr
    · rw [e]; simp at hlen; omega
    · have := hset R' (fun y cs A hA hx => hR y cs A (fun b hb => .inr (hA b hb)) hx) x' seg' A' hs hr' (fun b p q => hd b p (.inr q))
      simp only [List.set_cons_succ, Rows]
      have hov : over cs (sz + k * sz) seg' = cs.take sz ++ over (cs.drop sz) (k * sz) seg' := by
        simp only [over]
        rw [List.take_add, List.drop_drop]
        simp only [List.append_assoc]
        congr 4; omega
      rw [e, hov]
      refine ⟨A, fun b => A' b ∨ B2 b, ⟨fun b => ?_, fun b p q => ?_⟩, ?_, ?_, ?_⟩
      · exact ⟨fun h => h.elim (fun h => .inr (.inl h)) (fun h => h.elim .inl (fun h => .inr (.inr h))), fun h => h.elim (fun h => .inr (.inl h)) (fun h => h.elim .inl (fun h => .inr (.inr h)))⟩
      · exact q.elim (fun q => hd b q (.inl p)) (fun q => hj.2 b p ((hj2.1 b).2 (.inr q)))
      · rw [List.take_append_of_le_length (by simp; omega)]; simp; omega
      · rw [List.take_append_of_le_length (by simp; omega), List.take_of_length_le (by simp; omega)]; exact hR _ _ _ (fun b hb => .inl hb) h1
      · rw [List.drop_append_of_le_length (by simp; omega), List.drop_of_length_le (by simp; omega)]; simpa using this
theorem over_same (cs : List Value) (n sz : Nat) (h : n + sz ≤ cs.length) : over cs n ((cs.drop n).take sz) = cs := by
  unfold over
  have : ((cs.drop n).take sz).length = sz := by simp; omega
  rw [this, ← List.drop_drop, List.append_assoc, List.take_append_drop, List.take_append_drop]

/- a cell of a row of a slice of one's own, taken out and put back -/
theorem own_split {Z : FP} {η : Nat → Value} {w : World} {id j sz : Nat} {α : Type} {f : α → List AV} {xs : List α} {A : FP} (h : relS Z η w (.sl true j sz α f xs) (η id) A) (hji : j = id)
    {k off : Nat} {z : α} {c : AV} (hz : xs[k]? = some z) (hc : (f z)[off]? = some c) :
    ∃ b boff arr ty v Ac Ar, baseOf (η id) = ⟨b, boff, none⟩ ∧ w.heap[b]? = some (.cells arr ty (0, 0)) ∧ arr.toList[boff + (k * sz + off)]? = some v ∧ rel0 Z w c v Ac ∧ join A Ac Ar ∧
      ∀ (Z' : FP) (η' : Nat → Value) (w' : World) (o' : AV) (z' : α) (Ac' : FP), η' id = η id → (∀ x, Ar x → w'.heap[x]? = w.heap[x]?) → (∀ b, ¬ Z b → b < w.heap.size → ¬ Z' b ∧ w'.heap[b]? = w.heap[b]?) →
        rel0 Z' w' o' v Ac' → (∀ x, Ac' x → ¬ Ar x) → f z' = (f z).set off o' → ∃ A', join A' Ac' Ar ∧ relS Z' η' w' (.sl true j sz α f (xs.set k z')) (η' id) A' := by
  subst hji
  simp only [relS, rel0] at h
  obtain ⟨_, ad0, n0, c0, hη, hn0, hc0, hrow0⟩ := h
  rcases hrow0 with ⟨_, hrow0⟩ | ⟨hx, _⟩
  rotate_left
  · cases hx
  have hk : k < xs.length := (List.getElem?_eq_some_iff.1 hz).1
  rcases hrow0 with ⟨_, hcz, _⟩ | ⟨b, boff, arr, ty, S1, hab, hb, hfit, hrows, hjb⟩
  · omega
  subst hab
  obtain ⟨A2, B2, hj2, hR, hle, hset⟩ := rows_set2 xs _ S1 k z hrows hz
  obtain ⟨A3, A4, hj3, hl3, hl4⟩ := rel0L_split off _ _ _ hR
  rw [get_drop hc] at hl4
  simp only [rel0L] at hl4
  obtain ⟨v, cs', A5, A6, hseg, hj5, hv5, hl6⟩ := hl4
  have hcell : arr.toList[boff + (k * sz + off)]? = some v := by
    have h1 : ((((arr.toList.drop boff).drop (k * sz)).take sz).drop off)[0]? = some v := by rw [hseg]; rfl
    rw [List.getElem?_drop, List.getElem?_take] at h1
    split at h1
    · rw [List.getElem?_drop, List.getElem?_drop] at h1; simpa [Nat.add_assoc] using h1
    · cases h1
  let Ar : FP := fun x => x = b ∨ A3 x ∨ A6 x ∨ B2 x
  have hAr : join A A5 Ar := by
    refine ⟨fun x => ?_, fun x p q => ?_⟩
    · rw [hjb.1 x, hj2.1 x, hj3.1 x, hj5.1 x]
      simp only [Ar, one]
      constructor
      · rintro (h | (h | (h | h)) | h)
        · exact .inr (.inl h)
        · exact .inr (.inr (.inl h))
        · exact .inl h
        · exact .inr (.inr (.inr (.inl h)))
        · exact .inr (.inr (.inr (.inr h)))
      · rintro (h | h | h | h | h)
        · exact .inr (.inl (.inr (.inl h)))
        · exact .inl h
        · exact .inr (.inl (.inl h))
        · exact .inr (.inl (.inr (.inr h)))
        · exact .inr (.inr h)
    · have p4 : A4 x := (hj5.1 x).2 (.inl p)
      have p2 : A2 x := (hj3.1 x).2 (.inr p4)
      rcases q with q | q | q | q
      · exact hjb.2 x q ((hj2.1 x).2 (.inl p2))
      · exact hj3.2 x q p4
      · exact hj5.2 x p q
      · exact hj2.2 x p2 q
  refine ⟨b, boff, arr, ty, v, A5, Ar, by rw [hη]; rfl, hb, hcell, hv5, hAr, ?_⟩
  intro Z' η' w' o' z' Ac' hη' hw hZ ho hdis hf
  have hb' : w'.heap[b]? = some (.cells arr ty (0, 0)) := by rw [hw b (.inl rfl)]; exact hb
  have hA3' := rel0L_mono hZ _ _ A3 (fun x hx => hw x (.inr (.inl hx))) hl3
  have hA6' := rel0L_mono hZ _ _ A6 (fun x hx => hw x (.inr (.inr (.inl hx)))) hl6
  have hseg2 : ((arr.toList.drop boff).drop (k * sz)).take sz = (((arr.toList.drop boff).drop (k * sz)).take sz).take off ++ v :: cs' := by
    rw [← hseg, List.take_append_drop]
  have hnew : rel0L Z' w' (f z') (((arr.toList.drop boff).drop (k * sz)).take sz) (fun x => A3 x ∨ (Ac' x ∨ A6 x)) := by
    rw [hf, set_eq hc, hseg2]
    have hd1 : join (fun x => Ac' x ∨ A6 x) Ac' A6 := ⟨fun _ => Iff.rfl, fun x p q => hdis x p (.inr (.inr (.inl q)))⟩
    refine rel0L_append _ _ _ _ A3 (fun x => Ac' x ∨ A6 x) _ hA3' ?_ ⟨fun _ => Iff.rfl, fun x p q => q.elim (fun q => hdis x q (.inr (.inl p))) (fun q => hj3.2 x p ((hj5.1 x).2 (.inr q)))⟩
    simp only [rel0L]
    exact ⟨v, cs', Ac', A6, rfl, hd1, ho, hA6'⟩
  have hlen : (((arr.toList.drop boff).drop (k * sz)).take sz).length = sz := by simp at hle ⊢; omega
  have hrows' := hset (fun x cs A => rel0L Z' w' (f x) cs A) (fun y cs A hA hx => rel0L_mono hZ _ _ A (fun x hx => hw x (.inr (.inr (.inr (hA x hx))))) hx) z' _ _ hlen hnew
    (fun x p q => by
      rcases p with p | p | p
      · exact hj2.2 x ((hj3.1 x).2 (.inl p)) q
      · exact hdis x p (.inr (.inr (.inr q)))
      · exact hj2.2 x ((hj3.1 x).2 (.inr ((hj5.1 x).2 (.inr p)))) q)
  rw [over_same _ _ _ hle] at hrows'
  refine ⟨fun x => Ac' x ∨ Ar x, ⟨fun _ => Iff.rfl, hdis⟩, ?_⟩
  simp only [relS, rel0]
  refine ⟨fun _ => trivial, some ⟨b, boff, none⟩, n0, c0, by rw [hη', hη], by simpa using hn0, hc0, .inl ⟨trivial, .inr ⟨b, boff, arr, ty, _, rfl, hb', hfit, hrows', ?_⟩⟩⟩
  refine ⟨fun x => ?_, fun x p q => ?_⟩
  · simp only [Ar, one]
    constructor
    · rintro (h | h | h | h | h)
      · exact .inr (.inl (.inr (.inl h)))
      · exact .inl h
      · exact .inr (.inl (.inl h))
      · exact .inr (.inl (.inr (.inr h)))
      · exact .inr (.inr h)
    · rintro (h | (h | h | h) | h)
      · exact .inr (.inl h)
      · exact .inr (.inr (.inl h))
      · exact .inl h
      · exact .inr (.inr (.inr (.inl h)))
      · exact .inr (.inr (.inr (.inr h)))
  · have p : x = b := p
    subst p
    have nb : ∀ y, S1 y → y ≠ x := fun y hy e => hjb.2 y (by rw [e]; rfl) hy
    rcases q with (q | q | q) | q
    · exact nb x ((hj2.1 x).2 (.inl ((hj3.1 x).2 (.inl q)))) rfl
    · exact hdis x q (.inl rfl)
    · exact nb x ((hj2.1 x).2 (.inl ((hj3.1 x).2 (.inr ((hj5.1 x).2 (.inr q)))))) rfl
    · exact nb x ((hj2.1 x).2 (.inr q)) rfl

theorem vcNest_ok {P : Program} {Γ : FuncId → Nat → Option Sig} (hΓ : ∀ f k S, Γ f k = some S → Contract P f S) {o o1 o2 : Oper} {s : St} {K : St → Prop} (h : vcNest P Γ o o1 o2 s K)
    {C : Ctx} {a : Act} {w : World} (hr : Rel C s a w) (Q : Exit → Act → World → Prop) :
    ∃ v v1, (execOp a.eval o).run P w = .ok (.value v) w ∧ (execOp (a.put o.dst v).eval o1).run P w = .ok (.value v1) w ∧
      o2.wp P ((a.put o.dst v).put o1.dst v1) w (Next' C K ((a.put o.dst v).put o1.dst v1) o2.dst) Q := by
  unfold vcNest at h
  split at h
  rotate_left
  · exact h.elim
  rename_i t p d x1 d1 hop hdst hop1 hdst1
  split at h
  rotate_left
  · exact h.elim
  rename_i g args ts hop2
  split at h
  rotate_left
  · exact h.elim
  rename_i e e1 hargs
  have hargs := arr_of_list hargs
  split at h
  rotate_left
  · exact h.elim
  rename_i he he1 hdd
  have he := Nat.eq_of_beq_eq_true he; have he1 := Nat.eq_of_beq_eq_true he1; simp only [Bool.or_eq_false_iff, Bool.not_eq_false', Bool.and_eq_true] at hdd
  obtain ⟨hdd, hbl1, hbl2⟩ := hdd
  have hdd := Nat.ne_of_beq_eq_false hdd
  have hbl1 := Nat.lt_of_succ_le (Nat.le_of_ble_eq_true hbl1); have hbl2 := Nat.lt_of_succ_le (Nat.le_of_ble_eq_true hbl2)
  subst he; subst he1
  split at h
  rotate_left
  · exact h.elim
  rename_i et hu
  split at h
  rotate_left
  · exact h.elim
  rename_i S hS
  have hc := hΓ g _ S hS
  split at h
  rotate_left
  · exact h.elim
  rename_i id k sz off hreg
  unfold vcNest3 at h
  split at h
  rotate_left
  · exact h.elim
  rename_i j sz' α f xs r1 htake
  split at h
  rotate_left
  · exact h.elim
  rename_i hsz hsc
  have hsz := Nat.eq_of_beq_eq_true hsz
  subst hsz
  obtain ⟨hk, h⟩ := h
  have hz : xs[k]? = some xs[k] := by simp
  have h := h _ hz
  generalize hzz : xs[k] = z at h hz
  obtain ⟨η, Z, T, hi⟩ := hr
  obtain ⟨pv, Ap, Bp, hpv, hpr, _⟩ := focus s.regs _ T p _ hi.rel hreg
  simp only [relS] at hpr
  have hep : a.eval (.tmp p) = pv := by
    have : a.tmps[p]? = some pv := by rw [← Array.getElem?_toList, hpv]
    simp [Act.eval, Array.getD_eq_getD_getElem?, this]
  generalize hsca : opAV (s.regs.set e .any) x1 = sc at h hsc htake
  have both : ∀ v, isCell v → ∃ S2, Inst C ⟨(s.regs.set e .any).set e1 sc, s.nx⟩ ((a.put (some e) v).put (some e1) (scV sc)) w η Z S2 ∧ (a.put (some e) v).eval x1 = scV sc := by
    intro v hv
    obtain ⟨S1, h1⟩ := hi.put' e (r := .any) (v := v) (by simp only [relS, rel0]; exact ⟨hv, emp_false⟩) trivial
    have h2 := opAV_rel h1.rel x1
    rw [hsca] at h2
    have h3 : (a.put (some e) v).eval x1 = scV sc := by
      cases sc <;> simp only [isScal, Bool.false_eq_true] at hsc <;> simp only [relS, rel0] at h2 <;> exact h2.1
    obtain ⟨S2, h4⟩ := h1.put' e1 (scal_rel hsc Z η w s.nx).1 (scal_rel hsc Z η w s.nx).2
    exact ⟨S2, h4, h3⟩
  split at h
  rotate_left
  · exact h.elim
  rename_i i0 sa β ga l hfz
  obtain ⟨x, hpre, h⟩ := h
  split at h
  rotate_left
  · exact h.elim
  rename_i i1 sb γ gb m ea hSargs
  obtain ⟨heq1, heq2, h⟩ := h
  have heq2 := eqSc_eq heq2
  -- what is loaded
  obtain ⟨T0, h0, _⟩ := both (.bool false) trivial
  obtain ⟨A0, B0, hj0, hown0, ho0, _⟩ := takeL_ok _ _ T0 _ _ h0.rel htake
  obtain ⟨b, boff, arr, ty, v, _, _, hbase, hb, hcell, hvrel, _, _⟩ := own_split ho0 hown0 hz hfz
  have hvc : isCell v := rel0_sl_cells hvrel
  refine ⟨v, scV sc, ?_, ?_, ?_⟩
  · have hl : (Instr.loadAt t (.pointer (some ⟨b, boff + (k * sz + off), none⟩))).run P w = .ok v w := by
      show (loadVar t ⟨b, boff + (k * sz + off), none⟩).run P w = .ok v w
      simp only [loadVar]
      rw [run_bind_ok (run_isAgg hu w)]
      simp only [isAggD, Bool.false_eq_true, if_false]
      refine run_load ?_
      have := cell_ad (off := boff + (k * sz + off)) hb
      unfold ad at this
      rw [this]
      simpa [Array.getElem?_toList] using hcell
    have : a.eval (.tmp p) = .pointer (some ⟨b, boff + (k * sz + off), none⟩) := by
      rw [hep, hpr.1, hbase]
    have he : execOp a.eval o = (do pure (.value (← Instr.loadAt t (a.eval (.tmp p))))) := by simp [execOp, hop]
    rw [he, this]
    exact run_v hl
  · rw [hdst]
    have := (both v hvc).choose_spec.2
    simp [execOp, hop1, this]
  rw [hdst, hdst1]
  obtain ⟨T2, h2, _⟩ := both v hvc
  have hlen2 := relSL_len _ _ _ h2.rel
  have htk := takeL_ok _ _ T2 _ _ h2.rel htake
  have htki := takeL_ids _ _ _ h2.ids htake
  generalize ha2 : (a.put (some e) v).put (some e1) (scV sc) = a2 at h2 htk hlen2 ⊢
  obtain ⟨A, B, hj, hown, ho, hr1⟩ := htk
  obtain ⟨b', boff', arr', ty', v', Ac, Ar, hbase', hb', hcell', hvrel', hjc, hput⟩ := own_split ho hown hz hfz
  rw [hbase] at hbase'
  simp only [Addr.mk.injEq] at hbase'
  obtain ⟨rfl, rfl, _⟩ := hbase'
  rw [hb] at hb'
  simp only [Option.some.injEq, Obj.cells.injEq] at hb'
  obtain ⟨rfl, rfl, _⟩ := hb'
  rw [hcell] at hcell'
  simp only [Option.some.injEq] at hcell'
  subst hcell'
  -- the slots
  have hsz0 : s.regs.length = a.tmps.size := by have := relSL_len _ _ _ hi.rel; simpa using this.symm
  have hev : a2.eval (.tmp e) = v ∧ a2.eval (.tmp e1) = scV sc := by
    rw [← ha2]
    constructor
    · have hlt : e < a.tmps.size := hsz0 ▸ hbl1
      simp only [Act.put, Act.eval, Array.getD_eq_getD_getElem?]
      rw [Array.getElem?_setIfInBounds_ne (Ne.symm hdd)]; simp [hlt]
    · have hlt : e1 < a.tmps.size := hsz0 ▸ hbl2
      simp [Act.put, Act.eval, Array.getD_eq_getD_getElem?, hlt]
  have hAcA : ∀ b, Ac b → A b := fun b hb => (hjc.1 b).2 (.inl hb)
  have hArA : ∀ b, Ar b → A b := fun b hb => (hjc.1 b).2 (.inr hb)
  have hAT : ∀ b, A b → T2 b := fun b hb => (hj.1 b).2 (.inl hb)
  have hBT : ∀ b, B b → T2 b := fun b hb => (hj.1 b).2 (.inr hb)
  have hsc0 : rel0 Z w sc (scV sc) (fun _ => False) := by
    cases sc <;> simp only [isScal, Bool.false_eq_true] at hsc <;> exact ⟨rfl, emp_false⟩
  have hargs0 : rel0L Z w (S.args x) [v, scV sc] Ac := by
    rw [hSargs, ← heq2]
    simp only [rel0L]
    exact ⟨v, [scV sc], Ac, _, rfl, join_emp_right Ac, sl_eq_own heq1 hvrel', scV sc, [], _, _, rfl, join_emp_left _, hsc0, rfl, emp_false⟩
  have hcall := hc.2 x hpre Z w [v, scV sc] Ac hargs0 (fun b hb => ⟨(h2.own b (hAT b (hAcA b hb))).1, (h2.own b (hAT b (hAcA b hb))).2.1⟩)
  obtain ⟨⟨⟨fn, hfn, hnm, hbody⟩, _⟩, _⟩ := hc
  unfold Oper.wp
  have he : (execOp a2.eval o2).run P w = .ok (.enter g [v, scV sc].toArray) w := by
    simp only [execOp, hop2, hargs, resolve]
    have : a2.eval (.func g) = .func (.func g) #[] #[] := rfl
    simp only [this, Deferred.ofValue]
    rw [run_bind_ok (run_pure' P _ w)]
    simp only [invoke, callFunc, program]
    rw [run_bind_ok (x := P) (w' := w) rfl]
    simp only [hfn, hnm, Bool.false_eq_true, if_false, hbody]
    simp [run_pure', hev.1, hev.2]
  rw [he, Oper.upon_enter]
  refine hcall.mono ?_
  rintro _ w' ⟨y, rv, Z', A', hpost, rfl, hres, haft⟩
  have h := h y hpost
  split at h
  rotate_left
  · exact h.elim
  rename_i i2 sd δ gd l' hrs houts
  obtain ⟨z', hfz', h⟩ := h
  split at h
  rotate_left
  · exact h.elim
  rename_i r2 hplug
  rw [houts] at hres
  simp only [rel0L] at hres
  obtain ⟨rv', _, Ares, A1, e1', hj1, hres1, v'', _, Ao, A3, e2', hj2, hres2, _, _, A4, A5, e3', hj3, htop, e4', hemp⟩ := hres
  simp only [List.cons.injEq] at e1' e2' e3'
  obtain ⟨rfl, rfl⟩ := e1'
  simp only [List.cons.injEq] at e2'
  obtain ⟨rfl, rfl⟩ := e2'
  simp only [rel0] at htop
  have hrvv := scal_v hres1 hrs
  have hAres : emp Ares := by
    generalize S.res x y = rr at hres1 hrs
    cases rr <;> simp only [isScal, Bool.false_eq_true] at hrs <;> simp only [rel0] at hres1 <;> exact hres1.2
  have hAoA : ∀ b, Ao b → A' b := fun b hb => (hj1.1 b).2 (.inr ((hj2.1 b).2 (.inl hb)))
  have hlt : ∀ b, T2 b → b < w.heap.size := fun b hb => (h2.own b hb).2.1
  have hnAc : ∀ b, Ar b → ¬ Ac b := fun b p q => hjc.2 b q p
  have hnAcB : ∀ b, B b → ¬ Ac b := fun b p q => hj.2 b (hAcA b q) p
  have hZf : ∀ b, ¬ Z b → b < w.heap.size → ¬ Z' b ∧ w'.heap[b]? = w.heap[b]? := by
    intro b hz hb
    have := haft.old b hb (fun q => hz (h2.own b (hAT b (hAcA b q))).1)
    exact ⟨fun q => hz (this.2.1 q), this.1⟩
  have hdisAo : ∀ b, Ao b → T2 b → Ac b := fun b p q => (haft.own b (hAoA b p)).2.2 (hlt b q)
  obtain ⟨A'', hjA'', hown'⟩ := hput Z' η w' (.sl true i2 sd δ gd l') z' Ao rfl (fun b hb => (haft.old b (hlt b (hAT b (hArA b hb))) (hnAc b hb)).1) hZf hres2
    (fun b p q => hnAc b q (hdisAo b p (hAT b (hArA b q)))) hfz'
  have hr1' := relSL_mono (n := s.nx) hZf (fun _ _ => rfl) r1 _ B htki.2.2 (fun b hb => (haft.old b (hlt b (hBT b hb)) (hnAcB b hb)).1) hr1
  have hrs' := scal_rel hrs Z' η w' s.nx
  rw [← hrvv] at hrs'
  obtain ⟨B', hB', hr1''⟩ : ∃ B', (∀ b, B' b → B b) ∧ relSL Z' η w' (setR r1 o2.dst (S.res x y)) (a2.put o2.dst rv).tmps.toList B' := by
    cases o2.dst with
    | none => exact ⟨B, fun _ h => h, hr1'⟩
    | some dd => rw [put_toList]; exact relSL_put hr1' dd hrs'.1
  have hidr : idsBL s.nx (setR r1 o2.dst (S.res x y)) := by
    cases o2.dst with
    | none => exact htki.2.2
    | some dd => exact idsBL_set _ _ _ htki.2.2 hrs'.2
  have hdis : ∀ b, A'' b → B' b → False := by
    intro b p q
    rcases (hjA''.1 b).1 p with p | p
    · exact hnAcB b (hB' b q) (hdisAo b p (hBT b (hB' b q)))
    · exact hj.2 b (hArA b p) (hB' b q)
  have hfin := plugL_ok hown' _ _ B' (fun b => A'' b ∨ B' b) r2 hr1'' ⟨fun _ => Iff.rfl, hdis⟩ hplug
  have hids := plugL_ids (o := .sl true j sz α f (xs.set k z')) (n := s.nx) (by
    have := htki.2.1
    simp only [idsB] at this ⊢; exact this) _ _ hidr hplug
  refine ⟨⟨r2, s.nx⟩, h, ⟨η, Z', _, ⟨by rw [put_defers]; exact h2.defers, hfin, hids, fun b hb => ?_, ?_⟩⟩, rv, rfl⟩
  · have old : T2 b → ¬ Ac b → Z' b ∧ b < w'.heap.size ∧ (b < C.w0.heap.size → C.S0 b) := by
      intro p q
      obtain ⟨o1, o2, o3⟩ := h2.own b p
      exact ⟨(haft.old b o2 q).2.2 o1, Nat.lt_of_lt_of_le o2 haft.size, o3⟩
    rcases hb with hb | hb
    · rcases (hjA''.1 b).1 hb with hb | hb
      · obtain ⟨o1, o2, o3⟩ := haft.own b (hAoA b hb)
        exact ⟨o1, o2, fun h0 => (h2.own b (hAT b (hAcA b (o3 (Nat.lt_of_lt_of_le h0 h2.ok.size))))).2.2 h0⟩
      · exact old (hAT b (hArA b hb)) (hnAc b hb)
    · exact old (hBT b (hB' b hb)) (hnAcB b (hB' b hb))
  · refine ⟨haft.os.trans h2.ok.os, haft.tape.trans h2.ok.tape, haft.output.trans h2.ok.output, Nat.le_trans h2.ok.size haft.size, fun b h0 hs => ?_⟩
    have hnT : ¬ T2 b := fun x => hs ((h2.own b x).2.2 h0)
    obtain ⟨g1, g2⟩ := haft.old b (Nat.lt_of_lt_of_le h0 h2.ok.size) (fun q => hnT (hAT b (hAcA b q)))
    obtain ⟨g3, g4⟩ := h2.ok.old b h0 hs
    exact ⟨g1.trans g3, g2.trans g4⟩
end Go.Eng
