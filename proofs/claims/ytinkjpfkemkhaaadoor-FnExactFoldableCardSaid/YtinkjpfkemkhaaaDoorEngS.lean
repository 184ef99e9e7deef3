/- Stores. -/
import Derived.Test.YtinkjpfkemkhaaaDoorEngQ
set_option linter.unusedVariables false
set_option linter.unusedSimpArgs false
namespace Go.Eng

def vcStore (P : Program) (s : St) (t : TypeId) (p v : AV) (K : St → Prop) : Prop :=
  match leavesOf v, P.info? t with
  | some ls, some i => match Nat.beq ls.length i.size with
    | true => match p with
      | .al id => match takeL id s.regs with
        | some (.box j c, r1) => match Nat.ble ls.length c.length with
          | true => match plugL id (.box j (ls ++ c.drop ls.length)) r1 with
            | some r2 => K ⟨r2, s.nx⟩
            | none => False
          | false => False
        | _ => False
      | .po id k sz off => match takeL id s.regs with
        | some (.box j c, r1) => match k, sz, Nat.ble (off + ls.length) c.length with
          | 0, 0, true => match plugL id (.box j (c.take off ++ ls ++ c.drop (off + ls.length))) r1 with
            | some r2 => K ⟨r2, s.nx⟩
            | none => False
          | _, _, _ => False
        | some (.sl true j sz' α f xs, r1) => match Nat.beq sz sz', Nat.ble (off + ls.length) sz with
          | true, true => k < xs.length ∧ ∀ x, xs[k]? = some x → ∃ x' : α, ((f x').take off = (f x).take off ∧ (f x').drop (off + ls.length) = (f x).drop (off + ls.length)) ∧
              handL false (((f x').drop off).take ls.length) r1 ls fun r2 => match plugL id (.sl true j sz' α f (xs.set k x')) r2 with
                | some r3 => K ⟨r3, s.nx⟩
                | none => False
          | _, _ => False
        | _ => False
      | _ => False
    | false => False
  | _, _ => False

theorem relSL_split {Z : FP} {η : Nat → Value} {w : World} : ∀ (n : Nat) (as : List AV) (cs : List Value) (S : FP), relSL Z η w as cs S →
    ∃ A B, join S A B ∧ relSL Z η w (as.take n) (cs.take n) A ∧ relSL Z η w (as.drop n) (cs.drop n) B
  | 0, as, cs, S, h => ⟨fun _ => False, S, join_emp_left S, by simp [relSL, emp], by simpa using h⟩
  | n + 1, [], cs, S, h => by
    simp only [relSL] at h
    exact ⟨fun _ => False, S, join_emp_left S, by simp [h.1, relSL, emp], by simp [h.1, relSL, h.2]⟩
  | n + 1, a :: as, cs, S, h => by
    simp only [relSL] at h
    obtain ⟨v, cs', A, B, e, hj, h1, h2⟩ := h
    subst e
    obtain ⟨A2, B2, hj2, h3, h4⟩ := relSL_split n as cs' B h2
    obtain ⟨E2, h7, h8⟩ := join_assoc hj hj2
    refine ⟨E2, B2, h7, ?_, by simpa using h4⟩
    · simp only [List.take_succ_cons, relSL]
      exact ⟨v, _, A, A2, rfl, h8, h1, h3⟩
theorem relSL_append {Z : FP} {η : Nat → Value} {w : World} : ∀ (as bs : List AV) (cs ds : List Value) (A B S : FP), relSL Z η w as cs A → relSL Z η w bs ds B → join S A B → relSL Z η w (as ++ bs) (cs ++ ds) S
  | [], bs, cs, ds, A, B, S, h1, h2, hj => by
    simp only [relSL] at h1
    rw [h1.1, show S = B from fp_ext (join_emp_l hj h1.2)]; simpa using h2
  | a :: as, bs, cs, ds, A, B, S, h1, h2, hj => by
    simp only [relSL] at h1
    obtain ⟨v, cs', A1, A2, e, hj1, h3, h4⟩ := h1
    subst e
    obtain ⟨E, h5, h6⟩ := join_assoc' hj hj1
    simp only [List.cons_append, relSL]
    exact ⟨v, cs' ++ ds, A1, E, rfl, h5, h3, relSL_append as bs cs' ds A2 B E h4 h2 h6⟩
theorem rel0L_split {Z : FP} {w : World} : ∀ (n : Nat) (as : List AV) (cs : List Value) (S : FP), rel0L Z w as cs S →
    ∃ A B, join S A B ∧ rel0L Z w (as.take n) (cs.take n) A ∧ rel0L Z w (as.drop n) (cs.drop n) B
  | 0, as, cs, S, h => ⟨fun _ => False, S, join_emp_left S, by simp [rel0L, emp], by simpa using h⟩
  | n + 1, [], cs, S, h => by
    simp only [rel0L] at h
    exact ⟨fun _ => False, S, join_emp_left S, by simp [h.1, rel0L, emp], by simp [h.1, rel0L, h.2]⟩
  | n + 1, a :: as, cs, S, h => by
    simp only [rel0L] at h
    obtain ⟨v, cs', A, B, e, hj, h1, h2⟩ := h
    subst e
    obtain ⟨A2, B2, hj2, h3, h4⟩ := rel0L_split n as cs' B h2
    obtain ⟨E2, h7, h8⟩ := join_assoc hj hj2
    refine ⟨E2, B2, h7, ?_, by simpa using h4⟩
    · simp only [List.take_succ_cons, rel0L]
      exact ⟨v, _, A, A2, rfl, h8, h1, h3⟩
theorem rel0L_append {Z : FP} {w : World} : ∀ (as bs : List AV) (cs ds : List Value) (A B S : FP), rel0L Z w as cs A → rel0L Z w bs ds B → join S A B → rel0L Z w (as ++ bs) (cs ++ ds) S
  | [], bs, cs, ds, A, B, S, h1, h2, hj => by
    simp only [rel0L] at h1
    rw [h1.1, show S = B from fp_ext (join_emp_l hj h1.2)]; simpa using h2
  | a :: as, bs, cs, ds, A, B, S, h1, h2, hj => by
    simp only [rel0L] at h1
    obtain ⟨v, cs', A1, A2, e, hj1, h3, h4⟩ := h1
    subst e
    obtain ⟨E, h5, h6⟩ := join_assoc' hj hj1
    simp only [List.cons_append, rel0L]
    exact ⟨v, cs' ++ ds, A1, E, rfl, h5, h3, rel0L_append as bs cs' ds A2 B E h4 h2 h6⟩
theorem rel0L_len {Z : FP} {w : World} : ∀ (as : List AV) (vs : List Value) (S : FP), rel0L Z w as vs S → vs.length = as.length
  | [], vs, S, h => by simp only [rel0L] at h; simp [h.1]
  | a :: as, vs, S, h => by
    simp only [rel0L] at h
    obtain ⟨v, cs', A, B, e, hj, h1, h2⟩ := h
    subst e; simp [rel0L_len as cs' B h2]

theorem rows_set {α : Type} {sz : Nat} {R : α → List Value → FP → Prop} : ∀ (xs : List α) (cs : List Value) (S : FP) (k : Nat) (x : α), Rows sz R xs cs S → xs[k]? = some x →
    ∃ A B, join S A B ∧ R x ((cs.drop (k * sz)).take sz) A ∧ k * sz + sz ≤ cs.length ∧
      ∀ x' seg' A', seg'.length = sz → R x' seg' A' → (∀ b, A' b → ¬ B b) → Rows sz R (xs.set k x') (over cs (k * sz) seg') (fun b => A' b ∨ B b)
  | [], cs, S, k, x, h, hk => by simp at hk
  | y :: xs, cs, S, 0, x, h, hk => by
    simp at hk; subst hk
    obtain ⟨A, B, hj, hl, h1, h2⟩ := h
    refine ⟨A, B, hj, by simpa using h1, by simp at hl ⊢; omega, fun x' seg' A' hs hr hd => ?_⟩
    simp only [List.set_cons_zero, Rows]
    refine ⟨A', B, ⟨fun _ => Iff.rfl, fun b p q => hd b p q⟩, ?_, ?_, ?_⟩
    · simp [over, hs]
    · simp only [over, Nat.zero_mul, List.take_zero, List.nil_append]
      rw [List.take_append_of_le_length (by omega), List.take_of_length_le (by omega)]; exact hr
    · simp only [over, Nat.zero_mul, List.take_zero, List.nil_append, Nat.zero_add]
      rw [List.drop_append_of_le_length (by omega), List.drop_of_length_le (by omega)]
      simpa [hs] using h2
  | y :: xs, cs, S, k + 1, x, h, hk => by
    obtain ⟨A, B, hj, hl, h1, h2⟩ := h
    obtain ⟨A2, B2, hj2, hr, hlen, hset⟩ := rows_set xs (cs.drop sz) B k x h2 (by simpa using hk)
    have hsl : sz ≤ cs.length := by simp at hl; omega
    have e : (k + 1) * sz = sz + k * sz := by rw [Nat.succ_mul]; omega
    refine ⟨A2, fun b => A b ∨ B2 b, ⟨fun b => ?_, fun b p q => ?_⟩, ?_, ?_, fun x' seg' A' hs hr' hd => ?_⟩
    · rw [hj.1 b, hj2.1 b]; exact ⟨fun h => h.elim (fun h => .inr (.inl h)) (fun h => h.elim .inl (fun h => .inr (.inr h))), fun h => h.elim (fun h => .inr (.inl h)) (fun h => h.elim .inl (fun h => .inr (.inr h)))⟩
    · exact q.elim (fun q => hj.2 b q ((hj2.1 b).2 (.inl p))) (fun q => hj2.2 b p q)
    · rw [e, ← List.drop_drop]; exact hr
    · rw [e]; simp at hlen; omega
    · have := hset x' seg' A' hs hr' (fun b p q => hd b p (.inr q))
      simp only [List.set_cons_succ, Rows]
      have hov : over cs (sz + k * sz) seg' = cs.take sz ++ over (cs.drop sz) (k * sz) seg' := by
        simp only [over]
        rw [List.take_add, List.drop_drop]
        simp only [List.append_assoc]
        congr 4; omega
      rw [e, hov]
      refine ⟨A, fun b => A' b ∨ B2 b, ⟨fun b => ?_, fun b p q => ?_⟩, ?_, ?_, ?_⟩
      · exact ⟨fun h => h.elim (fun h => .inr (.inl h)) (fun h => h.elim .inl (fun h => .inr (.inr h))), fun h => h.elim (fun h => .inr (.inl h)) (fun h => h.elim .inl (fun h => .inr (.inr h)))⟩
      · exact q.elim (fun q => hd b q (.inl p)) (fun q => hj.2 b p ((hj2.1 b).2 (.inr q)))
      · rw [List.take_append_of_le_length (by simp; omega)]; simp; omega
      · rw [List.take_append_of_le_length (by simp; omega), List.take_of_length_le (by simp; omega)]; exact h1
      · rw [List.drop_append_of_le_length (by simp; omega), List.drop_of_length_le (by simp; omega)]; simpa using this

theorem over_seg (L V : List Value) (boff ks sz off n : Nat) (hL : boff + ks + sz ≤ L.length) (hV : V.length = n) (hle : off + n ≤ sz) :
    (over L (boff + (ks + off)) V).drop boff =
      over (L.drop boff) ks ((((L.drop boff).drop ks).take sz).take off ++ V ++ (((L.drop boff).drop ks).take sz).drop (off + n)) := by
  have hD : ks + sz ≤ (L.drop boff).length := by simp; omega
  have e1 : (over L (boff + (ks + off)) V).drop boff = over (L.drop boff) (ks + off) V := by
    simp only [over, List.append_assoc]
    rw [List.drop_append_of_le_length (by simp; omega), List.drop_take]
    congr 1
    · congr 1; omega
    · rw [List.drop_drop]; congr 2; omega
  rw [e1]
  generalize L.drop boff = D at hD ⊢
  simp only [over, List.append_assoc]
  have hslen : (List.take off (List.take sz (List.drop ks D)) ++ (V ++ List.drop (off + n) (List.take sz (List.drop ks D)))).length = sz := by
    simp; omega
  rw [hslen, List.take_add, List.take_take, Nat.min_eq_left (by omega), List.drop_take, List.drop_drop]
  simp only [List.append_assoc]
  congr 3
  rw [hV]
  have : ∀ (M : List Value) (p q : Nat), M.drop p = (M.drop p).take q ++ M.drop (p + q) := by
    intro M p q; rw [← List.drop_drop, List.take_append_drop]
  rw [this D (ks + off + n) (sz - (off + n))]
  congr 1
  · congr 2; omega
  · congr 1; omega

theorem run_store {P : Program} {t : TypeId} {i : TypeInfo} {w : World} {b off : Nat} {arr : Array Value} {ty : TypeId} {v : Value} (hinf : P.info? t = some i) (hb : w.heap[b]? = some (.cells arr ty (0, 0)))
    (hl : off + v.cells.size ≤ arr.size) (hsz : v.cells.size = i.size) (hc : ∀ c ∈ v.cells.toList, isCell c) :
    ∃ w', (Instr.storeAt t (.pointer (some (ad b off))) v).run P w = .ok () w' ∧ Wrote w w' b (over arr.toList off v.cells.toList).toArray ty := by
  obtain ⟨w', h1, h2⟩ := run_storeCells (P := P) (off := off) v.cells.toList 0 w arr hb (by simp; omega) hc
  refine ⟨w', ?_, by simpa using h2⟩
  unfold Instr.storeAt Instr.sureAddr
  simp only []
  rw [run_bind_ok (run_pure' P _ w)]
  unfold storeVar
  rw [run_bind_ok (run_sizeOf hinf w)]
  rw [if_neg (by omega)]
  exact h1

theorem vcStore_ok {P : Program} {s : St} {t : TypeId} {p v : AV} {K : St → Prop} (h : vcStore P s t p v K) {C : Ctx} {a : Act} {w : World} {η : Nat → Value} {Z T : FP}
    (hi : Inst C s a w η Z T) {pv vv : Value} (hp : relS Z η w p pv (fun _ => False)) (hv : relS Z η w v vv (fun _ => False)) (hvi : idsB s.nx v) :
    ∃ w' s', (Instr.storeAt t pv vv).run P w = .ok () w' ∧ K s' ∧ Rel C s' a w' := by
  unfold vcStore at h
  split at h
  · rename_i ls i hl hinf
    split at h
    · rename_i hlen
      have hlen := Nat.eq_of_beq_eq_true hlen
      obtain ⟨hlr, hcell⟩ := leaves_rel hv hl
      have hlids := leavesOf_ids hvi hl
      have hcl : vv.cells.toList.length = ls.length := relSL_len _ _ _ hlr
      have hcsz : vv.cells.size = i.size := by rw [← hlen, ← hcl]; simp
      -- a store into a box
      have boxcase : ∀ (id j off : Nat) (c : List AV) (r1 r2 : List AV), takeL id s.regs = some (.box j c, r1) → pv = .pointer (some ⟨(baseOf (η id)).block, (baseOf (η id)).off + off, none⟩) →
          off + ls.length ≤ c.length → plugL id (.box j (c.take off ++ ls ++ c.drop (off + ls.length))) r1 = some r2 → K ⟨r2, s.nx⟩ →
          ∃ w' s', (Instr.storeAt t pv vv).run P w = .ok () w' ∧ K s' ∧ Rel C s' a w' := by
        intro id j off c r1 r2 ht hpv hle hpl hk
        obtain ⟨A1, B1, hj, hio, hro, hrr⟩ := takeL_ok s.regs _ T _ _ hi.rel ht
        obtain ⟨q1, q2, q3⟩ := takeL_ids s.regs _ _ hi.ids ht
        simp only [isOwner] at hio
        subst hio
        simp only [relS] at hro
        obtain ⟨_, b, arr, ty, S1, e, hb, hr, hj1⟩ := hro
        have hcs := relSL_len _ _ _ hr
        rw [hpv, e]
        simp only [baseOf, Nat.zero_add]
        have hsz' : vv.cells.size = ls.length := by rw [hcsz, hlen]
        obtain ⟨w', hrun, hw⟩ := run_store (P := P) (off := off) hinf hb (by simp at hcs; omega) hcsz hcell
        have hbA : A1 b := (hj1.1 b).2 (.inl rfl)
        have hg : Grew w w' A1 := ⟨hw.os, hw.tape, hw.output, by rw [hw.size]; exact Nat.le_refl _, fun x hx hxA => hw.oth x (fun h => hxA (h ▸ hbA))⟩
        refine ⟨w', _, hrun, hk, ?_⟩
        have hzw : ∀ x, ¬ Z x → x < w.heap.size → ¬ (Z x ∨ w.heap.size ≤ x) ∧ w'.heap[x]? = w.heap[x]? := fun x hx hxl =>
          ⟨fun h => h.elim hx (fun h => by omega), hg.old x hxl (fun h => hx (hi.own x ((hj.1 x).2 (.inl h))).1)⟩
        have hlt : ∀ x, T x → x < w.heap.size := fun x hx => (hi.own x hx).2.1
        simp only [idsB] at q2
        obtain ⟨P1, P2, hjp, hp1, hp2⟩ := relSL_split off c arr.toList S1 hr
        obtain ⟨P3, P4, hjp2, hp3, hp4⟩ := relSL_split ls.length (c.drop off) (arr.toList.drop off) P2 hp2
        have hS1 : ∀ x, S1 x → T x := fun x hx => (hj.1 x).2 (.inl ((hj1.1 x).2 (.inr hx)))
        have hnb : ∀ x, S1 x → w'.heap[x]? = w.heap[x]? := fun x hx => hw.oth x (fun h => hj1.2 b rfl (h ▸ hx))
        have m1 := relSL_mono (n := s.nx) hzw (fun _ _ => rfl) _ _ _ (idsBL_take off c q2.2) (fun x hx => hnb x ((hjp.1 x).2 (.inl hx))) hp1
        have m4 := relSL_mono (n := s.nx) hzw (fun _ _ => rfl) _ _ _ (idsBL_drop ls.length _ (idsBL_drop off c q2.2)) (fun x hx => hnb x ((hjp.1 x).2 (.inr ((hjp2.1 x).2 (.inr hx))))) hp4
        have ml := relSL_mono (n := s.nx) hzw (fun _ _ => rfl) _ _ _ hlids (fun x hx => hx.elim) hlr
        have mm := relSL_append _ _ _ _ _ _ P1 m1 ml (join_emp_right P1)
        have hd14 : ∀ x, P1 x → P4 x → False := fun x h1 h2 => hjp.2 x h1 ((hjp2.1 x).2 (.inr h2))
        have mall := relSL_append _ _ _ _ _ _ (fun x => P1 x ∨ P4 x) mm m4 ⟨fun _ => Iff.rfl, hd14⟩
        rw [List.drop_drop, List.drop_drop] at mall
        have hover : over arr.toList off vv.cells.toList = arr.toList.take off ++ vv.cells.toList ++ arr.toList.drop (off + ls.length) := by
          simp only [over]; rw [hcl]
        rw [← hover] at mall
        have hbox : relS (fun x => Z x ∨ w.heap.size ≤ x) η w' (.box j (c.take off ++ ls ++ c.drop (off + ls.length))) (η j) (fun x => x = b ∨ (P1 x ∨ P4 x)) := by
          simp only [relS]
          refine ⟨trivial, b, _, ty, _, e, hw.blk, by simpa using mall, ⟨fun x => Iff.rfl, fun x h1 h2 => ?_⟩⟩
          simp only [one] at h1
          exact hj1.2 b rfl (h1 ▸ (h2.elim (fun h => (hjp.1 x).2 (.inl h)) (fun h => (hjp.1 x).2 (.inr ((hjp2.1 x).2 (.inr h))))))
        have hrr' := relSL_mono (n := s.nx) hzw (fun _ _ => rfl) _ _ _ q3 (fun x hx => hg.old x (hlt x ((hj.1 x).2 (.inr hx))) (fun h => hj.2 x h hx)) hrr
        have hsub : ∀ x, (x = b ∨ (P1 x ∨ P4 x)) → A1 x := fun x hx => hx.elim (fun h => h ▸ hbA) (fun h => (hj1.1 x).2 (.inr (h.elim (fun h => (hjp.1 x).2 (.inl h)) (fun h => (hjp.1 x).2 (.inr ((hjp2.1 x).2 (.inr h)))))))
        have hfin := plugL_ok hbox r1 _ B1 (fun x => (x = b ∨ (P1 x ∨ P4 x)) ∨ B1 x) r2 hrr' ⟨fun _ => Iff.rfl, fun x h1 h2 => hj.2 x (hsub x h1) h2⟩ hpl
        refine ⟨η, _, _, hi.next (A1 := A1) (fun _ h => h) (fun _ h h' => (h' h).elim) (fun x hx => (hj.1 x).2 (.inl hx)) hg rfl hfin (plugL_ids ?_ _ _ q3 hpl) (fun x hx => ?_)⟩
        · simp only [idsB]
          refine ⟨q2.1, ?_⟩
          have happ : ∀ (l1 l2 : List AV), idsBL s.nx l1 → idsBL s.nx l2 → idsBL s.nx (l1 ++ l2) := by
            intro l1
            induction l1 with
            | nil => intro l2 _ h2; simpa using h2
            | cons x l1 ih => intro l2 h1 h2; exact ⟨h1.1, ih l2 h1.2 h2⟩
          exact happ _ _ (happ _ _ (idsBL_take _ _ q2.2) hlids) (idsBL_drop _ _ q2.2)
        · have hT : T x := (hj.1 x).2 (hx.imp (hsub x) id)
          exact ⟨.inl (hi.own x hT).1, .inl hT, Nat.lt_of_lt_of_le (hlt x hT) hg.size⟩
      split at h
      · rename_i id
        split at h
        · rename_i j c r1 ht
          split at h
          · rename_i hle
            have hle := Nat.le_of_ble_eq_true hle
            split at h
            · rename_i r2 hpl
              refine boxcase id j 0 c r1 r2 ht ?_ (by omega) (by simpa using hpl) h
              obtain ⟨A1, B1, hj, hio, hro, hrr⟩ := takeL_ok s.regs _ T _ _ hi.rel ht
              simp only [relS] at hp hro
              obtain ⟨_, b, arr, ty, S1, e, _⟩ := hro
              rw [hp.1, e]; simp [baseOf]
            · exact h.elim
          · exact h.elim
        · exact h.elim
      · rename_i id k sz off
        split at h
        · rename_i j c r1 ht
          split at h
          · rename_i hle
            have hle := Nat.le_of_ble_eq_true hle
            split at h
            · rename_i r2 hpl
              refine boxcase id j off c r1 r2 ht ?_ hle hpl h
              simp only [relS] at hp
              rw [hp.1]; simp
            · exact h.elim
          · exact h.elim
        · rename_i j sz' α f xs r1 ht
          split at h
          · rename_i hsz hle
            have hsz := Nat.eq_of_beq_eq_true hsz
            subst hsz
            have hle := Nat.le_of_ble_eq_true hle
            obtain ⟨hk, h⟩ := h
            have hkx : xs[k]? = some xs[k] := by simp
            obtain ⟨x', ⟨ht1, ht2⟩, h⟩ := h _ hkx
            obtain ⟨A1, B1, hj, hio, hro, hrr⟩ := takeL_ok s.regs _ T _ _ hi.rel ht
            obtain ⟨q1, q2, q3⟩ := takeL_ids s.regs _ _ hi.ids ht
            simp only [isOwner] at hio
            subst hio
            obtain ⟨Z1, A2, B2, r2, ho⟩ := handL_ok _ r1 ls _ h Z a.tmps.toList vv.cells.toList B1 (fun _ => False) B1 hrr q3 hlr hlids (join_emp_left B1)
            have hk2 := ho.k
            split at hk2
            · rename_i r3 hpl
              simp only [relS, rel0] at hro hp
              obtain ⟨hη, a0, n0, c0, e, hn, hc, hro⟩ := hro
              rcases hro with ⟨_, hro⟩ | ⟨ho', _⟩
              · rcases hro with ⟨ha, hc0, _⟩ | ⟨b, boff, arr, ty, S1, ha, hb, hsize, hrows, hj1⟩
                · omega
                · obtain ⟨_, _, _, _, hlk, _⟩ := rows_set xs _ S1 k xs[k] hrows hkx
                  subst ha
                  rw [hp.1, e]
                  simp only [baseOf]
                  have hsz' : vv.cells.size = ls.length := by rw [hcsz, hlen]
                  simp at hlk
                  obtain ⟨w', hrun, hw⟩ := run_store (P := P) (off := boff + (k * sz + off)) hinf hb (by omega) hcsz hcell
                  have hbA : A1 b := (hj1.1 b).2 (.inl rfl)
                  have hg : Grew w w' A1 := ⟨hw.os, hw.tape, hw.output, by rw [hw.size]; exact Nat.le_refl _, fun x hx hxA => hw.oth x (fun h => hxA (h ▸ hbA))⟩
                  refine ⟨w', _, hrun, hk2, ?_⟩
                  have hTo := hi.own
                  have hA1T : ∀ x, A1 x → T x := fun x hx => (hj.1 x).2 (.inl hx)
                  have hB1T : ∀ x, B1 x → T x := fun x hx => (hj.1 x).2 (.inr hx)
                  have hlt : ∀ x, T x → x < w.heap.size := fun x hx => (hTo x hx).2.1
                  have hA1Z1 : ∀ x, A1 x → Z1 x := fun x hx => Classical.byContradiction fun hn => hj.2 x hx (ho.gone x (hTo x (hA1T x hx)).1 hn)
                  have hB2Z1 : ∀ x, B2 x → Z1 x := fun x hx => ho.ownB rfl x hx (hTo x (hB1T x (ho.part x (.inr hx)))).1
                  have hA2Z1 : ∀ x, A2 x → Z1 x := fun x hx => ho.ownA x hx (hTo x (hB1T x (ho.part x (.inl hx)))).1
                  have hzw : ∀ x, ¬ Z1 x → x < w.heap.size → ¬ (Z1 x ∨ w.heap.size ≤ x) ∧ w'.heap[x]? = w.heap[x]? := fun x hx hxl =>
                    ⟨fun h => h.elim hx (fun h => by omega), hg.old x hxl (fun h => hx (hA1Z1 x h))⟩
                  have hzw0 : ∀ x, ¬ Z x → x < w.heap.size → ¬ (Z1 x ∨ w.heap.size ≤ x) ∧ w'.heap[x]? = w.heap[x]? := fun x hx hxl => hzw x (fun h => hx (ho.zz x h)) hxl
                  have hS1T : ∀ x, S1 x → A1 x := fun x hx => (hj1.1 x).2 (.inr hx)
                  have hnb : ∀ x, S1 x → w'.heap[x]? = w.heap[x]? := fun x hx => hw.oth x (fun h => hj1.2 b rfl (h ▸ hx))
                  have hrows' : Rows sz (fun x cs A => rel0L (fun x => Z1 x ∨ w.heap.size ≤ x) w' (f x) cs A) xs (arr.toList.drop boff) S1 :=
                    Rows_mono xs _ S1 (fun x cs A hA hx => rel0L_mono hzw0 _ _ _ (fun y hy => hnb y (hA y hy)) hx) hrows
                  obtain ⟨Ak, Bk, hjk, hrk, _, hset⟩ := rows_set xs _ S1 k xs[k] hrows' hkx
                  -- the element's parts
                  generalize hseg : ((arr.toList.drop boff).drop (k * sz)).take sz = seg at hrk
                  have hsegl : seg.length = sz := by rw [← hseg]; simp; omega
                  obtain ⟨P1, P2, hjp, m1, hp2⟩ := rel0L_split off (f xs[k]) seg Ak hrk
                  obtain ⟨P3, P4, hjp2, m3, m4⟩ := rel0L_split ls.length ((f xs[k]).drop off) (seg.drop off) P2 hp2
                  have hAkS : ∀ x, Ak x → S1 x := fun x hx => (hjk.1 x).2 (.inl hx)
                  have m2 := rel0L_mono hzw _ _ _ (fun x hx => hg.old x (hlt x (hB1T x (ho.part x (.inl hx)))) (fun h => hj.2 x h (ho.part x (.inl hx)))) ho.got
                  have d12 : ∀ x, P1 x → A2 x → False := fun x h1 h2 => hj.2 x (hS1T x (hAkS x ((hjp.1 x).2 (.inl h1)))) (ho.part x (.inl h2))
                  have d42 : ∀ x, P4 x → A2 x → False := fun x h1 h2 => hj.2 x (hS1T x (hAkS x ((hjp.1 x).2 (.inr ((hjp2.1 x).2 (.inr h1)))))) (ho.part x (.inl h2))
                  have d14 : ∀ x, P1 x → P4 x → False := fun x h1 h2 => hjp.2 x h1 ((hjp2.1 x).2 (.inr h2))
                  have mm := rel0L_append _ _ _ _ _ _ (fun x => P1 x ∨ A2 x) m1 m2 ⟨fun _ => Iff.rfl, d12⟩
                  have mall := rel0L_append _ _ _ _ _ _ (fun x => (P1 x ∨ A2 x) ∨ P4 x) mm m4 ⟨fun _ => Iff.rfl, fun x h1 h2 => h1.elim (fun h1 => d14 x h1 h2) (fun h1 => d42 x h2 h1)⟩
                  rw [List.drop_drop, List.drop_drop, ← ht1, ← ht2] at mall
                  have hfx' : (f x').take off ++ ((f x').drop off).take ls.length ++ (f x').drop (off + ls.length) = f x' := by
                    rw [← List.drop_drop, List.append_assoc, List.take_append_drop, List.take_append_drop]
                  rw [hfx'] at mall
                  have hdk : ∀ x, ((P1 x ∨ A2 x) ∨ P4 x) → ¬ Bk x := fun x h1 h2 => by
                    rcases h1 with (h1 | h1) | h1
                    · exact hjk.2 x ((hjp.1 x).2 (.inl h1)) h2
                    · exact hj.2 x (hS1T x ((hjk.1 x).2 (.inr h2))) (ho.part x (.inl h1))
                    · exact hjk.2 x ((hjp.1 x).2 (.inr ((hjp2.1 x).2 (.inr h1)))) h2
                  have hcv : vv.cells.toList.length = ls.length := hcl
                  have hnew := hset x' _ _ (by simp; omega) mall hdk
                  have hcells : (over arr.toList (boff + (k * sz + off)) vv.cells.toList).drop boff =
                      over (arr.toList.drop boff) (k * sz) (seg.take off ++ vv.cells.toList ++ seg.drop (off + ls.length)) := by
                    rw [← hseg]
                    have hL : boff + k * sz + sz ≤ arr.toList.length := by simp; omega
                    generalize arr.toList = L at hL ⊢
                    generalize vv.cells.toList = V at hcv ⊢
                    exact over_seg L V boff (k * sz) sz off ls.length hL hcv hle
                  rw [← hcells] at hnew
                  have hown : relS (fun x => Z1 x ∨ w.heap.size ≤ x) η w' (.sl true j sz α f (xs.set k x')) (η j) (fun x => x = b ∨ (((P1 x ∨ A2 x) ∨ P4 x) ∨ Bk x)) := by
                    simp only [relS, rel0]
                    refine ⟨fun _ => trivial, some ⟨b, boff, none⟩, n0, c0, e, by simpa using hn, hc, .inl ⟨trivial, .inr ⟨b, boff, _, ty, _, rfl, hw.blk, ?_, by simpa using hnew, ⟨fun x => Iff.rfl, fun x h1 h2 => ?_⟩⟩⟩⟩
                    · have := over_length (l := arr.toList) (off := boff + (k * sz + off)) (cs := vv.cells.toList) (by simp; omega)
                      simp [this]; omega
                    · simp only [one] at h1
                      subst h1
                      rcases h2 with ((h2 | h2) | h2) | h2
                      · exact hj1.2 x rfl (hAkS x ((hjp.1 x).2 (.inl h2)))
                      · exact hj.2 x hbA (ho.part x (.inl h2))
                      · exact hj1.2 x rfl (hAkS x ((hjp.1 x).2 (.inr ((hjp2.1 x).2 (.inr h2)))))
                      · exact hj1.2 x rfl ((hjk.1 x).2 (.inr h2))
                  have hrr' := relSL_mono (n := s.nx) hzw (fun _ _ => rfl) _ _ _ ho.ids (fun x hx => hg.old x (hlt x (hB1T x (ho.part x (.inr hx)))) (fun h => hj.2 x h (ho.part x (.inr hx)))) ho.rel
                  have hsub : ∀ x, (x = b ∨ (((P1 x ∨ A2 x) ∨ P4 x) ∨ Bk x)) → (A1 x ∨ A2 x) := fun x hx => by
                    rcases hx with hx | ((hx | hx) | hx) | hx
                    · exact .inl (hx ▸ hbA)
                    · exact .inl (hS1T x (hAkS x ((hjp.1 x).2 (.inl hx))))
                    · exact .inr hx
                    · exact .inl (hS1T x (hAkS x ((hjp.1 x).2 (.inr ((hjp2.1 x).2 (.inr hx))))))
                    · exact .inl (hS1T x ((hjk.1 x).2 (.inr hx)))
                  have hfin := plugL_ok hown r2 _ B2 (fun x => (x = b ∨ (((P1 x ∨ A2 x) ∨ P4 x) ∨ Bk x)) ∨ B2 x) r3 hrr' ⟨fun _ => Iff.rfl, fun x h1 h2 => (hsub x h1).elim (fun h => hj.2 x h (ho.part x (.inr h2))) (fun h => ho.dis x h h2)⟩ hpl
                  refine ⟨η, _, _, hi.next (A1 := A1) ho.zz (fun x h1 h2 => hB1T x (ho.gone x h1 h2)) hA1T hg rfl hfin (plugL_ids ?_ _ _ ho.ids hpl) (fun x hx => ?_)⟩
                  · simp only [idsB]; intro _; exact q1
                  · have hx2 : (A1 x ∨ A2 x) ∨ B2 x := hx.imp (hsub x) id
                    have hT : T x := hx2.elim (fun h => h.elim (hA1T x) (fun h => hB1T x (ho.part x (.inl h)))) (fun h => hB1T x (ho.part x (.inr h)))
                    exact ⟨.inl (hx2.elim (fun h => h.elim (hA1Z1 x) (hA2Z1 x)) (hB2Z1 x)), .inl hT, Nat.lt_of_lt_of_le (hlt x hT) hg.size⟩
              · cases ho'
            · exact hk2.elim
          · exact h.elim
        · exact h.elim
      · exact h.elim
    · exact h.elim
  · exact h.elim

end Go.Eng
