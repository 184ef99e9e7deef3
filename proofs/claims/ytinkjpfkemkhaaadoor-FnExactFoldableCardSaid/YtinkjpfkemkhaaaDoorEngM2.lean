/- A part of a slice of one's own, which is one's own then. -/
import Derived.Test.YtinkjpfkemkhaaaDoorEngM
set_option linter.unusedVariables false
set_option linter.unusedSimpArgs false
namespace Go.Eng

def vcSliceOwn (P : Program) (s : St) (dst : Option Nat) (t : TypeId) (id : Nat) (lo hi : Option AV) (K : St → Prop) : Prop :=
  match takeL id s.regs with
  | some (.sl true j sz α f xs, r1) => match elemOfT P t with
    | some (_, es) => match Nat.beq sz es with
      | true => match boundOf 0 lo, boundOf xs.length hi with
        | some p, some q => (0 ≤ p ∧ p ≤ q ∧ q ≤ (xs.length : Int)) ∧ K ⟨setR r1 dst (.sl true s.nx sz α f (cutL lo.isSome hi.isSome p q xs)), s.nx + 1⟩
        | _, _ => False
      | false => False
    | none => False
  | _ => False

theorem vcSliceOwn_ok {P : Program} {s : St} {dst : Option Nat} {t : TypeId} {id : Nat} {lo hi : Option AV} {K : St → Prop} (h : vcSliceOwn P s dst t id lo hi K)
    {C : Ctx} {a : Act} {w : World} {η : Nat → Value} {Z T : FP} (hin : Inst C s a w η Z T) {xv : Value} {lov hiv : Option Value} (hx : relS Z η w (.al id) xv (fun _ => False))
    (hlo : ∀ a, lo = some a → ∃ v, lov = some v ∧ relS Z η w a v (fun _ => False)) (hlon : lo = none → lov = none)
    (hhi : ∀ a, hi = some a → ∃ v, hiv = some v ∧ relS Z η w a v (fun _ => False)) (hhin : hi = none → hiv = none) :
    ∃ u w' s', (Instr.sliceAt t xv lov hiv none).run P w = .ok u w' ∧ K s' ∧ Rel C s' (a.put dst u) w' := by
  unfold vcSliceOwn at h
  split at h
  rotate_left
  · exact h.elim
  rename_i j sz α f xs r1 htake
  split at h
  rotate_left
  · exact h.elim
  rename_i e es he
  obtain ⟨hu, inf, hinf, hsz⟩ := elemOfT_ok he
  split at h
  rotate_left
  · exact h.elim
  rename_i hb
  have hb := Nat.eq_of_beq_eq_true hb
  subst hb
  split at h
  rotate_left
  · exact h.elim
  rename_i p q hp hq
  obtain ⟨⟨h0, h1, h2⟩, h⟩ := h
  rw [cutL_eq hp hq] at h
  obtain ⟨A, B, hj, hown, ho, hr1⟩ := takeL_ok _ _ T _ _ hin.rel htake
  obtain ⟨hid, hoi, hri⟩ := takeL_ids _ _ _ hin.ids htake
  simp only [relS] at hx
  rw [hx.1]
  simp only [relS, rel0] at ho
  obtain ⟨_, a0, n', c, ev, hn, hc, hr⟩ := ho
  rcases hr with ⟨_, hr⟩ | ⟨hh, _⟩
  rotate_left
  · cases hh
  rw [ev]
  subst hn
  have hrun : (Instr.sliceAt t (.slice a0 xs.length c) lov hiv none).run P w = .ok (.slice (if c = p.toNat then a0 else a0.map (·.add (p.toNat * sz))) (q.toNat - p.toNat) (c - p.toNat)) w := by
    unfold Instr.sliceAt Instr.slice
    rw [run_bind_ok (run_underlying hu w)]
    simp only []
    rw [run_bind_ok (run_underlying hu w)]
    simp only []
    rw [run_bind_ok (run_bounds hc h0 h1 h2 (boundOf_ok hp hlo hlon) (boundOf_ok hq hhi hhin))]
    simp only []
    rw [run_bind_ok (run_sizeOf hinf w), hsz]; rfl
  have hAT : ∀ b, A b → T b := fun b hb => (hj.1 b).2 (.inl hb)
  have hBT : ∀ b, B b → T b := fun b hb => (hj.1 b).2 (.inr hb)
  let v : Value := .slice (if c = p.toNat then a0 else a0.map (·.add (p.toNat * sz))) (q.toNat - p.toNat) (c - p.toNat)
  obtain ⟨A', hA', hnew⟩ : ∃ A', (∀ b, A' b → A b) ∧ rel0 Z w (.sl true s.nx sz α f ((xs.take q.toNat).drop p.toNat)) v A' := by
    rcases hr with ⟨ha, hcz, hAe⟩ | ⟨b, off, arr, ty, S1, ha, hbk, hfit, hrows, hjb⟩
    · refine ⟨fun _ => False, fun _ h => h.elim, ?_⟩
      subst ha
      simp only [rel0]
      have : p.toNat = 0 := by omega
      refine ⟨none, q.toNat - p.toNat, c - p.toNat, by simp [v], by simp; omega, by omega, .inl ⟨trivial, .inl ⟨rfl, by omega, emp_false⟩⟩⟩
    · subst ha
      obtain ⟨S2, hs2, hr2⟩ := Rows_take q.toNat xs _ _ hrows
      obtain ⟨S3, hs3, hr3⟩ := Rows_drop p.toNat _ _ _ hr2
      rw [List.drop_drop] at hr3
      have hS31 : ∀ x, S3 x → S1 x := fun x hx => hs2 x (hs3 x hx)
      have hj3 : join (fun x => one b x ∨ S3 x) (one b) S3 := ⟨fun _ => Iff.rfl, fun x y z => hjb.2 x y (hS31 x z)⟩
      refine ⟨fun x => one b x ∨ S3 x, fun x hx => (hjb.1 x).2 (hx.imp (fun h => h) (hS31 x)), ?_⟩
      have hqp : q.toNat - p.toNat = ((xs.take q.toNat).drop p.toNat).length := by simp; omega
      by_cases hcp : c = p.toNat
      · have hnil : (xs.take q.toNat).drop p.toNat = [] := by
          apply List.drop_eq_nil_of_le; simp; omega
        have hS3 : emp S3 := by rw [hnil] at hr3; exact hr3
        rw [hnil]
        simp only [rel0]
        refine ⟨some ⟨b, off, none⟩, q.toNat - p.toNat, c - p.toNat, by simp [v, hcp], by rw [hqp, hnil], by omega, .inl ⟨trivial, .inr ⟨b, off, arr, ty, S3, rfl, hbk, ?_, ?_, hj3⟩⟩⟩
        · have : c - p.toNat = 0 := by omega
          rw [this]; have : 0 ≤ c * sz := Nat.zero_le _; omega
        · exact hS3
      · simp only [rel0]
        refine ⟨some (ad b (off + p.toNat * sz)), q.toNat - p.toNat, c - p.toNat, ?_, hqp, by omega, .inl ⟨trivial, .inr ⟨b, off + p.toNat * sz, arr, ty, S3, rfl, hbk, ?_, hr3, hj3⟩⟩⟩
        · simp only [v, if_neg hcp]
          exact congrArg (fun x => Value.slice (some x) _ _) (ad_add b off _)
        · have : (c - p.toNat) * sz + p.toNat * sz = c * sz := by rw [← Nat.add_mul]; congr 1; omega
          omega
  refine ⟨v, w, _, hrun, h, ?_⟩
  have hcell : isCell v := rel0_sl_cells hnew
  refine hin.putOwn (A1 := A) (B1 := B) (A' := A') (η' := fun i => if i = s.nx then v else η i) hr1 hri (fun _ h => h) (fun _ h h' => (h' h).elim) hAT hBT (fun b x y => hj.2 b x y)
    (fun b hb => (hin.own b (hAT b hb)).1) (fun b hb => (hin.own b (hBT b hb)).1) (w' := w) ⟨rfl, rfl, rfl, Nat.le_refl _, fun _ _ _ => rfl⟩ (Nat.le_succ _) (fun i hi => if_neg (by omega)) ?_ ?_ ?_ dst
  · simp only [relS]
    refine ⟨fun _ => by simp, ?_⟩
    exact rel0_mono (fun b hz hb => ⟨fun x => x.elim hz (fun x => by omega), rfl⟩) _ _ _ (fun _ _ => rfl) hnew
  · simp only [idsB]; exact fun _ => Nat.lt_succ_self _
  · intro b hb; exact ⟨.inl (hA' b hb), (hin.own b (hAT b (hA' b hb))).2.1⟩
end Go.Eng
