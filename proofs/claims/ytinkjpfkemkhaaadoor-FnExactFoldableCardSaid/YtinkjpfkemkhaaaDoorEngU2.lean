/- Regions that draw their order, where each operation only looks, or calls what hands back a number, a truth value or a text. -/
import Derived.Test.YtinkjpfkemkhaaaDoorEngU
import Derived.Deep.Quiet
set_option linter.unusedVariables false
set_option linter.unusedSimpArgs false
namespace Go.Eng

structure Ext (w w' : World) : Prop where
  os : w'.os = w.os
  tape : w'.tape = w.tape
  output : w'.output = w.output
  sees : Sees w w'

theorem Rel.ext {C : Ctx} {s : St} {a : Act} {w w' : World} (h : Rel C s a w) (he : Ext w w') : Rel C s a w' := by
  obtain ⟨η, Z, T, hi⟩ := h
  refine ⟨η, Z, T, hi.defers, ?_, hi.ids, fun b hb => ⟨(hi.own b hb).1, Nat.lt_of_lt_of_le (hi.own b hb).2.1 he.sees.size, (hi.own b hb).2.2⟩, ?_⟩
  · exact relSL_mono (n := s.nx) (fun b hz hb => ⟨hz, he.sees.old b hb⟩) (fun _ _ => rfl) _ _ _ hi.ids (fun b hb => he.sees.old b (hi.own b hb).2.1) hi.rel
  · refine ⟨he.os.trans hi.ok.os, he.tape.trans hi.ok.tape, he.output.trans hi.ok.output, Nat.le_trans hi.ok.size he.sees.size, fun b hb hn => ?_⟩
    obtain ⟨g1, g2⟩ := hi.ok.old b hb hn
    exact ⟨(he.sees.old b (Nat.lt_of_lt_of_le hb hi.ok.size)).trans g1, g2⟩

def vcQOp (P : Program) (Γ : FuncId → Nat → Option Sig) (ov : Bool) (o : Oper) (s : St) (K : AV → Prop) : Prop :=
  match o.op with
  | .call ⟨.value f, args, ts⟩ => match opAV s.regs f with
    | .clo (.func g) caps => match Γ g (ckey (args.toList.map (opAV s.regs) ++ caps)) with
      | some S => ∃ x : S.X, S.pre x ∧ handL true (S.args x) s.regs (args.toList.map (opAV s.regs) ++ caps) fun _ =>
          ∃ y0, (∀ y, S.post x y → S.res x y = S.res x y0) ∧ isScal (S.res x y0) = true ∧ K (S.res x y0)
      | none => False
    | _ => False
  | op => vcPure P ov s.regs op K

theorem vcQOp_ok {P : Program} {Γ : FuncId → Nat → Option Sig} (hΓ : ∀ f k S, Γ f k = some S → Contract P f S) {ov : Bool} {o : Oper} {s : St} {K : AV → Prop} (h : vcQOp P Γ ov o s K)
    {C : Ctx} {a : Act} {w : World} (hr : Rel C s a w) {N : Act → Prop} (hN : ∀ v r, K r → Rel C ⟨setR s.regs o.dst r, s.nx⟩ (a.put o.dst v) w → N (a.put o.dst v)) : o.quiet P a (Ext w) N := by
  obtain ⟨η, Z, T, hi⟩ := hr
  have hop := opAV_rel hi.rel
  have hid := opAV_ids hi.ids
  unfold vcQOp at h
  split at h
  · rename_i f args ts heq
    split at h
    · rename_i g caps hf
      split at h
      · rename_i S hS
        have hc := hΓ g _ S hS
        obtain ⟨x, hpre, h⟩ := h
        have hfv := hop f
        have hfi := hid f
        rw [hf] at hfv hfi
        simp only [relS] at hfv
        simp only [idsB] at hfi
        obtain ⟨cs, hfe, hcs⟩ := hfv
        have hargs := relSL_append _ _ _ _ _ _ _ (opL_rel (a := a) hi.rel args.toList) hcs (join_emp_left _)
        have happ : ∀ (l1 l2 : List AV), idsBL s.nx l1 → idsBL s.nx l2 → idsBL s.nx (l1 ++ l2) := by
          intro l1
          induction l1 with
          | nil => intro l2 _ h2; simpa using h2
          | cons x l1 ih => intro l2 h1 h2; exact ⟨h1.1, ih l2 h1.2 h2⟩
        obtain ⟨Z1, A1, B1, r1, ho⟩ := handL_ok (S.args x) s.regs _ _ h Z a.tmps.toList _ T (fun _ => False) T hi.rel hi.ids hargs (happ _ _ (opL_ids hi.ids args.toList) hfi) (join_emp_left T)
        obtain ⟨y0, hy0, hsc, hk⟩ := ho.k
        have hA1 : A1 = fun _ => False := emp_eq fun b hb => ho.stay rfl b hb
        have hgot := ho.got
        rw [hA1] at hgot
        obtain ⟨⟨⟨fn, hfn, hnm, hbody⟩, _⟩, hcc⟩ := hc
        refine ⟨scV (S.res x y0), fun w' hw' => ?_, hN _ _ hk ?_⟩
        · unfold Oper.quietAt
          have he : (execOp a.eval o).run P w' = .ok (.enter g (args.toList.map a.eval ++ cs).toArray) w' := by
            simp only [execOp, heq, resolve, hfe, Deferred.ofValue]
            rw [run_bind_ok (run_pure' P _ w')]
            simp only [invoke, callFunc, program]
            rw [run_bind_ok (x := P) (w' := w') rfl]
            simp only [hfn, hnm, Bool.false_eq_true, if_false, hbody]
            simp only [run_pure']
            congr 2
            apply Array.ext'; simp
          rw [he]
          refine ⟨rfl, ?_⟩
          have hgot' := rel0L_mono (Z' := Z1) (w' := w') (fun b hz hb => ⟨hz, hw'.sees.old b hb⟩) _ _ _ (fun b hb => hb.elim) hgot
          refine (hcc x hpre Z1 w' _ _ hgot' (fun b hb => hb.elim)).mono ?_
          rintro e w'' ⟨y, v, Z', A', hpost, rfl, hres, haft⟩
          simp only [rel0L] at hres
          obtain ⟨v', us', Ar, Ao, e1, hjr, hr1, hr3⟩ := hres
          simp only [List.cons.injEq] at e1
          obtain ⟨rfl, rfl⟩ := e1
          rw [hy0 y hpost] at hr1
          refine ⟨by rw [scal_v hr1 hsc], haft.os.trans hw'.os, haft.tape.trans hw'.tape, haft.output.trans hw'.output, Nat.le_trans hw'.sees.size haft.size, fun b hb => ?_⟩
          exact (haft.old b (Nat.lt_of_lt_of_le hb hw'.sees.size) id).1.trans (hw'.sees.old b hb)
        · exact hi.put o.dst (scal_rel hsc Z η w s.nx).1 (scal_rel hsc Z η w s.nx).2
      · exact h.elim
    · exact h.elim
  · obtain ⟨v, r, h1, h2, h3, h4⟩ := vcPure_ok h hi.rel hi.ids
    refine ⟨v, fun w' hw' => ?_, hN v r h4 (hi.put o.dst h2 h3)⟩
    unfold Oper.quietAt
    rw [h1 w' hw'.sees]
    exact ⟨rfl, rfl⟩

def vcQ (P : Program) (Γ : FuncId → Nat → Option Sig) (ov : Bool) (ops : Array Oper) : List Oper → St → (St → Prop) → Prop
  | [], s, K => K s
  | o :: rest, s, K => match o.guard with
    | none => vcQOp P Γ ov o s fun r => vcQ P Γ ov ops rest ⟨setR s.regs o.dst r, s.nx⟩ K
    | some (j, want) => match (ops[j]?).bind (·.dst) with
      | none => False
      | some d => match s.regs[d]? with
        | some (.tup _) => vcQ P Γ ov ops rest ⟨setR s.regs o.dst (.tup []), s.nx⟩ K
        | some (.bool c) => bcase c
            (gsel want true (vcQOp P Γ ov o ⟨s.regs.set d (.bool true), s.nx⟩ fun r => vcQ P Γ ov ops rest ⟨setR (s.regs.set d (.bool true)) o.dst r, s.nx⟩ K)
              (vcQ P Γ ov ops rest ⟨setR (s.regs.set d (.bool true)) o.dst (.tup []), s.nx⟩ K))
            (gsel want false (vcQOp P Γ ov o ⟨s.regs.set d (.bool false), s.nx⟩ fun r => vcQ P Γ ov ops rest ⟨setR (s.regs.set d (.bool false)) o.dst r, s.nx⟩ K)
              (vcQ P Γ ov ops rest ⟨setR (s.regs.set d (.bool false)) o.dst (.tup []), s.nx⟩ K))
        | _ => False

theorem vcQ_ok {P : Program} {Γ : FuncId → Nat → Option Sig} (hΓ : ∀ f k S, Γ f k = some S → Contract P f S) {ov : Bool} {ops : Array Oper} {C : Ctx} {js : List Nat} {a0 : Act} {w : World} :
    ∀ (l : List Oper) (s : St) (K : St → Prop) (a : Act), (∀ o ∈ l, avoids js o.dst = true) → vcQ P Γ ov ops l s K → Rel C s a w → Fixed js a0 a →
    wpQuiet P ops (Ext w) (fun a' => ∃ s', K s' ∧ Rel C s' a' w ∧ Fixed js a0 a') l a
  | [], s, K, a, hjs, h, hr, hf => ⟨s, h, hr, hf⟩
  | o :: rest, s, K, a, hjs, h, hr, hf => by
    unfold vcQ at h
    unfold wpQuiet
    have hav := hjs o (by simp)
    have hjs' : ∀ o ∈ rest, avoids js o.dst = true := fun o ho => hjs o (by simp [ho])
    have run : ∀ (s1 : St), Rel C s1 a w → vcQOp P Γ ov o s1 (fun r => vcQ P Γ ov ops rest ⟨setR s1.regs o.dst r, s1.nx⟩ K) →
        o.quiet P a (Ext w) (wpQuiet P ops (Ext w) (fun a' => ∃ s', K s' ∧ Rel C s' a' w ∧ Fixed js a0 a') rest) := by
      intro s1 hr1 h1
      exact vcQOp_ok hΓ h1 hr1 fun v r hk hr' => vcQ_ok hΓ rest _ K _ hjs' hk hr' (hf.put hav v)
    have skip : ∀ (s1 : St), Rel C s1 a w → vcQ P Γ ov ops rest ⟨setR s1.regs o.dst (.tup []), s1.nx⟩ K →
        wpQuiet P ops (Ext w) (fun a' => ∃ s', K s' ∧ Rel C s' a' w ∧ Fixed js a0 a') rest (a.put o.dst undef) := by
      intro s1 hr1 h1
      exact vcQ_ok hΓ rest _ K _ hjs' h1 (hr1.skip o.dst) (hf.put hav undef)
    split at h
    · rename_i hg
      have hw : Region.wanted o (yielded ops a.tmps) = true := by simp [Region.wanted, hg]
      rw [if_pos hw]
      exact run s hr h
    · rename_i j want hg
      split at h
      · exact h.elim
      · rename_i d hd
        have hy : yielded ops a.tmps j = (match a.tmps[d]? with | some (.bool b) => some b | _ => none) := by
          simp only [yielded, hd]; rfl
        split at h
        · rename_i fs hreg
          have hnone : yielded ops a.tmps j = none := by
            obtain ⟨η, Z, T, hi⟩ := hr
            obtain ⟨v, A, B, hv, hrr, _⟩ := focus s.regs _ T d _ hi.rel hreg
            simp only [relS] at hrr
            obtain ⟨cs, e, _⟩ := hrr
            have : a.tmps[d]? = some v := by rw [← Array.getElem?_toList, hv]
            rw [hy, this, e]
          have hw : ¬ Region.wanted o (yielded ops a.tmps) = true := by simp [Region.wanted, hg, hnone]
          rw [if_neg hw]
          exact skip s hr h
        · rename_i c hreg
          obtain ⟨hr1, ht⟩ := hr.know hreg
          have hyc : yielded ops a.tmps j = some c := by rw [hy, ht]
          have hw : Region.wanted o (yielded ops a.tmps) = (c == want) := by simp [Region.wanted, hg, hyc]
          rw [hw]
          unfold bcase at h
          cases c
          · cases want
            · simp only [gsel] at h
              rw [if_pos (by rfl)]; exact run _ hr1 h
            · simp only [gsel] at h
              rw [if_neg (by decide)]; exact skip _ hr1 h
          · cases want
            · simp only [gsel] at h
              rw [if_neg (by decide)]; exact skip _ hr1 h
            · simp only [gsel] at h
              rw [if_pos (by rfl)]; exact run _ hr1 h
        · exact h.elim

theorem vcDraw_ok {P : Program} {Γ : FuncId → Nat → Option Sig} (hΓ : ∀ f k S, Γ f k = some S → Contract P f S) {ov : Bool} {id : Nat} {ops : Array Oper} {C : Ctx} {js : List Nat} {a0 : Act} {Q : Exit → Act → World → Prop}
    {s : St} {K : St → Prop} {a : Act} {w : World} (hm : P.follows .mixedOrders = true) (hB : Region.lexB .any ops = true) (h : vcQ P Γ ov ops ops.toList s K) (hjs : ∀ o ∈ ops.toList, avoids js o.dst = true)
    (hr : Rel C s a w) (hf : Fixed js a0 a) (hQ : ∀ s' a' w', K s' → Rel C s' a' w' → Fixed js a0 a' → Q .normal a' w') : (Code.region id ops true).wp P Q a w := by
  refine wp_region_quiet (C := Ext w) hm hB ⟨rfl, rfl, rfl, Nat.le_refl _, fun _ _ => rfl⟩ ?_
  have := vcQ_ok hΓ (a0 := a0) ops.toList s K a hjs h hr hf
  refine wpQuiet_mono' ?_ ops.toList a this
  rintro a' ⟨s', hk, hr', hf'⟩ w' hw'
  exact hQ s' a' w' hk (hr'.ext hw') hf'
where
  wpQuiet_mono' {P : Program} {ops : Array Oper} {C : World → Prop} {R R' : Act → Prop} (h : ∀ a, R a → R' a) : ∀ (l : List Oper) (a : Act), wpQuiet P ops C R l a → wpQuiet P ops C R' l a
    | [], a, hh => h a hh
    | o :: l, a, hh => by
      unfold wpQuiet at hh ⊢
      split at hh
      · rename_i hw; rw [if_pos hw]; exact Oper.quiet_mono (wpQuiet_mono' h l) hh
      · rename_i hw; rw [if_neg hw]; exact wpQuiet_mono' h l _ hh

end Go.Eng
