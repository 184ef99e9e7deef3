/- Functions. -/
import Derived.Test.YtinkjpfkemkhaaaDoorEngV
set_option linter.unusedVariables false
set_option linter.unusedSimpArgs false
namespace Go.Eng

def isBox : AV → Bool
  | .box _ _ => true
  | _ => false
def boxIdx : List AV → Nat → List Nat
  | [], _ => []
  | a :: as, j => match isBox a with
    | true => j :: boxIdx as (j + 1)
    | false => boxIdx as (j + 1)
def outsOk (js : List Nat) : Nat → List AV → Bool
  | _, [] => true
  | j, o :: os => match o with
    | .top => outsOk js (j + 1) os
    | .box _ _ => match js.elem j with
      | true => outsOk js (j + 1) os
      | false => false
    | .sl true _ _ _ _ _ => match js.elem j with
      | true => outsOk js (j + 1) os
      | false => false
    | _ => false
def fixJ (S : Sig) (x : S.X) : List Nat := boxIdx (S.args x) 0 ++ S.fixed

def vcRes (P : Program) (regs : List AV) : List ResultVar → (List AV → Prop) → Prop
  | [], K => K []
  | .tmp t :: rs, K => vcRes P regs rs fun as => K (opAV regs (.tmp t) :: as)
  | .cell a t :: rs, K => vcLoadAt P regs t (opAV regs (.tmp a)) fun r => vcRes P regs rs fun as => K (r :: as)
def resAV : List AV → AV
  | [a] => a
  | as => .tup as

def initSt (N : Nat) (args : List AV) : St := ⟨(stampL 0 args).1 ++ List.replicate (N - args.length) (.tup []), (stampL 0 args).2⟩

def vcFin (P : Program) (S : Sig) (x : S.X) (rs : List ResultVar) (n : Nat) (s : St) : Prop :=
  vcRes P s.regs rs fun as => ∃ y, S.post x y ∧ match outsOk (fixJ S x) 0 (S.outs x y) with
    | true => handL false (S.res x y :: S.outs x y) s.regs (resAV as :: (List.range n).map fun j => opAV s.regs (.tmp j)) fun _ => True
    | false => False
def vcEnd (P : Program) (S : Sig) (x : S.X) (rs : List ResultVar) (n : Nat) : Ex → St → Prop
  | .exit _, _ => False
  | _, s => vcFin P S x rs n s

def vcFun (P : Program) (Γ : FuncId → Nat → Option Sig) (E : TypeId → Option ES) (ov : Bool) (L : Nat → Option LS) (N : Nat) (results : List ResultVar) (c : Code) (S : Sig) (x : S.X) : Prop :=
  match Nat.ble (S.args x).length N, dstsOk (fixJ S x) c with
  | true, true => keepOk S.keep (∀ y, S.post x y → cleanL (S.res x y :: S.outs x y)) ∧ vcCode P Γ E ov N L c (initSt N (S.args x)) (vcEnd P S x results (S.args x).length)
  | _, _ => False

theorem outs_fix {Z : FP} {w : World} {js : List Nat} : ∀ (j : Nat) (os : List AV) (vals us : List Value) (A : FP), outsOk js j os = true → us.length = vals.length →
    (∀ (i : Nat), i < vals.length → js.elem (j + i) = true → us[i]? = vals[i]?) → rel0L Z w os us A → rel0L Z w os vals A
  | j, [], vals, us, A, ho, hl, hf, h => by
    simp only [rel0L] at h ⊢
    rw [h.1] at hl
    exact ⟨List.length_eq_zero_iff.1 (by simpa using hl.symm), h.2⟩
  | j, o :: os, vals, us, A, ho, hl, hf, h => by
    simp only [rel0L] at h ⊢
    obtain ⟨u, us', A1, A2, e, hj, h1, h2⟩ := h
    subst e
    cases vals with
    | nil => simp at hl
    | cons v vals =>
      obtain ⟨ho1, ho2⟩ : (o = .top ∨ js.elem j = true) ∧ outsOk js (j + 1) os = true := by
        unfold outsOk at ho
        split at ho
        · exact ⟨.inl rfl, ho⟩
        · split at ho
          · rename_i hb; exact ⟨.inr hb, ho⟩
          · cases ho
        · split at ho
          · rename_i hb; exact ⟨.inr hb, ho⟩
          · cases ho
        · cases ho
      refine ⟨v, vals, A1, A2, rfl, hj, ?_, outs_fix (j + 1) os vals us' A2 ho2 (by simpa using hl) (fun i h3 h4 => by
        have := hf (i + 1) (by simpa using h3) (by rw [show j + (i + 1) = j + 1 + i from by omega]; exact h4)
        simpa using this) h2⟩
      rcases ho1 with rfl | ho1
      · simpa only [rel0] using h1
      · have := hf 0 (by simp) (by simpa using ho1)
        simp at this
        rw [← this]; exact h1

def resV : List Value → Value
  | [v] => v
  | vs => .tuple vs.toArray

theorem load_as {P : Program} {t : TypeId} {x v : Value} {w : World} (h : (Instr.loadAt t x).run P w = .ok v w) : (do loadVar t (← asAddr x) : Sem Value).run P w = .ok v w := by
  unfold Instr.loadAt at h
  cases x with
  | pointer a =>
    cases a with
    | none => rw [run_bind] at h; cases h
    | some a => rw [run_bind] at h ⊢; exact h
  | _ => rw [run_bind] at h; cases h

theorem vcRes_ok {P : Program} {regs : List AV} {Z : FP} {η : Nat → Value} {w : World} {n : Nat} {a : Act} {T : FP} (hR : relSL Z η w regs a.tmps.toList T) (hI : idsBL n regs)
    {g : ResultVar → Sem Value} (g1 : ∀ t, g (.tmp t) = pure (a.tmps.getD t undef)) (g2 : ∀ b t, g (.cell b t) = (do loadVar t (← asAddr (a.tmps.getD b undef)))) :
    ∀ (rs : List ResultVar) (K : List AV → Prop), vcRes P regs rs K → ∃ vs as, (rs.mapM g).run P w = .ok vs w ∧
      relSL Z η w as vs (fun _ => False) ∧ idsBL n as ∧ K as
  | [], K, h => ⟨[], [], rfl, by simp [relSL, emp], trivial, h⟩
  | .tmp t :: rs, K, h => by
    simp only [vcRes] at h
    obtain ⟨vs, as, h1, h2, h3, h4⟩ := vcRes_ok hR hI g1 g2 rs _ h
    refine ⟨a.tmps.getD t undef :: vs, opAV regs (.tmp t) :: as, ?_, ?_, ⟨opAV_ids hI (.tmp t), h3⟩, h4⟩
    · rw [List.mapM_cons, g1, run_bind_ok (run_pure' P _ w), run_bind_ok h1]; rfl
    · simp only [relSL]; exact ⟨_, _, _, _, rfl, join_emp_left _, opAV_rel hR (.tmp t), h2⟩
  | .cell b t :: rs, K, h => by
    simp only [vcRes] at h
    obtain ⟨v, r, h1, h2, h3, h4⟩ := vcLoadAt_ok (n := n) h hR hI (opAV_rel (a := a) hR (.tmp b))
    obtain ⟨vs, as, k1, k2, k3, k4⟩ := vcRes_ok hR hI g1 g2 rs _ h4
    refine ⟨v :: vs, r :: as, ?_, ?_, ⟨h3, k3⟩, k4⟩
    · have hl : (do loadVar t (← asAddr (a.tmps.getD b undef)) : Sem Value).run P w = .ok v w := load_as (h1 w (Sees.refl w))
      rw [List.mapM_cons, g2, run_bind_ok hl, run_bind_ok k1]; rfl
    · simp only [relSL]; exact ⟨_, _, _, _, rfl, join_emp_left _, h2, k2⟩

theorem run_results {P : Program} {fn : Func} {regs : List AV} {Z : FP} {η : Nat → Value} {w : World} {n : Nat} {a : Act} {T : FP} (hR : relSL Z η w regs a.tmps.toList T) (hI : idsBL n regs)
    {K : List AV → Prop} (h : vcRes P regs fn.results.toList K) : ∃ vs as, (results fn a.tmps).run P w = .ok (resV vs) w ∧ relSL Z η w as vs (fun _ => False) ∧ idsBL n as ∧ K as := by
  unfold results
  obtain ⟨vs, as, h1, h2⟩ := vcRes_ok hR hI (g := fun | .tmp t => pure (a.tmps.getD t undef) | .cell b t => do loadVar t (← asAddr (a.tmps.getD b undef))) (fun _ => rfl) (fun _ _ => rfl) fn.results.toList K h
  refine ⟨vs, as, ?_, h2⟩
  rw [Array.mapM_eq_mapM_toList, map_eq_pure_bind]
  refine (run_bind_ok (x := vs.toArray) (w' := w) ?_).trans ?_
  · exact (run_bind_ok h1).trans rfl
  · simp only [run_pure']
    congr 1
    match vs with
    | [] => rfl
    | [v] => rfl
    | v :: u :: vs => rfl

theorem undefs_rel (Z : FP) (η : Nat → Value) (w : World) : ∀ n, relSL Z η w (List.replicate n (.tup [])) (List.replicate n undef) (fun _ => False)
  | 0 => by simp [relSL, emp]
  | n + 1 => by
    simp only [List.replicate_succ, relSL]
    exact ⟨undef, _, _, _, rfl, join_emp_left _, undef_rel Z η w, undefs_rel Z η w n⟩
theorem undefs_ids (n : Nat) : ∀ N, idsBL n (List.replicate N (.tup []))
  | 0 => trivial
  | N + 1 => ⟨trivial, undefs_ids n N⟩
theorem idsBL_append {n : Nat} : ∀ (l1 l2 : List AV), idsBL n l1 → idsBL n l2 → idsBL n (l1 ++ l2)
  | [], l2, _, h2 => by simpa using h2
  | x :: l1, l2, h1, h2 => ⟨h1.1, idsBL_append l1 l2 h1.2 h2⟩

theorem vcFun_ok {P : Program} {Γ : FuncId → Nat → Option Sig} {E : TypeId → Option ES} {ov : Bool} {f : FuncId} {fn : Func} {c : Code} {S : Sig} {L : S.X → Nat → Option LS}
    (hfn : P.funcs[f]? = some fn) (hbody : fn.body = some c) (hname : (fn.name == "runtime.NumGoroutine") = false)
    (hΓ : ∀ f k S, Γ f k = some S → Contract P f S) (h : ∀ x, S.pre x → vcFun P Γ E ov (L x) fn.ntmps fn.results.toList c S x) : Contract P f S := by
  refine ⟨⟨⟨fn, hfn, hname, by simp [hbody]⟩, fun x y hx hy => ?_⟩, ?_⟩
  · have h := h x hx
    unfold vcFun at h
    split at h
    · have h := h.1
      unfold keepOk at h ⊢
      split
      · trivial
      · rename_i hk; rw [hk] at h; exact h y hy
    · exact h.elim
  intro x hpre Z w vals A hargs hA
  have h := h x hpre
  unfold vcFun at h
  split at h
  rotate_left
  · exact h.elim
  · rename_i hN hd
    have hvc := h.2
    have hN := Nat.le_of_ble_eq_true hN
    have hvl : vals.length = (S.args x).length := rel0L_len _ _ _ hargs
    refine calls_of_wp hfn hbody ?_
    let a0 : Act := { tmps := vals.toArray ++ Array.replicate (fn.ntmps - vals.toArray.size) undef, defers := [] }
    have hsz : a0.tmps.size = fn.ntmps := by simp [a0]; omega
    obtain ⟨p1, p2, η1, p3, p4⟩ := stampL_ok (S.args x) 0 vals A (fun _ => undef) hargs
    have hst := p4 η1 (fun _ _ => rfl)
    let C : Ctx := ⟨w, Z, A⟩
    have hinit : Rel C (initSt fn.ntmps (S.args x)) a0 w := by
      refine ⟨η1, Z, A, ⟨rfl, ?_, idsBL_append _ _ p2 (undefs_ids _ _), fun b hb => ⟨(hA b hb).1, (hA b hb).2, fun _ => hb⟩, ⟨rfl, rfl, rfl, Nat.le_refl _, fun b _ _ => ⟨rfl, Iff.rfl⟩⟩⟩⟩
      have := relSL_append _ _ _ _ _ _ A hst (undefs_rel Z η1 w (fn.ntmps - (S.args x).length)) (join_emp_right A)
      simpa [initSt, a0, hvl] using this
    refine vcCode_ok hΓ (js := fixJ S x) (a0 := a0) (E := E) (ov := ov) c (L x) _ _ _ a0 w (by rw [hsz]; exact hvc) hd hinit ⟨rfl, fun _ _ => rfl⟩ ?_
    intro e s' a' w' hk hr hf
    have fin : vcFin P S x fn.results.toList (S.args x).length s' → a'.defers = [] ∧ ∃ v, (results fn a'.tmps).run P w' = .ok v w' ∧ ∃ y v' Z' A', S.post x y ∧ Ending.returned v = .returned v' ∧ rel0L Z' w' (S.res x y :: S.outs x y) (v' :: vals) A' ∧ After Z w A Z' w' A' := by
      intro hfin
      obtain ⟨η, Z1, T, hi⟩ := hr
      obtain ⟨rvs, ras, hrun, hrr, hri, y, hpost, hh⟩ := run_results hi.rel hi.ids hfin
      split at hh
      rotate_left
      · exact hh.elim
      rename_i hout
      have hres : relS Z1 η w' (resAV ras) (resV rvs) (fun _ => False) := by
        match ras, rvs, hrr with
        | [], rvs, hrr =>
          simp only [relSL] at hrr
          rw [hrr.1]
          simp only [resAV, resV, relS]; exact ⟨[], rfl, by simp [relSL, emp]⟩
        | [r], rvs, hrr =>
          simp only [relSL] at hrr
          obtain ⟨v, cs', A, B, e, hj, h1, h2, h3⟩ := hrr
          subst h2; subst e
          have := (emp_of_join hj emp_false).1
          rw [emp_eq this] at h1
          exact h1
        | r :: q :: ras, rvs, hrr =>
          have hl := relSL_len _ _ _ hrr
          match rvs, hl with
          | v :: u :: rvs, _ => simp only [resAV, resV, relS]; exact ⟨_, rfl, hrr⟩
      have hresi : idsB s'.nx (resAV ras) := by
        match ras, hri with
        | [], hri => exact hri
        | [r], hri => exact hri.1
        | r :: q :: ras, hri => simp only [resAV, idsB]; exact hri
      have hactual : relSL Z1 η w' (resAV ras :: (List.range (S.args x).length).map fun j => opAV s'.regs (.tmp j))
          (resV rvs :: (List.range (S.args x).length).map fun j => a'.eval (.tmp j)) (fun _ => False) := by
        simp only [relSL]
        refine ⟨_, _, _, _, rfl, join_emp_left _, hres, ?_⟩
        have : ∀ l : List Nat, relSL Z1 η w' (l.map fun j => opAV s'.regs (.tmp j)) (l.map fun j => a'.eval (.tmp j)) (fun _ => False) := by
          intro l
          induction l with
          | nil => simp [relSL, emp]
          | cons t ts ih =>
            simp only [List.map_cons, relSL]
            exact ⟨_, _, _, _, rfl, join_emp_left _, opAV_rel hi.rel (.tmp t), ih⟩
        exact this _
      have hactuali : idsBL s'.nx (resAV ras :: (List.range (S.args x).length).map fun j => opAV s'.regs (.tmp j)) := by
        refine ⟨hresi, ?_⟩
        have : ∀ l : List Nat, idsBL s'.nx (l.map fun j => opAV s'.regs (.tmp j)) := by
          intro l
          induction l with
          | nil => trivial
          | cons t ts ih => exact ⟨opAV_ids hi.ids (.tmp t), ih⟩
        exact this _
      obtain ⟨Z2, A', B', r', ho⟩ := handL_ok _ s'.regs _ _ hh Z1 a'.tmps.toList _ T (fun _ => False) T hi.rel hi.ids hactual hactuali (join_emp_left T)
      refine ⟨hi.defers, _, hrun, y, _, Z2, A', hpost, rfl, ?_, ?_⟩
      · have hgot := ho.got
        simp only [rel0L] at hgot ⊢
        obtain ⟨v', us', A1, A2, e1, hj, h1, h2⟩ := hgot
        simp only [List.cons.injEq] at e1
        obtain ⟨rfl, rfl⟩ := e1
        refine ⟨_, vals, A1, A2, rfl, hj, h1, outs_fix 0 _ vals _ A2 hout (by simp [hvl]) (fun i hil0 hb => ?_) h2⟩
        have hil : i < (S.args x).length := by omega
        have hfix := hf.2 i (by simpa using hb)
        have hav : a0.tmps[i]? = vals[i]? := by
          simp only [a0]
          rw [Array.getElem?_append_left (by simp; omega)]
          simp
        have hvi : vals[i]? = some vals[i] := by simp
        simp only [List.getElem?_map, List.getElem?_range hil, Option.map_some, Act.eval]
        rw [hav, hvi] at hfix
        simp [Array.getD_eq_getD_getElem?, hfix, hvi]
      · refine ⟨hi.ok.os, hi.ok.tape, hi.ok.output, hi.ok.size, fun b hb hn => ?_, fun b hb => ?_⟩
        · obtain ⟨g1, g2⟩ := hi.ok.old b hb hn
          refine ⟨g1, fun h => g2.1 (ho.zz b h), fun h => Classical.byContradiction fun hn2 => ?_⟩
          have hT := ho.gone b (g2.2 h) hn2
          exact hn ((hi.own b hT).2.2 hb)
        · have hT := ho.part b (.inl hb)
          exact ⟨ho.ownA b hb (hi.own b hT).1, (hi.own b hT).2.1, (hi.own b hT).2.2⟩
    cases e with
    | normal => exact fin hk
    | exit id => exact hk.elim
    | ret => exact fin hk

/- contracts by a list -/
def Γof : List (Nat × Nat × Sig) → FuncId → Nat → Option Sig
  | [], _, _ => none
  | (g, k, S) :: l, f, j => match Nat.beq g f, Nat.beq k j with
    | true, true => some S
    | _, _ => Γof l f j
def AllC (P : Program) : List (Nat × Nat × Sig) → Prop
  | [] => True
  | (g, _, S) :: l => Contract P g S ∧ AllC P l
theorem Γof_ok {P : Program} : ∀ {l : List (Nat × Nat × Sig)}, AllC P l → ∀ f k S, Γof l f k = some S → Contract P f S
  | [], _, f, k, S, h => by simp [Γof] at h
  | (g, j, S') :: l, ha, f, k, S, h => by
    unfold Γof at h
    split at h
    · rename_i hb _
      simp only [Option.some.injEq] at h; subst h
      rw [← Nat.eq_of_beq_eq_true hb]; exact ha.1
    · exact Γof_ok ha.2 f k S h
def Lof : List (Nat × LS) → Nat → Option LS
  | [], _ => none
  | (g, S) :: l, f => match Nat.beq g f with
    | true => some S
    | false => Lof l f
def Eof : List (Nat × ES) → TypeId → Option ES
  | [], _ => none
  | (g, S) :: l, f => match Nat.beq g f with
    | true => some S
    | false => Eof l f
theorem bcase_intro {b : Bool} {p q : Prop} (h1 : b = true → p) (h2 : b = false → q) : bcase b p q := by
  cases b
  · exact h2 rfl
  · exact h1 rfl

end Go.Eng
