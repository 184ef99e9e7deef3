/- A part of the proof: the engine and the contracts, joined. -/
import Derived.Test.YtinkjpfkemkhaaaGreatDoorRC
import Derived.Test.YtinkjpfkemkhaaaGreatDoorProg
import Derived.WalkKit
import Derived.Lib.Bytealg
import Derived.Laws.Externs
section
/- Functions. -/
set_option linter.unusedVariables false
set_option linter.unusedSimpArgs false
namespace Go.Eng

def isBox : AV → Bool
  | .box _ _ => true
  | _ => false
def boxIdx : List AV → Nat → List Nat
  | [], _ => []
  | a :: azs, j => match isBox a with
    | true => j :: boxIdx azs (j + 1)
    | false => boxIdx azs (j + 1)
def outsOk (js : List Nat) : Nat → List AV → Bool
  | _, [] => true
  | j, o :: os => match o with
    | .top => outsOk js (j + 1) os
    | .box _ _ => match js.elem j with
      | true => outsOk js (j + 1) os
      | false => false
    | .sl true _ _ _ _ _ => match js.elem j with
      | true => outsOk js (j + 1) os
      | false => false
    | _ => false
def fixJ (S : Sig) (x : S.X) : List Nat := boxIdx (S.args x) 0 ++ S.fixed

def vcRes (P : Program) (regs : List AV) : List ResultVar → (List AV → Prop) → Prop
  | [], K => K []
  | .tmp t :: rs, K => vcRes P regs rs fun azs => K (opAV regs (.tmp t) :: azs)
  | .cell a t :: rs, K => vcLoadAt P regs t (opAV regs (.tmp a)) fun r => vcRes P regs rs fun azs => K (r :: azs)
def resAV : List AV → AV
  | [a] => a
  | azs => .tup azs

def initSt (N : Nat) (args : List AV) : St := ⟨(stampL 0 args).1 ++ List.replicate (N - args.length) (.tup []), (stampL 0 args).2⟩

def vcFin (P : Program) (S : Sig) (x : S.X) (rs : List ResultVar) (n : Nat) (s : St) : Prop :=
  vcRes P s.regs rs fun azs => ∃ y, S.post x y ∧ match outsOk (fixJ S x) 0 (S.outs x y) with
    | true => handL false (S.res x y :: S.outs x y) s.regs (resAV azs :: (List.range n).map fun j => opAV s.regs (.tmp j)) fun _ => True
    | false => False
def vcEnd (P : Program) (S : Sig) (x : S.X) (rs : List ResultVar) (n : Nat) : Ex → St → Prop
  | .exit _, _ => False
  | _, s => vcFin P S x rs n s

def vcFun (P : Program) (Γ : FuncId → Nat → Option Sig) (E : TypeId → Option ES) (ov : Bool) (L : Nat → Option LS) (N : Nat) (results : List ResultVar) (c : Code) (S : Sig) (x : S.X) : Prop :=
  match Nat.ble (S.args x).length N, dstsOk (fixJ S x) c with
  | true, true => keepOk S.keep (∀ y, S.post x y → cleanL (S.res x y :: S.outs x y)) ∧ vcCode P Γ E ov N L c (initSt N (S.args x)) (vcEnd P S x results (S.args x).length)
  | _, _ => False

theorem outs_fix {Z : FP} {w : World} {js : List Nat} : ∀ (j : Nat) (os : List AV) (vals us : List Value) (A : FP), outsOk js j os = true → us.length = vals.length →
    (∀ (i : Nat), i < vals.length → js.elem (j + i) = true → us[i]? = vals[i]?) → rel0L Z w os us A → rel0L Z w os vals A
  | j, [], vals, us, A, ho, hl, hf, h => by
    simp only [rel0L] at h ⊢
    rw [h.1] at hl
    exact ⟨List.length_eq_zero_iff.1 (by simpa using hl.symm), h.2⟩
  | j, o :: os, vals, us, A, ho, hl, hf, h => by
    simp only [rel0L] at h ⊢
    obtain ⟨u, us', A1, A2, e, hj, h1, h2⟩ := h
    subst e
    cases vals with
    | nil => simp at hl
    | cons v vals =>
      obtain ⟨ho1, ho2⟩ : (o = .top ∨ js.elem j = true) ∧ outsOk js (j + 1) os = true := by
        unfold outsOk at ho
        split at ho
        · exact ⟨.inl rfl, ho⟩
        · split at ho
          · rename_i hb; exact ⟨.inr hb, ho⟩
          · cases ho
        · split at ho
          · rename_i hb; exact ⟨.inr hb, ho⟩
          · cases ho
        · cases ho
      refine ⟨v, vals, A1, A2, rfl, hj, ?_, outs_fix (j + 1) os vals us' A2 ho2 (by simpa using hl) (fun i h3 h4 => by
        have := hf (i + 1) (by simpa using h3) (by rw [show j + (i + 1) = j + 1 + i from by omega]; exact h4)
        simpa using this) h2⟩
      rcases ho1 with rfl | ho1
      · simpa only [rel0] using h1
      · have := hf 0 (by simp) (by simpa using ho1)
        simp at this
        rw [← this]; exact h1

def resV : List Value → Value
  | [v] => v
  | vs => .tuple vs.toArray

theorem load_as {P : Program} {t : TypeId} {x v : Value} {w : World} (h : (Instr.loadAt t x).run P w = .ok v w) : (do loadVar t (← asAddr x) : Sem Value).run P w = .ok v w := by
  unfold Instr.loadAt at h
  cases x with
  | pointer a =>
    cases a with
    | none => rw [run_bind] at h; cases h
    | some a => rw [run_bind] at h ⊢; exact h
  | _ => rw [run_bind] at h; cases h

theorem vcRes_ok {P : Program} {regs : List AV} {Z : FP} {η : Nat → Value} {w : World} {n : Nat} {a : Act} {T : FP} (hR : relSL Z η w regs a.tmps.toList T) (hI : idsBL n regs)
    {g : ResultVar → Sem Value} (g1 : ∀ t, g (.tmp t) = pure (a.tmps.getD t undef)) (g2 : ∀ b t, g (.cell b t) = (do loadVar t (← asAddr (a.tmps.getD b undef)))) :
    ∀ (rs : List ResultVar) (K : List AV → Prop), vcRes P regs rs K → ∃ vs azs, (rs.mapM g).run P w = .ok vs w ∧
      relSL Z η w azs vs (fun _ => False) ∧ idsBL n azs ∧ K azs
  | [], K, h => ⟨[], [], rfl, by simp [relSL, emp], trivial, h⟩
  | .tmp t :: rs, K, h => by
    simp only [vcRes] at h
    obtain ⟨vs, azs, h1, h2, h3, h4⟩ := vcRes_ok hR hI g1 g2 rs _ h
    refine ⟨a.tmps.getD t undef :: vs, opAV regs (.tmp t) :: azs, ?_, ?_, ⟨opAV_ids hI (.tmp t), h3⟩, h4⟩
    · rw [List.mapM_cons, g1, run_bind_ok (run_pure' P _ w), run_bind_ok h1]; rfl
    · simp only [relSL]; exact ⟨_, _, _, _, rfl, join_emp_left _, opAV_rel hR (.tmp t), h2⟩
  | .cell b t :: rs, K, h => by
    simp only [vcRes] at h
    obtain ⟨v, r, h1, h2, h3, h4⟩ := vcLoadAt_ok (n := n) h hR hI (opAV_rel (a := a) hR (.tmp b))
    obtain ⟨vs, azs, k1, k2, k3, k4⟩ := vcRes_ok hR hI g1 g2 rs _ h4
    refine ⟨v :: vs, r :: azs, ?_, ?_, ⟨h3, k3⟩, k4⟩
    · have hl : (do loadVar t (← asAddr (a.tmps.getD b undef)) : Sem Value).run P w = .ok v w := load_as (h1 w (Sees.refl w))
      rw [List.mapM_cons, g2, run_bind_ok hl, run_bind_ok k1]; rfl
    · simp only [relSL]; exact ⟨_, _, _, _, rfl, join_emp_left _, h2, k2⟩

theorem run_results {P : Program} {fn : Func} {regs : List AV} {Z : FP} {η : Nat → Value} {w : World} {n : Nat} {a : Act} {T : FP} (hR : relSL Z η w regs a.tmps.toList T) (hI : idsBL n regs)
    {K : List AV → Prop} (h : vcRes P regs fn.results.toList K) : ∃ vs azs, (results fn a.tmps).run P w = .ok (resV vs) w ∧ relSL Z η w azs vs (fun _ => False) ∧ idsBL n azs ∧ K azs := by
  unfold results
  obtain ⟨vs, azs, h1, h2⟩ := vcRes_ok hR hI (g := fun | .tmp t => pure (a.tmps.getD t undef) | .cell b t => do loadVar t (← asAddr (a.tmps.getD b undef))) (fun _ => rfl) (fun _ _ => rfl) fn.results.toList K h
  refine ⟨vs, azs, ?_, h2⟩
  rw [Array.mapM_eq_mapM_toList, map_eq_pure_bind]
  refine (run_bind_ok (x := vs.toArray) (w' := w) ?_).trans ?_
  · exact (run_bind_ok h1).trans rfl
  · simp only [run_pure']
    congr 1
    match vs with
    | [] => rfl
    | [v] => rfl
    | v :: u :: vs => rfl

theorem undefs_rel (Z : FP) (η : Nat → Value) (w : World) : ∀ n, relSL Z η w (List.replicate n (.tup [])) (List.replicate n undef) (fun _ => False)
  | 0 => by simp [relSL, emp]
  | n + 1 => by
    simp only [List.replicate_succ, relSL]
    exact ⟨undef, _, _, _, rfl, join_emp_left _, undef_rel Z η w, undefs_rel Z η w n⟩
theorem undefs_ids (n : Nat) : ∀ N, idsBL n (List.replicate N (.tup []))
  | 0 => trivial
  | N + 1 => ⟨trivial, undefs_ids n N⟩
theorem idsBL_append {n : Nat} : ∀ (l1 l2 : List AV), idsBL n l1 → idsBL n l2 → idsBL n (l1 ++ l2)
  | [], l2, _, h2 => by simpa using h2
  | x :: l1, l2, h1, h2 => ⟨h1.1, idsBL_append l1 l2 h1.2 h2⟩

theorem vcFun_ok {G : GInv} {P : Program} {Γ : FuncId → Nat → Option Sig} {E : TypeId → Option ES} {ov : Bool} {f : FuncId} {fn : Func} {c : Code} {S : Sig} {L : S.X → Nat → Option LS}
    (hfn : P.funcs[f]? = some fn) (hbody : fn.body = some c) (hname : (fn.name == "runtime.NumGoroutine") = false)
    (hΓ : ∀ f k S, Γ f k = some S → Contract G P f S) (h : ∀ x, S.pre x → vcFun P Γ E ov (L x) fn.ntmps fn.results.toList c S x) : Contract G P f S := by
  refine ⟨⟨⟨fn, hfn, hname, by simp [hbody]⟩, fun x y hx hy => ?_⟩, ?_⟩
  · have h := h x hx
    unfold vcFun at h
    split at h
    · have h := h.1
      unfold keepOk at h ⊢
      split
      · trivial
      · rename_i hk; rw [hk] at h; exact h y hy
    · exact h.elim
  intro x hpre Z w vals A hG hargs hA
  have h := h x hpre
  unfold vcFun at h
  split at h
  rotate_left
  · exact h.elim
  · rename_i hN hd
    have hvc := h.2
    have hN := Nat.le_of_ble_eq_true hN
    have hvl : vals.length = (S.args x).length := rel0L_len _ _ _ hargs
    refine calls_of_wp hfn hbody ?_
    let a0 : Act := { tmps := vals.toArray ++ Array.replicate (fn.ntmps - vals.toArray.size) undef, defers := [] }
    have hsz : a0.tmps.size = fn.ntmps := by simp [a0]; omega
    obtain ⟨p1, p2, η1, p3, p4⟩ := stampL_ok (S.args x) 0 vals A (fun _ => undef) hargs
    have hst := p4 η1 (fun _ _ => rfl)
    let C : Ctx := ⟨w, Z, A, G, hG, fun b hb => (hA b hb).1⟩
    have hinit : Rel C (initSt fn.ntmps (S.args x)) a0 w := by
      refine ⟨η1, Z, A, ⟨rfl, ?_, idsBL_append _ _ p2 (undefs_ids _ _), fun b hb => ⟨(hA b hb).1, (hA b hb).2, fun _ => hb⟩, ⟨rfl, rfl, rfl, Nat.le_refl _, fun b _ _ => ⟨rfl, Iff.rfl⟩⟩⟩⟩
      have := relSL_append _ _ _ _ _ _ A hst (undefs_rel Z η1 w (fn.ntmps - (S.args x).length)) (join_emp_right A)
      simpa [initSt, a0, hvl] using this
    refine vcCode_ok (C := C) hΓ (js := fixJ S x) (a0 := a0) (E := E) (ov := ov) c (L x) _ _ _ a0 w (by rw [hsz]; exact hvc) hd hinit ⟨rfl, fun _ _ => rfl⟩ ?_
    intro e s' a' w' hk hr hf
    have fin : vcFin P S x fn.results.toList (S.args x).length s' → a'.defers = [] ∧ ∃ v, (results fn a'.tmps).run P w' = .ok v w' ∧ ∃ y v' Z' A', S.post x y ∧ Ending.returned v = .returned v' ∧ rel0L Z' w' (S.res x y :: S.outs x y) (v' :: vals) A' ∧ After Z w A Z' w' A' := by
      intro hfin
      obtain ⟨η, Z1, T, hi⟩ := hr
      obtain ⟨rvs, ras, hrun, hrr, hri, y, hpost, hh⟩ := run_results hi.rel hi.ids hfin
      split at hh
      rotate_left
      · exact hh.elim
      rename_i hout
      have hres : relS Z1 η w' (resAV ras) (resV rvs) (fun _ => False) := by
        match ras, rvs, hrr with
        | [], rvs, hrr =>
          simp only [relSL] at hrr
          rw [hrr.1]
          simp only [resAV, resV, relS]; exact ⟨[], rfl, by simp [relSL, emp]⟩
        | [r], rvs, hrr =>
          simp only [relSL] at hrr
          obtain ⟨v, cs', A, B, e, hj, h1, h2, h3⟩ := hrr
          subst h2; subst e
          have := (emp_of_join hj emp_false).1
          rw [emp_eq this] at h1
          exact h1
        | r :: q :: ras, rvs, hrr =>
          have hl := relSL_len _ _ _ hrr
          match rvs, hl with
          | v :: u :: rvs, _ => simp only [resAV, resV, relS]; exact ⟨_, rfl, hrr⟩
      have hresi : idsB s'.nx (resAV ras) := by
        match ras, hri with
        | [], hri => exact hri
        | [r], hri => exact hri.1
        | r :: q :: ras, hri => simp only [resAV, idsB]; exact hri
      have hactual : relSL Z1 η w' (resAV ras :: (List.range (S.args x).length).map fun j => opAV s'.regs (.tmp j))
          (resV rvs :: (List.range (S.args x).length).map fun j => a'.eval (.tmp j)) (fun _ => False) := by
        simp only [relSL]
        refine ⟨_, _, _, _, rfl, join_emp_left _, hres, ?_⟩
        have : ∀ l : List Nat, relSL Z1 η w' (l.map fun j => opAV s'.regs (.tmp j)) (l.map fun j => a'.eval (.tmp j)) (fun _ => False) := by
          intro l
          induction l with
          | nil => simp [relSL, emp]
          | cons t ts ih =>
            simp only [List.map_cons, relSL]
            exact ⟨_, _, _, _, rfl, join_emp_left _, opAV_rel hi.rel (.tmp t), ih⟩
        exact this _
      have hactuali : idsBL s'.nx (resAV ras :: (List.range (S.args x).length).map fun j => opAV s'.regs (.tmp j)) := by
        refine ⟨hresi, ?_⟩
        have : ∀ l : List Nat, idsBL s'.nx (l.map fun j => opAV s'.regs (.tmp j)) := by
          intro l
          induction l with
          | nil => trivial
          | cons t ts ih => exact ⟨opAV_ids hi.ids (.tmp t), ih⟩
        exact this _
      obtain ⟨Z2, A', B', r', ho⟩ := handL_ok _ s'.regs _ _ hh Z1 a'.tmps.toList _ T (fun _ => False) T hi.rel hi.ids hactual hactuali (join_emp_left T)
      refine ⟨hi.defers, _, hrun, y, _, Z2, A', hpost, rfl, ?_, ?_⟩
      · have hgot := ho.got
        simp only [rel0L] at hgot ⊢
        obtain ⟨v', us', A1, A2, e1, hj, h1, h2⟩ := hgot
        simp only [List.cons.injEq] at e1
        obtain ⟨rfl, rfl⟩ := e1
        refine ⟨_, vals, A1, A2, rfl, hj, h1, outs_fix 0 _ vals _ A2 hout (by simp [hvl]) (fun i hil0 hb => ?_) h2⟩
        have hil : i < (S.args x).length := by omega
        have hfix := hf.2 i (by simpa using hb)
        have hav : a0.tmps[i]? = vals[i]? := by
          simp only [a0]
          rw [Array.getElem?_append_left (by simp; omega)]
          simp
        have hvi : vals[i]? = some vals[i] := by simp
        simp only [List.getElem?_map, List.getElem?_range hil, Option.map_some, Act.eval]
        rw [hav, hvi] at hfix
        simp [Array.getD_eq_getD_getElem?, hfix, hvi]
      · refine ⟨hi.ok.os, hi.ok.tape, hi.ok.output, hi.ok.size, fun b hb hn => ?_, fun b hb => ?_⟩
        · obtain ⟨g1, g2⟩ := hi.ok.old b hb hn
          refine ⟨g1, fun h => g2.1 (ho.zz b h), fun h => Classical.byContradiction fun hn2 => ?_⟩
          have hT := ho.gone b (g2.2 h) hn2
          exact hn ((hi.own b hT).2.2 hb)
        · have hT := ho.part b (.inl hb)
          exact ⟨ho.ownA b hb (hi.own b hT).1, (hi.own b hT).2.1, (hi.own b hT).2.2⟩
    cases e with
    | normal => exact fin hk
    | exit id => exact hk.elim
    | ret => exact fin hk

/- contracts by a list -/
def Γof : List (Nat × Nat × Sig) → FuncId → Nat → Option Sig
  | [], _, _ => none
  | (g, k, S) :: l, f, j => match Nat.beq g f, Nat.beq k j with
    | true, true => some S
    | _, _ => Γof l f j
def AllC (G : GInv) (P : Program) : List (Nat × Nat × Sig) → Prop
  | [] => True
  | (g, _, S) :: l => Contract G P g S ∧ AllC G P l
theorem Γof_ok {G : GInv} {P : Program} : ∀ {l : List (Nat × Nat × Sig)}, AllC G P l → ∀ f k S, Γof l f k = some S → Contract G P f S
  | [], _, f, k, S, h => by simp [Γof] at h
  | (g, j, S') :: l, ha, f, k, S, h => by
    unfold Γof at h
    split at h
    · rename_i hb _
      simp only [Option.some.injEq] at h; subst h
      rw [← Nat.eq_of_beq_eq_true hb]; exact ha.1
    · exact Γof_ok ha.2 f k S h
def Lof : List (Nat × LS) → Nat → Option LS
  | [], _ => none
  | (g, S) :: l, f => match Nat.beq g f with
    | true => some S
    | false => Lof l f
def Eof : List (Nat × ES) → TypeId → Option ES
  | [], _ => none
  | (g, S) :: l, f => match Nat.beq g f with
    | true => some S
    | false => Eof l f
theorem bcase_intro {b : Bool} {p q : Prop} (h1 : b = true → p) (h2 : b = false → q) : bcase b p q := by
  cases b
  · exact h2 rfl
  · exact h1 rfl

end Go.Eng
end
section
/- The data of the program: nodes, numbers, texts. -/
set_option linter.unusedVariables false
namespace Go.My
open Go.Eng

structure Nd where
  kind : Int
  text : List UInt8
  kids : List Int
  blank : Bool

def intA : Int → List AV := fun n => [.int .i64 n]
def strA : List UInt8 → List AV := fun s => [.str s]
def boolA : Bool → List AV := fun b => [.bool b]
def ints (l : List Int) : AV := .sl false 0 1 Int intA l
def oints (l : List Int) : AV := .sl true 0 1 Int intA l
def ndA (o : Bool) : Nd → List AV := fun x => [.int .i64 x.kind, .str x.text, .sl o 0 1 Int intA x.kids, .bool x.blank]
def nds (l : List Nd) : AV := .sl false 0 4 Nd (ndA false) l
def onds (l : List Nd) : AV := .sl true 0 4 Nd (ndA true) l

def beqNd (a b : Nd) : Bool := a.kind == b.kind && (a.text == b.text && (a.kids == b.kids && a.blank == b.blank))
def beqNds : List Nd → List Nd → Bool
  | [], [] => true
  | a :: azs, b :: bs => beqNd a b && beqNds azs bs
  | _, _ => false
theorem beqNd_eq {a b : Nd} : beqNd a b = true ↔ a = b := by
  cases a; cases b; simp [beqNd]
theorem beqNds_eq : ∀ {a b : List Nd}, beqNds a b = true ↔ a = b
  | [], [] => by simp [beqNds]
  | [], _ :: _ => by simp [beqNds]
  | _ :: _, [] => by simp [beqNds]
  | a :: azs, b :: bs => by simp [beqNds, beqNd_eq, beqNds_eq (a := azs) (b := bs)]
theorem beqNds_false {a b : List Nd} (h : a ≠ b) : false = beqNds a b := by
  cases hb : beqNds a b
  · rfl
  · exact (h (beqNds_eq.1 hb)).elim
theorem beqNds_true {a b : List Nd} (h : a = b) : true = beqNds a b := (beqNds_eq.2 h).symm
theorem beqNds_self (a : List Nd) : beqNds a a = true := beqNds_eq.2 rfl
theorem beqNd_self (a : Nd) : beqNd a a = true := beqNd_eq.2 rfl

/- what is no greater than memory bears -/
def smallNd (x : Nd) : Prop := x.text.length < 2 ^ 63 ∧ x.kids.length < 2 ^ 63
def smallNds (l : List Nd) : Prop := l.length < 2 ^ 63 ∧ ∀ x ∈ l, smallNd x

/- what is left of a budget -/
def szInts (l : List Int) (left : Int) : Int := if left - l.length < 0 then -1 else left - l.length
def szNd (x : Nd) (left : Int) : Int := if left - x.text.length < 0 then -1 else szInts x.kids (left - x.text.length)
def szAll : List Nd → Int → Int
  | [], left => left
  | x :: xs, left => if szNd x left < 0 then -1 else szAll xs (szNd x left)
def szNds (l : List Nd) (left : Int) : Int := if left - l.length < 0 then -1 else szAll l (left - l.length)

theorem ex_flip {α : Type} {p q : α → Prop} (x : α) (h2 : q x) (h1 : p x) : ∃ x, p x ∧ q x := ⟨x, h1, h2⟩
theorem ex_flip2 {α β : Type} {p q : α × β → Prop} (a : α) (b : β) (h2 : q (a, b)) (h1 : p (a, b)) : ∃ x, p x ∧ q x := ⟨_, h1, h2⟩
theorem ex_flip3 {α β γ : Type} {p q : α × β × γ → Prop} (a : α) (b : β) (c : γ) (h2 : q (a, b, c)) (h1 : p (a, b, c)) : ∃ x, p x ∧ q x := ⟨_, h1, h2⟩
theorem ex_flip4 {α β γ δ : Type} {p q : α × β × γ × δ → Prop} (a : α) (b : β) (c : γ) (d : δ) (h2 : q (a, b, c, d)) (h1 : p (a, b, c, d)) : ∃ x, p x ∧ q x := ⟨_, h1, h2⟩
theorem ex_flip5 {α β γ δ ε : Type} {p q : α × β × γ × δ × ε → Prop} (a : α) (b : β) (c : γ) (d : δ) (e : ε) (h2 : q (a, b, c, d, e)) (h1 : p (a, b, c, d, e)) : ∃ x, p x ∧ q x := ⟨_, h1, h2⟩
theorem ex_flip6 {α β γ δ ε ζ : Type} {p q : α × β × γ × δ × ε × ζ → Prop} (a : α) (b : β) (c : γ) (d : δ) (e : ε) (f : ζ) (h2 : q (a, b, c, d, e, f)) (h1 : p (a, b, c, d, e, f)) : ∃ x, p x ∧ q x := ⟨_, h1, h2⟩
theorem sl_eq {o : Bool} {id sz : Nat} {α : Type} {f : α → List AV} {l l' : List α} (h : l = l') : AV.sl o id sz α f l = AV.sl o id sz α f l' := by rw [h]
theorem bcase_dec {p : Prop} [Decidable p] {P Q : Prop} (h1 : p → P) (h2 : ¬ p → Q) : bcase (decide p) P Q :=
  bcase_intro (fun h => h1 (of_decide_eq_true h)) (fun h => h2 (of_decide_eq_false h))
theorem getE {α : Type} {l : List α} {n : Nat} {e : α} (h : l[n]? = some e) : ∃ h : n < l.length, l[n] = e := List.getElem?_eq_some_iff.1 h
theorem memE {α : Type} {l : List α} {n : Nat} {e : α} (h : l[n]? = some e) : e ∈ l := List.mem_of_getElem? h
theorem dropE {α : Type} {l : List α} {n : Nat} {e : α} (h : l[n]? = some e) : l.drop n = e :: l.drop (n + 1) := by
  obtain ⟨h1, h2⟩ := getE h
  rw [← h2]; exact List.drop_eq_getElem_cons h1
theorem takeE {α : Type} {l : List α} {n : Nat} {e : α} (h : l[n]? = some e) : l.take (n + 1) = l.take n ++ [e] := by
  rw [List.take_add_one, h]; rfl
def fillL {α : Type} (z : α) (x : List α) (i : Int) : List α := x.take i.toNat ++ List.replicate (x.length - i.toNat) z
theorem fillL_length {α : Type} {z : α} {x : List α} {i : Int} (h : i ≤ x.length) : (fillL z x i).length = x.length := by
  simp [fillL]; omega
theorem fillL_zero {α : Type} {z : α} {x : List α} : List.replicate (Int.toNat (x.length : Int)) z = fillL z x 0 := by simp [fillL]
theorem fillL_all {α : Type} {z : α} {x : List α} {i : Int} (h : (x.length : Int) ≤ i) : fillL z x i = x := by
  have h1 : x.length - i.toNat = 0 := by omega
  rw [fillL, h1, List.take_of_length_le (by omega)]; simp
theorem fillL_set {α : Type} {z : α} {x : List α} {i : Int} {e : α} (h0 : 0 ≤ i) (h : x[i.toNat]? = some e) : (fillL z x i).set i.toNat e = fillL z x (i + 1) := by
  obtain ⟨h1, h2⟩ := List.getElem?_eq_some_iff.1 h
  have e1 : (i + 1).toNat = i.toNat + 1 := by omega
  have e2 : x.length - i.toNat = (x.length - (i.toNat + 1)) + 1 := by omega
  have e3 : i.toNat - min i.toNat x.length = 0 := by omega
  rw [fillL, fillL, e1, e2, List.set_append_right, List.length_take, e3, List.replicate_succ, List.set_cons_zero, List.take_add_one, h]
  · simp
  · rw [List.length_take]; omega
theorem bcase_bne {α : Type} [BEq α] [LawfulBEq α] {a b : α} {P Q : Prop} (h1 : a ≠ b → P) (h2 : a = b → Q) : bcase (a != b) P Q :=
  bcase_intro (fun h => h1 (by simpa using h)) (fun h => h2 (by simpa using h))
theorem bcase_beq {α : Type} [BEq α] [LawfulBEq α] {a b : α} {P Q : Prop} (h1 : a = b → P) (h2 : a ≠ b → Q) : bcase (a == b) P Q :=
  bcase_intro (fun h => h1 (by simpa using h)) (fun h => h2 (by simpa using h))
theorem bcase_not {b : Bool} {P Q : Prop} (h1 : b = false → P) (h2 : b = true → Q) : bcase (!b) P Q :=
  bcase_intro (fun h => h1 (by simpa using h)) (fun h => h2 (by simpa using h))
theorem toNat1 {i : Int} (h : 0 ≤ i) : (i + 1).toNat = i.toNat + 1 := by omega
theorem takeEq {α : Type} {x y : List α} {i : Int} {e f : α} (h0 : 0 ≤ i) (ht : x.take i.toNat = y.take i.toNat) (h1 : x[i.toNat]? = some e) (h2 : y[i.toNat]? = some f) (he : e = f) :
    x.take (i + 1).toNat = y.take (i + 1).toNat := by
  rw [toNat1 h0, takeE h1, takeE h2, ht, he]
theorem takeAll {α : Type} {x y : List α} {i : Int} (hl : x.length = y.length) (ht : x.take i.toNat = y.take i.toNat) (h : (x.length : Int) ≤ i) : x = y := by
  rw [List.take_of_length_le (by omega), List.take_of_length_le (by omega)] at ht; exact ht
theorem beqE {α : Type} [BEq α] [LawfulBEq α] {x y : α} (h : x = y) : true = (x == y) := by simp [h]
theorem bneE {α : Type} [BEq α] [LawfulBEq α] {x y : α} (h : x ≠ y) : false = (x == y) := by simp [h]
def inR64 (n : Int) : Prop := -9223372036854775808 ≤ n ∧ n ≤ 9223372036854775807
theorem i64max : IntKind.i64.max = 9223372036854775807 := rfl
theorem inR_i64 {n : Int} (h1 : -9223372036854775808 ≤ n) (h2 : n ≤ 9223372036854775807) : inR .i64 n := by
  unfold inR; simp [IntKind.min, IntKind.max, IntKind.bits, IntKind.signed]; omega

theorem fz_nds {l : List Nd} : AV.sl false 0 4 Nd (fun x => fzL (ndA true x)) l = AV.sl false 0 4 Nd (ndA false) l := rfl
/- what the laws' budget gives -/
theorem szInts_bd {l : List Int} {n : Int} (h : ¬ szInts l n < 0) : (l.length : Int) ≤ n := by
  unfold szInts at h; split at h <;> omega
theorem szInts_mono {l : List Int} {n : Int} (h : -1 ≤ n) : -1 ≤ szInts l n ∧ szInts l n ≤ n := by
  unfold szInts; split <;> omega
theorem szNd_mono {l : Nd} {n : Int} (h : -1 ≤ n) : -1 ≤ szNd l n ∧ szNd l n ≤ n := by
  unfold szNd; split
  · omega
  · have := @szInts_mono l.kids (n - l.text.length) (by omega); omega
theorem szNd_bd {x : Nd} {n : Int} (h : ¬ szNd x n < 0) : (x.text.length : Int) ≤ n ∧ (x.kids.length : Int) ≤ n := by
  unfold szNd at h; split at h
  · omega
  · have := szInts_bd h; omega
theorem szAll_mono : ∀ {l : List Nd} {n : Int}, -1 ≤ n → -1 ≤ szAll l n ∧ szAll l n ≤ n
  | [], n, h => ⟨h, Int.le_refl _⟩
  | x :: l, n, h => by
    unfold szAll; split
    · omega
    · have h1 := @szNd_mono x n h
      have h2 := @szAll_mono l (szNd x n) (by omega)
      omega
theorem szNds_mono {l : List Nd} {n : Int} (h : -1 ≤ n) : -1 ≤ szNds l n ∧ szNds l n ≤ n := by
  unfold szNds; split
  · omega
  · have := @szAll_mono l (n - l.length) (by omega); omega
theorem szAll_bd : ∀ {l : List Nd} {n : Int}, -1 ≤ n → ¬ szAll l n < 0 → ∀ e ∈ l, (e.text.length : Int) ≤ n ∧ (e.kids.length : Int) ≤ n
  | [], n, _, _, e, he => by cases he
  | x :: l, n, h0, h, e, he => by
    unfold szAll at h; split at h
    · omega
    · rename_i hx
      have h1 := @szNd_mono x n h0
      rcases List.mem_cons.1 he with rfl | he
      · exact szNd_bd hx
      · have := szAll_bd (by omega) h e he; omega
theorem szNds_bd {l : List Nd} {n : Int} (h0 : -1 ≤ n) (h : ¬ szNds l n < 0) : (l.length : Int) ≤ n ∧ ∀ e ∈ l, (e.text.length : Int) ≤ n ∧ (e.kids.length : Int) ≤ n := by
  unfold szNds at h; split at h
  · omega
  · have h1 := @szAll_mono l (n - l.length) (by omega)
    refine ⟨by omega, fun e he => ?_⟩
    have := szAll_bd (by omega) h e he; omega
theorem gB1 {l : List Nd} (h : ¬ szNds l 1048576 < 0) : l.length < 2 ^ 63 := by have := (szNds_bd (by omega) h).1; omega
theorem gB2 {l : List Nd} (h : ¬ szNds l 1048576 < 0) {e : Nd} (he : e ∈ l) : e.text.length ≤ 2 ^ 40 := by have := (szNds_bd (by omega) h).2 e he; omega
theorem gB3 {l : List Nd} (h : ¬ szNds l 1048576 < 0) : l.length ≤ 2 ^ 30 := by have := (szNds_bd (by omega) h).1; omega
theorem gB4 {l : List Nd} (h : ¬ szNds l 1048576 < 0) {e : Nd} (he : e ∈ l) : e.kids.length ≤ 2 ^ 30 := by have := (szNds_bd (by omega) h).2 e he; omega
theorem gB5 {l : List Nd} {m : List Int} (h : ¬ szInts m (szNds l 1048576) < 0) : m.length ≤ 2 ^ 30 := by
  have h1 := szInts_bd h
  have h2 := @szNds_mono l 1048576 (by omega)
  omega
theorem gB6 {l : List Nd} (h : ¬ szNds l 1048576 < 0) : smallNds l := by
  refine ⟨gB1 h, fun e he => ?_⟩
  have h1 := gB2 h he; have h2 := gB4 h he
  unfold smallNd; omega
theorem gB7 {l : List Nd} : szNds l 1048576 ≤ 2 ^ 50 := by have := @szNds_mono l 1048576 (by omega); omega
theorem gB8 {l : List Nd} : -1 ≤ szNds l 1048576 := (@szNds_mono l 1048576 (by omega)).1
end Go.My
end
section
/- Bytes and signs, plainly. -/
set_option linter.unusedVariables false
set_option linter.unusedSimpArgs false
namespace Go.My
open Go.Eng

def isFig (c : UInt8) : Bool := decide (48 ≤ c.toNat) && decide (c.toNat ≤ 57)
def isFst (c : UInt8) : Bool := (decide (97 ≤ c.toNat) && decide (c.toNat ≤ 122)) || ((decide (65 ≤ c.toNat) && decide (c.toNat ≤ 90)) || decide (c.toNat = 95))
def isInn (c : UInt8) : Bool := isFst c || isFig c
def isPln (c : UInt8) : Bool := decide (32 ≤ c.toNat) && decide (c.toNat ≤ 126)
def isNl (c : UInt8) : Bool := decide (c.toNat = 10)
def notNl (c : UInt8) : Bool := decide (c.toNat ≠ 10)
theorem u8_ext {a b : UInt8} (h : a.toNat = b.toNat) : a = b := UInt8.toNat_inj.1 h
theorem u8_lt (a : UInt8) : a.toNat < 256 := UInt8.toNat_lt a

def kw (s : List UInt8) : Bool := s == [99,108,97,115,115] || (s == [118,97,114] || (s == [105,102] || (s == [101,108,115,101] || (s == [119,104,105,108,101] || s == [114,101,116,117,114,110]))))
def mk2 (s : List UInt8) : Bool := s == [38,38] || (s == [124,124] || (s == [61,61] || (s == [61,62] || s == [46,46])))
def mk1 : List UInt8 := [40,41,123,125,91,93,59,44,46,61,43,45,42,60,63,58]
def markOk (s : List UInt8) : Bool := mk2 s || match s with
  | [c] => mk1.elem c
  | _ => false

/- where a byte first stands -/
def idxOf (p : UInt8 → Bool) : List UInt8 → Option Nat
  | [] => none
  | c :: s => if p c then some 0 else (idxOf p s).map (· + 1)
def trimR (s : List UInt8) : List UInt8 := (s.reverse.dropWhile (fun c => decide (c.toNat = 32))).reverse
def quoted (s : List UInt8) : List UInt8 × Bool := match idxOf (fun c => decide (c.toNat = 39)) (s.drop 1) with
  | none => ([], false)
  | some i => (s.take (i + 2), (s.take (i + 2)).all isPln)
structure SgR where
  kind : Int
  text : List UInt8
  size : Int
  ok : Bool
def sgAt (s : List UInt8) : SgR := match s with
  | [] => ⟨0, [], 0, false⟩
  | b :: _ =>
    if isFst b then ⟨1, s.takeWhile isInn, (s.takeWhile isInn).length, decide ((s.takeWhile isInn).length ≤ 30)⟩
    else if isFig b then ⟨2, s.takeWhile isFig, (s.takeWhile isFig).length, decide ((s.takeWhile isFig).length ≤ 12)⟩
    else if b.toNat = 39 then ⟨3, (quoted s).1, (quoted s).1.length, (quoted s).2⟩
    else if s.take 2 = [47, 47] then ⟨5, trimR (s.takeWhile notNl), (s.takeWhile notNl).length, (s.takeWhile notNl).all isPln⟩
    else if markOk (s.take 2) then ⟨4, s.take 2, (s.take 2).length, true⟩
    else if markOk (s.take 1) then ⟨4, s.take 1, 1, true⟩
    else ⟨0, [], 0, false⟩
def isSgn (s : List UInt8) (k : Int) : Bool := !(s == []) && ((sgAt s).ok && (decide ((sgAt s).kind = k) && ((sgAt s).text == s && decide ((sgAt s).size = s.length))))

def nameOk (s : List UInt8) : Bool := isSgn s 1 && !kw s
def chainOk (s : List UInt8) : Bool := s == [38,38] || (s == [124,124] || (s == [61,61] || (s == [60] || (s == [43] || (s == [45] || s == [42])))))
def textOk (k : Int) (s : List UInt8) : Bool :=
  if k = 1 ∨ k = 6 ∨ k = 12 ∨ k = 13 ∨ k = 20 ∨ k = 21 then nameOk s
  else if k = 2 then isSgn s 2
  else if k = 3 then isSgn s 3
  else if k = 19 then isSgn s 5
  else if k = 7 then chainOk s
  else s == []

/- takeWhile and take -/
theorem takeWhile_take {p : UInt8 → Bool} : ∀ {s : List UInt8} {n : Nat}, (∀ e ∈ s.take n, p e = true) → (s.length ≤ n ∨ ∃ e, s[n]? = some e ∧ p e = false) → s.take n = s.takeWhile p
  | [], n, _, _ => by simp
  | c :: s, 0, _, h => by
    rcases h with h | ⟨e, he, hp⟩
    · simp at h
    · simp at he; subst he; simp [List.takeWhile, hp]
  | c :: s, n + 1, ha, h => by
    have hc : p c = true := ha c (by simp)
    rw [List.take_succ_cons, List.takeWhile_cons, if_pos hc, takeWhile_take (fun e he => ha e (by simp [he]))]
    rcases h with h | ⟨e, he, hp⟩
    · exact .inl (by simpa using h)
    · exact .inr ⟨e, by simpa using he, hp⟩
theorem all_take_succ {p : UInt8 → Bool} {s : List UInt8} {n : Nat} {e : UInt8} (h : ∀ e ∈ s.take n, p e = true) (he : s[n]? = some e) (hp : p e = true) : ∀ e ∈ s.take (n + 1), p e = true := by
  rw [takeE he]; intro x hx
  rcases List.mem_append.1 hx with hx | hx
  · exact h x hx
  · simp at hx; subst hx; exact hp
theorem all_of_take {p : UInt8 → Bool} {s : List UInt8} {n : Nat} (h : ∀ e ∈ s.take n, p e = true) (hn : s.length ≤ n) : s.all p = true := by
  rw [List.take_of_length_le hn] at h; exact List.all_eq_true.2 h
theorem not_all {p : UInt8 → Bool} {s : List UInt8} {n : Nat} {e : UInt8} (he : s[n]? = some e) (hp : p e = false) : s.all p = false := by
  rw [Bool.eq_false_iff]; intro h
  rw [List.all_eq_true.1 h e (List.mem_of_getElem? he)] at hp; cases hp
theorem takeWhile_eq_self {p : UInt8 → Bool} {s : List UInt8} : s.takeWhile p = s ↔ s.all p = true := by
  constructor
  · intro h; rw [← h]; exact List.all_takeWhile
  · intro h; induction s with
    | nil => rfl
    | cons c s ih =>
      simp only [List.all_cons, Bool.and_eq_true] at h
      rw [List.takeWhile_cons, if_pos h.1, ih h.2]
theorem idxOf_none {p : UInt8 → Bool} : ∀ {s : List UInt8}, idxOf p s = none ↔ ∀ e ∈ s, p e = false
  | [] => by simp [idxOf]
  | c :: s => by
    unfold idxOf
    by_cases h : p c = true
    · simp [h]
    · simp [h, idxOf_none (s := s)]
theorem idxOf_some {p : UInt8 → Bool} : ∀ {s : List UInt8} {i : Nat}, idxOf p s = some i ↔ (∀ e ∈ s.take i, p e = false) ∧ ∃ e, s[i]? = some e ∧ p e = true
  | [], i => by simp [idxOf]
  | c :: s, i => by
    unfold idxOf
    by_cases h : p c = true
    · cases i with
      | zero => simp [h]
      | succ i => simp [h]
    · cases i with
      | zero => simp [h]
      | succ i =>
        simp only [h, Bool.false_eq_true, if_false, Option.map_eq_some_iff]
        constructor
        · rintro ⟨j, hj, e⟩
          obtain rfl : j = i := by omega
          obtain ⟨h1, h2⟩ := idxOf_some.1 hj
          refine ⟨?_, by simpa using h2⟩
          intro e he; simp at he
          rcases he with rfl | he
          · simpa using h
          · exact h1 e he
        · rintro ⟨h1, h2⟩
          exact ⟨i, idxOf_some.2 ⟨fun e he => h1 e (by simp [he]), by simpa using h2⟩, rfl⟩
end Go.My
end
section
/- Trees, plainly. -/
set_option linter.unusedVariables false
set_option linter.unusedSimpArgs false
namespace Go.My
open Go.Eng

def inn (x a b : Int) : Bool := decide (a ≤ x) && decide (x ≤ b)
def isNd (l : List Nd) (k : Int) : Bool := decide (0 ≤ k) && decide (k < l.length)
def isVal (k : Int) : Bool := inn k 1 11
def isStep (k : Int) : Bool := inn k 12 17
def isMem (k : Int) : Bool := decide (k = 12) || (decide (k = 20) || decide (k = 19))
def isBlk (k : Int) : Bool := decide (k = 18)
def isNm (k : Int) : Bool := decide (k = 1)
def isCl (k : Int) : Bool := decide (k = 5)
def isSt (k : Int) : Bool := isStep k || decide (k = 19)
def isTop (k : Int) : Bool := isMem k || decide (k = 21)
def lastIs (p : Int → Bool) (ks : List Int) : Bool := match ks.getLast? with
  | some k => p k && ks.dropLast.all isNm
  | none => false
def kindsOk (k : Int) (ks : List Int) : Bool :=
  if k = 1 ∨ k = 2 ∨ k = 3 ∨ k = 19 then decide (ks.length = 0)
  else if k = 4 then ks.all isVal
  else if k = 5 then decide (1 ≤ ks.length) && ks.all isVal
  else if k = 7 then decide (2 ≤ ks.length) && ks.all isVal
  else if k = 8 then decide (ks.length = 3) && ks.all isVal
  else if k = 6 ∨ k = 11 ∨ k = 13 ∨ k = 14 then decide (ks.length = 1) && ks.all isVal
  else if k = 12 ∨ k = 15 then decide (ks.length ≤ 1) && ks.all isVal
  else if k = 9 then lastIs isVal ks
  else if k = 10 then decide (2 ≤ ks.length) && (isVal (ks.headD 0) && (ks.drop 1).all isCl)
  else if k = 16 then (decide (2 ≤ ks.length) && decide (ks.length ≤ 3)) && (isVal (ks.headD 0) && (ks.drop 1).all isBlk)
  else if k = 17 then decide (ks.length = 2) && (isVal (ks.headD 0) && isBlk (ks.getD 1 0))
  else if k = 18 then ks.all isSt
  else if k = 20 then lastIs isBlk ks
  else if k = 21 then ks.all isMem
  else if k = 22 then ks.all isTop
  else false
def ndAt (ns : List Nd) (c : Int) : Nd := ns.getD c.toNat ⟨0, [], [], false⟩
def kindAt (ns : List Nd) (c : Int) : Int := (ndAt ns c).kind
/- a call among the kids -/
def callOk (ns : List Nd) (x : Nd) (i : Nat) (c : Int) : Bool :=
  let y := ndAt ns c
  if y.kind = 5 then match y.kids with
    | [] => false
    | h :: _ => isNd ns h && !(decide (x.kind = 10) && (decide (0 < i) && !decide (kindAt ns h = 1)))
  else true
def callsOk (ns : List Nd) (x : Nd) : Bool := (x.kids.zipIdx).all fun p => callOk ns x p.2 p.1
def kidsIn (l : List Int) (k : Int) : Bool := l.all fun c => decide (0 ≤ c) && decide (c < k)
def nodupB : List Int → Bool
  | [] => true
  | c :: l => nodupB l && !l.elem c
def mayBlank (k : Int) : Bool := isStep k || (isMem k || decide (k = 21))
def nodeOk1 (ns : List Nd) (k : Int) (x : Nd) : Bool :=
  decide (x.kids.length ≤ 12) && (textOk x.kind x.text && ((kidsIn x.kids k && decide x.kids.Nodup) && (kindsOk x.kind (x.kids.map (kindAt ns)) && (callsOk ns x && (mayBlank x.kind || !x.blank)))))
def nodeOk (ns : List Nd) (k : Int) : Bool := isNd ns k && nodeOk1 ns k (ndAt ns k)

/- how deep -/
def mx (ds : List Int) : List Int → Int → Int
  | [], d => d
  | c :: l, d => mx ds l (max d (ds.getD c.toNat 0))
def deeps (ns : List Nd) : Nat → Option (List Int)
  | 0 => some []
  | n + 1 => match deeps ns n with
    | none => none
    | some ds => if nodeOk ns n then (if 14 ≤ mx ds (ndAt ns n).kids 0 then none else some (ds ++ [mx ds (ndAt ns n).kids 0 + 1])) else none
def deepOf (ns : List Nd) (k : Int) : Int := if isNd ns k then match deeps ns (k.toNat + 1) with
    | none => 0
    | some ds => ds.getD k.toNat 0
  else 0
def allKids (ns : List Nd) : List Int := ns.flatMap (·.kids)
def treeOk (ns : List Nd) : Bool :=
  (decide (1 ≤ ns.length) && decide (ns.length ≤ 300)) && (decide (kindAt ns (ns.length - 1) = 22) && (!decide (deepOf ns (ns.length - 1) = 0) && ((List.range (ns.length - 1)).all fun i => decide ((allKids ns).count (i : Int) = 1))))

theorem isNd_iff {l : List Nd} {k : Int} : isNd l k = true ↔ 0 ≤ k ∧ k < l.length := by simp [isNd]
theorem ndAt_of {ns : List Nd} {c : Int} {x : Nd} (h : ns[c.toNat]? = some x) : ndAt ns c = x := by
  simp [ndAt, List.getD, h]
theorem mx_ge (ds : List Int) : ∀ (l : List Int) (d : Int), d ≤ mx ds l d
  | [], d => Int.le_refl d
  | c :: l, d => by unfold mx; have := mx_ge ds l (max d (ds.getD c.toNat 0)); omega
theorem deeps_length {ns : List Nd} : ∀ {n : Nat} {ds : List Int}, deeps ns n = some ds → ds.length = n
  | 0, ds, h => by cases h; rfl
  | n + 1, ds, h => by
    unfold deeps at h
    split at h
    · cases h
    · rename_i ds' hd
      split at h
      · split at h
        · cases h
        · simp at h; rw [← h]; simp [deeps_length hd]
      · cases h
theorem deeps_pos {ns : List Nd} : ∀ {n : Nat} {ds : List Int}, deeps ns n = some ds → ∀ d ∈ ds, 1 ≤ d ∧ d ≤ 14
  | 0, ds, h => by cases h; simp
  | n + 1, ds, h => by
    unfold deeps at h
    split at h
    · cases h
    · rename_i ds' hd
      split at h
      · split at h
        · cases h
        · simp at h; rw [← h]
          intro d hdm
          rcases List.mem_append.1 hdm with hdm | hdm
          · exact deeps_pos hd d hdm
          · simp at hdm
            have := mx_ge ds' (ndAt ns n).kids 0
            omega
      · cases h
theorem deeps_ok {ns : List Nd} : ∀ {n : Nat} {ds : List Int}, deeps ns n = some ds → ∀ i, i < n → nodeOk ns i = true
  | 0, ds, h, i, hi => by omega
  | n + 1, ds, h, i, hi => by
    unfold deeps at h
    split at h
    · cases h
    · rename_i ds' hd
      split at h
      · rename_i hok
        by_cases e : i = n
        · subst e; exact hok
        · exact deeps_ok hd i (by omega)
      · cases h
theorem deeps_none_le {ns : List Nd} {n m : Nat} (h : deeps ns n = none) (hm : n ≤ m) : deeps ns m = none := by
  induction m with
  | zero => obtain rfl : n = 0 := by omega
            exact h
  | succ m ih =>
    by_cases e : n = m + 1
    · subst e; exact h
    · unfold deeps; rw [ih (by omega)]
theorem deepOf_pos {ns : List Nd} {k : Int} (h : deepOf ns k ≠ 0) : isNd ns k = true ∧ (∃ ds, deeps ns (k.toNat + 1) = some ds) ∧ ∀ i : Nat, (i : Int) ≤ k → nodeOk ns i = true := by
  unfold deepOf at h
  split at h
  · rename_i hn
    split at h
    · exact (h rfl).elim
    · rename_i ds hd
      exact ⟨hn, ⟨ds, hd⟩, fun i hi => deeps_ok hd i (by have := isNd_iff.1 hn; omega)⟩
  · exact (h rfl).elim
theorem deepOf_nonneg {ns : List Nd} {k : Int} : 0 ≤ deepOf ns k := by
  unfold deepOf
  split
  · split
    · exact Int.le_refl 0
    · rename_i ds hd
      rw [List.getD]
      cases h : ds[k.toNat]? with
      | none => simp
      | some d => have := deeps_pos hd d (List.mem_of_getElem? h); simp; omega
  · exact Int.le_refl 0
theorem deepOf_ne {ns : List Nd} {k : Int} {ds : List Int} (hn : isNd ns k = true) (h : deeps ns (k.toNat + 1) = some ds) : deepOf ns k ≠ 0 := by
  unfold deepOf
  rw [if_pos hn, h]
  have hl := deeps_length h
  have : ds[k.toNat]? = some ds[k.toNat] := by simp
  simp only [List.getD, this, Option.getD_some]
  have := deeps_pos h ds[k.toNat] (by simp)
  omega
theorem nodeOk_parts {ns : List Nd} {k : Int} (h : nodeOk ns k = true) : (0 ≤ k ∧ k < ns.length) ∧ (ndAt ns k).kids.length ≤ 12 ∧ textOk (ndAt ns k).kind (ndAt ns k).text = true ∧
    (∀ c ∈ (ndAt ns k).kids, 0 ≤ c ∧ c < k) ∧ (ndAt ns k).kids.Nodup ∧ kindsOk (ndAt ns k).kind ((ndAt ns k).kids.map (kindAt ns)) = true ∧ callsOk ns (ndAt ns k) = true := by
  simp only [nodeOk, nodeOk1, Bool.and_eq_true, decide_eq_true_eq, kidsIn, List.all_eq_true] at h
  exact ⟨isNd_iff.1 h.1, h.2.1, h.2.2.1, h.2.2.2.1.1, h.2.2.2.1.2, h.2.2.2.2.1, h.2.2.2.2.2.1⟩
end Go.My
end
section
/- A few functions of Go's library. -/
set_option linter.unusedVariables false
set_option linter.unusedSimpArgs false
namespace Go.My
open Go.Eng Go.Proofs Go.RowKit
variable {G : GInv}

def idxI (s : List UInt8) (c : UInt8) : Int := match idxOf (fun d => decide (d.toNat = c.toNat)) s with
  | none => -1
  | some i => i
theorem indexByte_eq : ∀ (s : List UInt8) (c : UInt8), Lib.indexByte s c = idxI s c
  | [], c => rfl
  | b :: s, c => by
    unfold Lib.indexByte idxI idxOf
    have e : (b == c) = decide (b.toNat = c.toNat) := by
      rw [Bool.eq_iff_iff]; simp [UInt8.toNat_inj]
    rw [e]
    by_cases h : b.toNat = c.toNat
    · simp [h]
    · have ih := indexByte_eq s c
      unfold idxI at ih
      simp only [h, decide_false, Bool.false_eq_true, if_false]
      rw [ih]
      cases hh : idxOf (fun d => decide (d.toNat = c.toNat)) s with
      | none => simp
      | some i => simp
set_option maxHeartbeats 1000000 in
set_option maxRecDepth 100000 in
theorem idxByte_calls (s : ByteArray) (c : Int) (w : World) :
    Calls Tryz.prog 274 #[.string s, .int .u8 c] w fun e w' => e = .returned (.int .i64 (Lib.indexByte s.data.toList c.toNat.toUInt8)) ∧ w' = w := by
  go_enter Tryz.func274, Tryz.ntmps274
  go_wp2
  rw [run_callFunc_extern Tryz.func280 (by kernel_rfl) (by kernel_rfl) (by kernel_rfl) (e := Extern.BytealgIndexByte.indexByte) (by kernel_rfl), Lib.run_indexByteString]
  simp only [Result.andThen]
  rw [Oper.upon_value]
  go_wp2
  go_ret
  exact ⟨rfl, rfl⟩
def s_idxB : Sig := { X := List UInt8 × UInt8, args := fun x => [.str x.1, .int .u8 x.2.toNat], pre := fun _ => True, Y := Unit, post := fun _ _ => True, res := fun x _ => .int .i64 (idxI x.1 x.2), outs := fun _ _ => [.top, .top], keep := false }
theorem idxB_ok : Contract G Tryz.prog 274 s_idxB := by
  refine ⟨⟨⟨_, Tryz.func274, by kernel_rfl, by kernel_rfl⟩, fun x y _ _ => ⟨trivial, trivial, trivial, trivial⟩⟩, ?_⟩
  rintro ⟨l, c⟩ _ Z w vals A _ h hA
  simp only [s_idxB, rel0L, rel0] at h
  obtain ⟨v, cs, A1, A2, rfl, _, ⟨rfl, _⟩, v', cs', A3, A4, rfl, _, ⟨rfl, _⟩, rfl, _⟩ := h
  refine (idxByte_calls ⟨l.toArray⟩ c.toNat w).mono ?_
  rintro e w' ⟨rfl, rfl⟩
  refine ⟨(), _, Z, (fun _ => False), trivial, rfl, ?_, ⟨rfl, rfl, rfl, Nat.le_refl _, fun _ _ _ => ⟨rfl, Iff.rfl⟩, fun _ h => h.elim⟩⟩
  simp only [s_idxB, rel0L, rel0]
  refine ⟨_, _, _, _, rfl, join_emp_left _, ⟨?_, emp_false⟩, _, _, _, _, rfl, join_emp_left _, emp_false, _, _, _, _, rfl, join_emp_left _, emp_false, rfl, emp_false⟩
  rw [indexByte_eq]; simp
def s_idxQ : Sig := { X := List UInt8, args := fun x => [.str x, .int .u8 39], pre := fun _ => True, Y := Unit, post := fun _ _ => True, res := fun x _ => .int .i64 (idxI x 39), outs := fun _ _ => [.top, .top], keep := false }
theorem idxQ_ok : Contract G Tryz.prog 274 s_idxQ := ⟨⟨(idxB_ok (G := G)).1.1, fun x y _ _ => ⟨trivial, trivial, trivial, trivial⟩⟩, fun x hx => (idxB_ok (G := G)).2 (x, 39) trivial⟩
def s_sIdxQ  : Sig := { X := List UInt8, args := fun x => [.str x, .int .u8 39], pre := fun x => True, Y := Unit, post := fun x y => True, res := fun x y => .int .i64 (idxI x 39), outs := fun x y => [.top, .top], keep := false }
theorem sIdxQ_vc (x : List UInt8) : vcFun Go.Proofs.Tryz.prog (Γof [(274, 0, s_idxQ)]) (Eof []) false (Lof ([])) Go.Proofs.Tryz.f268.ntmps Go.Proofs.Tryz.f268.results.toList (Go.Proofs.Tryz.f268.body.getD .skip) s_sIdxQ x = ((∀ (y : Unit), True → True ∧ True ∧ True ∧ True) ∧ ∃ (x_1 : List UInt8), True ∧ x = x_1 ∧ (39 : Int) = (39 : Int) ∧ ∀ (y : Unit), True → ∃ (y : Unit), True ∧ idxI x_1 (39 : UInt8) = idxI x (39 : UInt8) ∧ True) := by kernel_rfl
theorem sIdxQ_ok  : Contract G Tryz.prog 268 s_sIdxQ :=
  vcFun_ok (Γ := Γof [(274, 0, s_idxQ)]) (E := Eof []) (ov := false) (L := fun x => Lof ([])) Tryz.func268 rfl (by decide) (Γof_ok (l := [(274, 0, s_idxQ)]) ⟨idxQ_ok, trivial⟩) fun (x : List UInt8) (hx : True) => (sIdxQ_vc  x).mpr (by
  (repeat' first | with_reducible rfl | exact True.intro | refine inR_i64 ?_ ?_ | with_reducible refine And.intro ?_ ?_ | with_reducible refine bcase_dec (fun _ => ?_) (fun _ => ?_) | with_reducible refine bcase_bne (fun _ => ?_) (fun _ => ?_) | with_reducible refine bcase_beq (fun _ => ?_) (fun _ => ?_) | with_reducible refine bcase_not (fun _ => ?_) (fun _ => ?_) | refine bcase_intro (fun _ => ?_) (fun _ => ?_) | refine sl_eq ?_ | refine ex_flip () ?_ ?_ | (apply ex_flip6 <;> try dsimp only) | (apply ex_flip5 <;> try dsimp only) | (apply ex_flip4 <;> try dsimp only) | (apply ex_flip3 <;> try dsimp only) | (apply ex_flip2 <;> try dsimp only) | apply ex_flip | (refine Prod.forall.2 ?_; intro _; try dsimp only) | (intro _; try dsimp only)) <;> (try dsimp only at *) <;> (try simp only [i64max, List.length_cons, List.length_nil]) <;> (try omega))

def s_slIdx  : Sig := { X := List UInt8 × List UInt8, args := fun x => [.str x.1, .str x.2], pre := fun x => x.2.length = 1, Y := Unit, post := fun x y => True, res := fun x y => .int .i64 (idxI x.1 (x.2.headD 0)), outs := fun x y => [.top, .top], keep := false }
theorem slIdx_vc (x : List UInt8 × List UInt8) : vcFun Go.Proofs.Tryz.prog (Γof [(274, 0, s_idxB)]) (Eof []) false (Lof ([])) Go.Proofs.Tryz.f284.ntmps Go.Proofs.Tryz.f284.results.toList (Go.Proofs.Tryz.f284.body.getD .skip) s_slIdx x = ((∀ (y : Unit), True → True ∧ True ∧ True ∧ True) ∧ bcase ((↑(List.length x.snd) : Int) == (0 : Int)) (∃ (y : Unit), True ∧ (0 : Int) = idxI x.fst (List.headD x.snd (0 : UInt8)) ∧ True) (bcase (x.snd == x.fst) (∃ (y : Unit), True ∧ (0 : Int) = idxI x.fst (List.headD x.snd (0 : UInt8)) ∧ True) (bcase ((↑(List.length x.snd) : Int) == (1 : Int)) (((0 : Int) ≤ (0 : Int) ∧ (0 : Int) < (↑(List.length x.snd) : Int)) ∧ ∀ (c : UInt8), x.snd[(0 : Nat)]? = some c → ∃ (x_1 : List UInt8 × UInt8), True ∧ x.fst = x_1.fst ∧ (↑(UInt8.toNat c) : Int) = (↑(UInt8.toNat x_1.snd) : Int) ∧ ∀ (y : Unit), True → ∃ (y : Unit), True ∧ idxI x_1.fst x_1.snd = idxI x.fst (List.headD x.snd (0 : UInt8)) ∧ True) (bcase (decide ((↑(List.length x.snd) : Int) ≥ (↑(List.length x.fst) : Int))) (∃ (y : Unit), True ∧ (-1 : Int) = idxI x.fst (List.headD x.snd (0 : UInt8)) ∧ True) False)))) := by kernel_rfl
theorem slIdx_ok  : Contract G Tryz.prog 284 s_slIdx :=
  vcFun_ok (Γ := Γof [(274, 0, s_idxB)]) (E := Eof []) (ov := false) (L := fun x => Lof ([])) Tryz.func284 rfl (by decide) (Γof_ok (l := [(274, 0, s_idxB)]) ⟨idxB_ok, trivial⟩) fun (x : List UInt8 × List UInt8) (hx : x.2.length = 1) => (slIdx_vc  x).mpr (by
  (repeat' first | with_reducible rfl | exact True.intro | refine inR_i64 ?_ ?_ | with_reducible refine And.intro ?_ ?_ | with_reducible refine bcase_dec (fun _ => ?_) (fun _ => ?_) | with_reducible refine bcase_bne (fun _ => ?_) (fun _ => ?_) | with_reducible refine bcase_beq (fun _ => ?_) (fun _ => ?_) | with_reducible refine bcase_not (fun _ => ?_) (fun _ => ?_) | refine bcase_intro (fun _ => ?_) (fun _ => ?_) | refine sl_eq ?_ | refine ex_flip () ?_ ?_ | (apply ex_flip6 <;> try dsimp only) | (apply ex_flip5 <;> try dsimp only) | (apply ex_flip4 <;> try dsimp only) | (apply ex_flip3 <;> try dsimp only) | (apply ex_flip2 <;> try dsimp only) | apply ex_flip | (refine Prod.forall.2 ?_; intro _; try dsimp only) | (intro _; try dsimp only)) <;> (try dsimp only at *) <;> (try simp only [i64max, List.length_cons, List.length_nil]) <;> (try omega)
  · rename_i _ h; rw [← h]; match x.2, hx with
    | [c], _ => simp [idxI, idxOf]
  · rename_i c hc _ _
    match x.2, hx, hc with
    | [d], _, hc => simp at hc; rw [← hc]; rfl)

def s_sIdx  : Sig := { X := List UInt8 × List UInt8, args := fun x => [.str x.1, .str x.2], pre := fun x => x.2.length = 1, Y := Unit, post := fun x y => True, res := fun x y => .int .i64 (idxI x.1 (x.2.headD 0)), outs := fun x y => [.top, .top], keep := false }
theorem sIdx_vc (x : List UInt8 × List UInt8) : vcFun Go.Proofs.Tryz.prog (Γof [(284, 0, s_slIdx)]) (Eof []) false (Lof ([])) Go.Proofs.Tryz.f279.ntmps Go.Proofs.Tryz.f279.results.toList (Go.Proofs.Tryz.f279.body.getD .skip) s_sIdx x = ((∀ (y : Unit), True → True ∧ True ∧ True ∧ True) ∧ ∃ (x_1 : List UInt8 × List UInt8), List.length x_1.snd = (1 : Nat) ∧ x.fst = x_1.fst ∧ x.snd = x_1.snd ∧ ∀ (y : Unit), True → ∃ (y : Unit), True ∧ idxI x_1.fst (List.headD x_1.snd (0 : UInt8)) = idxI x.fst (List.headD x.snd (0 : UInt8)) ∧ True) := by kernel_rfl
theorem sIdx_ok  : Contract G Tryz.prog 279 s_sIdx :=
  vcFun_ok (Γ := Γof [(284, 0, s_slIdx)]) (E := Eof []) (ov := false) (L := fun x => Lof ([])) Tryz.func279 rfl (by decide) (Γof_ok (l := [(284, 0, s_slIdx)]) ⟨slIdx_ok, trivial⟩) fun (x : List UInt8 × List UInt8) (hx : x.2.length = 1) => (sIdx_vc  x).mpr (by
  (repeat' first | with_reducible rfl | exact True.intro | refine inR_i64 ?_ ?_ | with_reducible refine And.intro ?_ ?_ | with_reducible refine bcase_dec (fun _ => ?_) (fun _ => ?_) | with_reducible refine bcase_bne (fun _ => ?_) (fun _ => ?_) | with_reducible refine bcase_beq (fun _ => ?_) (fun _ => ?_) | with_reducible refine bcase_not (fun _ => ?_) (fun _ => ?_) | refine bcase_intro (fun _ => ?_) (fun _ => ?_) | refine sl_eq ?_ | refine ex_flip () ?_ ?_ | (apply ex_flip6 <;> try dsimp only) | (apply ex_flip5 <;> try dsimp only) | (apply ex_flip4 <;> try dsimp only) | (apply ex_flip3 <;> try dsimp only) | (apply ex_flip2 <;> try dsimp only) | apply ex_flip | (refine Prod.forall.2 ?_; intro _; try dsimp only) | (intro _; try dsimp only)) <;> (try dsimp only at *) <;> (try simp only [i64max, List.length_cons, List.length_nil]) <;> (try omega))

def s_sHas  : Sig := { X := List UInt8 × List UInt8, args := fun x => [.str x.1, .str x.2], pre := fun x => x.2.length = 1, Y := Unit, post := fun x y => True, res := fun x y => .bool (decide (idxI x.1 (x.2.headD 0) ≥ 0)), outs := fun x y => [.top, .top], keep := false }
theorem sHas_vc (x : List UInt8 × List UInt8) : vcFun Go.Proofs.Tryz.prog (Γof [(279, 0, s_sIdx)]) (Eof []) false (Lof ([])) Go.Proofs.Tryz.f271.ntmps Go.Proofs.Tryz.f271.results.toList (Go.Proofs.Tryz.f271.body.getD .skip) s_sHas x = ((∀ (y : Unit), True → True ∧ True ∧ True ∧ True) ∧ ∃ (x_1 : List UInt8 × List UInt8), List.length x_1.snd = (1 : Nat) ∧ x.fst = x_1.fst ∧ x.snd = x_1.snd ∧ ∀ (y : Unit), True → ∃ (y : Unit), True ∧ decide (idxI x_1.fst (List.headD x_1.snd (0 : UInt8)) ≥ (0 : Int)) = decide (idxI x.fst (List.headD x.snd (0 : UInt8)) ≥ (0 : Int)) ∧ True) := by kernel_rfl
theorem sHas_ok  : Contract G Tryz.prog 271 s_sHas :=
  vcFun_ok (Γ := Γof [(279, 0, s_sIdx)]) (E := Eof []) (ov := false) (L := fun x => Lof ([])) Tryz.func271 rfl (by decide) (Γof_ok (l := [(279, 0, s_sIdx)]) ⟨sIdx_ok, trivial⟩) fun (x : List UInt8 × List UInt8) (hx : x.2.length = 1) => (sHas_vc  x).mpr (by
  (repeat' first | with_reducible rfl | exact True.intro | refine inR_i64 ?_ ?_ | with_reducible refine And.intro ?_ ?_ | with_reducible refine bcase_dec (fun _ => ?_) (fun _ => ?_) | with_reducible refine bcase_bne (fun _ => ?_) (fun _ => ?_) | with_reducible refine bcase_beq (fun _ => ?_) (fun _ => ?_) | with_reducible refine bcase_not (fun _ => ?_) (fun _ => ?_) | refine bcase_intro (fun _ => ?_) (fun _ => ?_) | refine sl_eq ?_ | refine ex_flip () ?_ ?_ | (apply ex_flip6 <;> try dsimp only) | (apply ex_flip5 <;> try dsimp only) | (apply ex_flip4 <;> try dsimp only) | (apply ex_flip3 <;> try dsimp only) | (apply ex_flip2 <;> try dsimp only) | apply ex_flip | (refine Prod.forall.2 ?_; intro _; try dsimp only) | (intro _; try dsimp only)) <;> (try dsimp only at *) <;> (try simp only [i64max, List.length_cons, List.length_nil]) <;> (try omega))

def s_slPre  : Sig := { X := List UInt8 × List UInt8, args := fun x => [.str x.1, .str x.2], pre := fun x => x.2.length < 2 ^ 62 ∧ x.1.length < 2 ^ 63, Y := Unit, post := fun x y => True, res := fun x y => .bool (x.1.take x.2.length == x.2), outs := fun x y => [.top, .top], keep := false }
theorem slPre_vc (x : List UInt8 × List UInt8) : vcFun Go.Proofs.Tryz.prog (Γof []) (Eof []) false (Lof ([])) Go.Proofs.Tryz.f269.ntmps Go.Proofs.Tryz.f269.results.toList (Go.Proofs.Tryz.f269.body.getD .skip) s_slPre x = ((∀ (y : Unit), True → True ∧ True ∧ True ∧ True) ∧ bcase (decide ((↑(List.length x.fst) : Int) ≥ (↑(List.length x.snd) : Int))) (((0 : Int) ≤ (0 : Int) ∧ (0 : Int) ≤ (↑(List.length x.snd) : Int) ∧ (↑(List.length x.snd) : Int) ≤ (↑(List.length x.fst) : Int)) ∧ ∃ (y : Unit), True ∧ (List.take (Int.toNat (↑(List.length x.snd) : Int)) x.fst == x.snd) = (List.take (List.length x.snd) x.fst == x.snd) ∧ True) (∃ (y : Unit), True ∧ false = (List.take (List.length x.snd) x.fst == x.snd) ∧ True)) := by kernel_rfl
theorem slPre_ok  : Contract G Tryz.prog 269 s_slPre :=
  vcFun_ok (Γ := Γof []) (E := Eof []) (ov := false) (L := fun x => Lof ([])) Tryz.func269 rfl (by decide) (Γof_ok (l := []) trivial) fun (x : List UInt8 × List UInt8) (hx : x.2.length < 2 ^ 62 ∧ x.1.length < 2 ^ 63) => (slPre_vc  x).mpr (by
  obtain ⟨h1, h2⟩ := hx
  (repeat' first | with_reducible rfl | exact True.intro | refine inR_i64 ?_ ?_ | with_reducible refine And.intro ?_ ?_ | with_reducible refine bcase_dec (fun _ => ?_) (fun _ => ?_) | with_reducible refine bcase_bne (fun _ => ?_) (fun _ => ?_) | with_reducible refine bcase_beq (fun _ => ?_) (fun _ => ?_) | with_reducible refine bcase_not (fun _ => ?_) (fun _ => ?_) | refine bcase_intro (fun _ => ?_) (fun _ => ?_) | refine sl_eq ?_ | refine ex_flip () ?_ ?_ | (apply ex_flip6 <;> try dsimp only) | (apply ex_flip5 <;> try dsimp only) | (apply ex_flip4 <;> try dsimp only) | (apply ex_flip3 <;> try dsimp only) | (apply ex_flip2 <;> try dsimp only) | apply ex_flip | (refine Prod.forall.2 ?_; intro _; try dsimp only) | (intro _; try dsimp only)) <;> (try dsimp only at *) <;> (try simp only [i64max, List.length_cons, List.length_nil]) <;> (try omega)
  · simp
  · rename_i h; rw [eq_comm, beq_eq_false_iff_ne]; intro e; have := congrArg List.length e; simp at this; omega)

def s_sPre  : Sig := { X := List UInt8 × List UInt8, args := fun x => [.str x.1, .str x.2], pre := fun x => x.2.length < 2 ^ 62 ∧ x.1.length < 2 ^ 63, Y := Unit, post := fun x y => True, res := fun x y => .bool (x.1.take x.2.length == x.2), outs := fun x y => [.top, .top], keep := false }
theorem sPre_vc (x : List UInt8 × List UInt8) : vcFun Go.Proofs.Tryz.prog (Γof [(269, 0, s_slPre)]) (Eof []) false (Lof ([])) Go.Proofs.Tryz.f257.ntmps Go.Proofs.Tryz.f257.results.toList (Go.Proofs.Tryz.f257.body.getD .skip) s_sPre x = ((∀ (y : Unit), True → True ∧ True ∧ True ∧ True) ∧ ∃ (x_1 : List UInt8 × List UInt8), (List.length x_1.snd < (4611686018427387904 : Nat) ∧ List.length x_1.fst < (9223372036854775808 : Nat)) ∧ x.fst = x_1.fst ∧ x.snd = x_1.snd ∧ ∀ (y : Unit), True → ∃ (y : Unit), True ∧ (List.take (List.length x_1.snd) x_1.fst == x_1.snd) = (List.take (List.length x.snd) x.fst == x.snd) ∧ True) := by kernel_rfl
theorem sPre_ok  : Contract G Tryz.prog 257 s_sPre :=
  vcFun_ok (Γ := Γof [(269, 0, s_slPre)]) (E := Eof []) (ov := false) (L := fun x => Lof ([])) Tryz.func257 rfl (by decide) (Γof_ok (l := [(269, 0, s_slPre)]) ⟨slPre_ok, trivial⟩) fun (x : List UInt8 × List UInt8) (hx : x.2.length < 2 ^ 62 ∧ x.1.length < 2 ^ 63) => (sPre_vc  x).mpr (by
  obtain ⟨h1, h2⟩ := hx
  (repeat' first | with_reducible rfl | exact True.intro | refine inR_i64 ?_ ?_ | with_reducible refine And.intro ?_ ?_ | with_reducible refine bcase_dec (fun _ => ?_) (fun _ => ?_) | with_reducible refine bcase_bne (fun _ => ?_) (fun _ => ?_) | with_reducible refine bcase_beq (fun _ => ?_) (fun _ => ?_) | with_reducible refine bcase_not (fun _ => ?_) (fun _ => ?_) | refine bcase_intro (fun _ => ?_) (fun _ => ?_) | refine sl_eq ?_ | refine ex_flip () ?_ ?_ | (apply ex_flip6 <;> try dsimp only) | (apply ex_flip5 <;> try dsimp only) | (apply ex_flip4 <;> try dsimp only) | (apply ex_flip3 <;> try dsimp only) | (apply ex_flip2 <;> try dsimp only) | apply ex_flip | (refine Prod.forall.2 ?_; intro _; try dsimp only) | (intro _; try dsimp only)) <;> (try dsimp only at *) <;> (try simp only [i64max, List.length_cons, List.length_nil]) <;> (try omega))

end Go.My
end
section
/- Bytes and signs: what the program's and the reference's functions compute. -/
set_option linter.unusedVariables false
set_option linter.unusedSimpArgs false
namespace Go.My
open Go.Eng Go.Proofs
variable {G : GInv}

def s_inRange  : Sig := { X := Int × Int × Int, args := fun x => [.int .i64 x.1, .int .i64 x.2.1, .int .i64 x.2.2], pre := fun x => True, Y := Unit, post := fun x y => True, res := fun x y => .bool (inn x.1 x.2.1 x.2.2), outs := fun x y => [.top, .top, .top], keep := false }
theorem inRange_vc (x : Int × Int × Int) : vcFun Go.Proofs.Tryz.prog (Γof []) (Eof []) false (Lof ([])) Go.Proofs.Tryz.f92.ntmps Go.Proofs.Tryz.f92.results.toList (Go.Proofs.Tryz.f92.body.getD .skip) s_inRange x = ((∀ (y : Unit), True → True ∧ True ∧ True ∧ True ∧ True) ∧ bcase (decide (x.fst ≥ x.snd.fst)) (∃ (y : Unit), True ∧ decide (x.fst ≤ x.snd.snd) = inn x.fst x.snd.fst x.snd.snd ∧ True) (∃ (y : Unit), True ∧ false = inn x.fst x.snd.fst x.snd.snd ∧ True)) := by kernel_rfl
theorem inRange_ok  : Contract G Tryz.prog 92 s_inRange :=
  vcFun_ok (Γ := Γof []) (E := Eof []) (ov := false) (L := fun x => Lof ([])) Tryz.func92 rfl (by decide) (Γof_ok (l := []) trivial) fun (x : Int × Int × Int) (hx : True) => (inRange_vc  x).mpr (by
  (repeat' first | with_reducible rfl | exact True.intro | refine inR_i64 ?_ ?_ | with_reducible refine And.intro ?_ ?_ | with_reducible refine bcase_dec (fun _ => ?_) (fun _ => ?_) | with_reducible refine bcase_bne (fun _ => ?_) (fun _ => ?_) | with_reducible refine bcase_beq (fun _ => ?_) (fun _ => ?_) | with_reducible refine bcase_not (fun _ => ?_) (fun _ => ?_) | refine bcase_intro (fun _ => ?_) (fun _ => ?_) | refine sl_eq ?_ | refine ex_flip () ?_ ?_ | (apply ex_flip6 <;> try dsimp only) | (apply ex_flip5 <;> try dsimp only) | (apply ex_flip4 <;> try dsimp only) | (apply ex_flip3 <;> try dsimp only) | (apply ex_flip2 <;> try dsimp only) | apply ex_flip | (refine Prod.forall.2 ?_; intro _; try dsimp only) | (intro _; try dsimp only)) <;> (try dsimp only at *) <;> (try simp only [i64max, List.length_cons, List.length_nil]) <;> (try omega)
  all_goals simp [inn, *])

def s_l01In  : Sig := { X := Int × Int × Int, args := fun x => [.int .i64 x.1, .int .i64 x.2.1, .int .i64 x.2.2], pre := fun x => True, Y := Unit, post := fun x y => True, res := fun x y => .bool (inn x.1 x.2.1 x.2.2), outs := fun x y => [.top, .top, .top], keep := false }
theorem l01In_vc (x : Int × Int × Int) : vcFun Go.Proofs.Tryz.prog (Γof []) (Eof []) false (Lof ([])) Go.Proofs.Tryz.f84.ntmps Go.Proofs.Tryz.f84.results.toList (Go.Proofs.Tryz.f84.body.getD .skip) s_l01In x = ((∀ (y : Unit), True → True ∧ True ∧ True ∧ True ∧ True) ∧ bcase (decide (x.fst ≥ x.snd.fst)) (∃ (y : Unit), True ∧ decide (x.fst ≤ x.snd.snd) = inn x.fst x.snd.fst x.snd.snd ∧ True) (∃ (y : Unit), True ∧ false = inn x.fst x.snd.fst x.snd.snd ∧ True)) := by kernel_rfl
theorem l01In_ok  : Contract G Tryz.prog 84 s_l01In :=
  vcFun_ok (Γ := Γof []) (E := Eof []) (ov := false) (L := fun x => Lof ([])) Tryz.func84 rfl (by decide) (Γof_ok (l := []) trivial) fun (x : Int × Int × Int) (hx : True) => (l01In_vc  x).mpr (by
  (repeat' first | with_reducible rfl | exact True.intro | refine inR_i64 ?_ ?_ | with_reducible refine And.intro ?_ ?_ | with_reducible refine bcase_dec (fun _ => ?_) (fun _ => ?_) | with_reducible refine bcase_bne (fun _ => ?_) (fun _ => ?_) | with_reducible refine bcase_beq (fun _ => ?_) (fun _ => ?_) | with_reducible refine bcase_not (fun _ => ?_) (fun _ => ?_) | refine bcase_intro (fun _ => ?_) (fun _ => ?_) | refine sl_eq ?_ | refine ex_flip () ?_ ?_ | (apply ex_flip6 <;> try dsimp only) | (apply ex_flip5 <;> try dsimp only) | (apply ex_flip4 <;> try dsimp only) | (apply ex_flip3 <;> try dsimp only) | (apply ex_flip2 <;> try dsimp only) | apply ex_flip | (refine Prod.forall.2 ?_; intro _; try dsimp only) | (intro _; try dsimp only)) <;> (try dsimp only at *) <;> (try simp only [i64max, List.length_cons, List.length_nil]) <;> (try omega)
  all_goals simp [inn, *])

def s_isFigure  : Sig := { X := UInt8, args := fun x => [.int .u8 x.toNat], pre := fun x => True, Y := Unit, post := fun x y => True, res := fun x y => .bool (isFig x), outs := fun x y => [.top], keep := false }
theorem isFigure_vc (x : UInt8) : vcFun Go.Proofs.Tryz.prog (Γof []) (Eof []) false (Lof ([])) Go.Proofs.Tryz.f255.ntmps Go.Proofs.Tryz.f255.results.toList (Go.Proofs.Tryz.f255.body.getD .skip) s_isFigure x = ((∀ (y : Unit), True → True ∧ True ∧ True) ∧ bcase (decide ((↑(UInt8.toNat x) : Int) ≥ (48 : Int))) (∃ (y : Unit), True ∧ decide ((↑(UInt8.toNat x) : Int) ≤ (57 : Int)) = isFig x ∧ True) (∃ (y : Unit), True ∧ false = isFig x ∧ True)) := by kernel_rfl
theorem isFigure_ok  : Contract G Tryz.prog 255 s_isFigure :=
  vcFun_ok (Γ := Γof []) (E := Eof []) (ov := false) (L := fun x => Lof ([])) Tryz.func255 rfl (by decide) (Γof_ok (l := []) trivial) fun (x : UInt8) (hx : True) => (isFigure_vc  x).mpr (by
  (repeat' first | with_reducible rfl | exact True.intro | refine inR_i64 ?_ ?_ | with_reducible refine And.intro ?_ ?_ | with_reducible refine bcase_dec (fun _ => ?_) (fun _ => ?_) | with_reducible refine bcase_bne (fun _ => ?_) (fun _ => ?_) | with_reducible refine bcase_beq (fun _ => ?_) (fun _ => ?_) | with_reducible refine bcase_not (fun _ => ?_) (fun _ => ?_) | refine bcase_intro (fun _ => ?_) (fun _ => ?_) | refine sl_eq ?_ | refine ex_flip () ?_ ?_ | (apply ex_flip6 <;> try dsimp only) | (apply ex_flip5 <;> try dsimp only) | (apply ex_flip4 <;> try dsimp only) | (apply ex_flip3 <;> try dsimp only) | (apply ex_flip2 <;> try dsimp only) | apply ex_flip | (refine Prod.forall.2 ?_; intro _; try dsimp only) | (intro _; try dsimp only)) <;> (try dsimp only at *) <;> (try simp only [i64max, List.length_cons, List.length_nil]) <;> (try omega)
  all_goals (rw [Bool.eq_iff_iff]; simp only [isFig, Bool.and_eq_true, Bool.or_eq_true, decide_eq_true_eq, Bool.not_eq_true', decide_eq_false_iff_not, bne_iff_ne, ne_eq, beq_iff_eq, Bool.not_not, reduceCtorEq, Bool.false_eq_true, true_iff, false_iff, iff_true, iff_false, not_true, not_false_eq_true] <;> omega))

def s_l04Figure  : Sig := { X := UInt8, args := fun x => [.int .u8 x.toNat], pre := fun x => True, Y := Unit, post := fun x y => True, res := fun x y => .bool (isFig x), outs := fun x y => [.top], keep := false }
theorem l04Figure_vc (x : UInt8) : vcFun Go.Proofs.Tryz.prog (Γof []) (Eof []) false (Lof ([])) Go.Proofs.Tryz.f220.ntmps Go.Proofs.Tryz.f220.results.toList (Go.Proofs.Tryz.f220.body.getD .skip) s_l04Figure x = ((∀ (y : Unit), True → True ∧ True ∧ True) ∧ bcase (decide ((↑(UInt8.toNat x) : Int) ≥ (48 : Int))) (∃ (y : Unit), True ∧ decide ((↑(UInt8.toNat x) : Int) ≤ (57 : Int)) = isFig x ∧ True) (∃ (y : Unit), True ∧ false = isFig x ∧ True)) := by kernel_rfl
theorem l04Figure_ok  : Contract G Tryz.prog 220 s_l04Figure :=
  vcFun_ok (Γ := Γof []) (E := Eof []) (ov := false) (L := fun x => Lof ([])) Tryz.func220 rfl (by decide) (Γof_ok (l := []) trivial) fun (x : UInt8) (hx : True) => (l04Figure_vc  x).mpr (by
  (repeat' first | with_reducible rfl | exact True.intro | refine inR_i64 ?_ ?_ | with_reducible refine And.intro ?_ ?_ | with_reducible refine bcase_dec (fun _ => ?_) (fun _ => ?_) | with_reducible refine bcase_bne (fun _ => ?_) (fun _ => ?_) | with_reducible refine bcase_beq (fun _ => ?_) (fun _ => ?_) | with_reducible refine bcase_not (fun _ => ?_) (fun _ => ?_) | refine bcase_intro (fun _ => ?_) (fun _ => ?_) | refine sl_eq ?_ | refine ex_flip () ?_ ?_ | (apply ex_flip6 <;> try dsimp only) | (apply ex_flip5 <;> try dsimp only) | (apply ex_flip4 <;> try dsimp only) | (apply ex_flip3 <;> try dsimp only) | (apply ex_flip2 <;> try dsimp only) | apply ex_flip | (refine Prod.forall.2 ?_; intro _; try dsimp only) | (intro _; try dsimp only)) <;> (try dsimp only at *) <;> (try simp only [i64max, List.length_cons, List.length_nil]) <;> (try omega)
  all_goals (rw [Bool.eq_iff_iff]; simp only [isFig, Bool.and_eq_true, Bool.or_eq_true, decide_eq_true_eq, Bool.not_eq_true', decide_eq_false_iff_not, bne_iff_ne, ne_eq, beq_iff_eq, Bool.not_not, reduceCtorEq, Bool.false_eq_true, true_iff, false_iff, iff_true, iff_false, not_true, not_false_eq_true] <;> omega))

def s_isFirst  : Sig := { X := UInt8, args := fun x => [.int .u8 x.toNat], pre := fun x => True, Y := Unit, post := fun x y => True, res := fun x y => .bool (isFst x), outs := fun x y => [.top], keep := false }
theorem isFirst_vc (x : UInt8) : vcFun Go.Proofs.Tryz.prog (Γof []) (Eof []) false (Lof ([])) Go.Proofs.Tryz.f252.ntmps Go.Proofs.Tryz.f252.results.toList (Go.Proofs.Tryz.f252.body.getD .skip) s_isFirst x = ((∀ (y : Unit), True → True ∧ True ∧ True) ∧ bcase (decide ((↑(UInt8.toNat x) : Int) ≥ (97 : Int))) (bcase (decide ((↑(UInt8.toNat x) : Int) ≤ (122 : Int))) (∃ (y : Unit), True ∧ true = isFst x ∧ True) (bcase (decide ((↑(UInt8.toNat x) : Int) ≥ (65 : Int))) (bcase (decide ((↑(UInt8.toNat x) : Int) ≤ (90 : Int))) (∃ (y : Unit), True ∧ true = isFst x ∧ True) (∃ (y : Unit), True ∧ ((↑(UInt8.toNat x) : Int) == (95 : Int)) = isFst x ∧ True)) (∃ (y : Unit), True ∧ ((↑(UInt8.toNat x) : Int) == (95 : Int)) = isFst x ∧ True))) (bcase (decide ((↑(UInt8.toNat x) : Int) ≥ (65 : Int))) (bcase (decide ((↑(UInt8.toNat x) : Int) ≤ (90 : Int))) (∃ (y : Unit), True ∧ true = isFst x ∧ True) (∃ (y : Unit), True ∧ ((↑(UInt8.toNat x) : Int) == (95 : Int)) = isFst x ∧ True)) (∃ (y : Unit), True ∧ ((↑(UInt8.toNat x) : Int) == (95 : Int)) = isFst x ∧ True))) := by kernel_rfl
theorem isFirst_ok  : Contract G Tryz.prog 252 s_isFirst :=
  vcFun_ok (Γ := Γof []) (E := Eof []) (ov := false) (L := fun x => Lof ([])) Tryz.func252 rfl (by decide) (Γof_ok (l := []) trivial) fun (x : UInt8) (hx : True) => (isFirst_vc  x).mpr (by
  (repeat' first | with_reducible rfl | exact True.intro | refine inR_i64 ?_ ?_ | with_reducible refine And.intro ?_ ?_ | with_reducible refine bcase_dec (fun _ => ?_) (fun _ => ?_) | with_reducible refine bcase_bne (fun _ => ?_) (fun _ => ?_) | with_reducible refine bcase_beq (fun _ => ?_) (fun _ => ?_) | with_reducible refine bcase_not (fun _ => ?_) (fun _ => ?_) | refine bcase_intro (fun _ => ?_) (fun _ => ?_) | refine sl_eq ?_ | refine ex_flip () ?_ ?_ | (apply ex_flip6 <;> try dsimp only) | (apply ex_flip5 <;> try dsimp only) | (apply ex_flip4 <;> try dsimp only) | (apply ex_flip3 <;> try dsimp only) | (apply ex_flip2 <;> try dsimp only) | apply ex_flip | (refine Prod.forall.2 ?_; intro _; try dsimp only) | (intro _; try dsimp only)) <;> (try dsimp only at *) <;> (try simp only [i64max, List.length_cons, List.length_nil]) <;> (try omega)
  all_goals (rw [Bool.eq_iff_iff]; simp only [isFst, Bool.and_eq_true, Bool.or_eq_true, decide_eq_true_eq, Bool.not_eq_true', decide_eq_false_iff_not, bne_iff_ne, ne_eq, beq_iff_eq, Bool.not_not, reduceCtorEq, Bool.false_eq_true, true_iff, false_iff, iff_true, iff_false, not_true, not_false_eq_true] <;> omega))

def s_l04First  : Sig := { X := UInt8, args := fun x => [.int .u8 x.toNat], pre := fun x => True, Y := Unit, post := fun x y => True, res := fun x y => .bool (isFst x), outs := fun x y => [.top], keep := false }
theorem l04First_vc (x : UInt8) : vcFun Go.Proofs.Tryz.prog (Γof []) (Eof []) false (Lof ([])) Go.Proofs.Tryz.f245.ntmps Go.Proofs.Tryz.f245.results.toList (Go.Proofs.Tryz.f245.body.getD .skip) s_l04First x = ((∀ (y : Unit), True → True ∧ True ∧ True) ∧ bcase (decide ((↑(UInt8.toNat x) : Int) ≥ (97 : Int))) (bcase (decide ((↑(UInt8.toNat x) : Int) ≤ (122 : Int))) (∃ (y : Unit), True ∧ true = isFst x ∧ True) (bcase (decide ((↑(UInt8.toNat x) : Int) ≥ (65 : Int))) (bcase (decide ((↑(UInt8.toNat x) : Int) ≤ (90 : Int))) (∃ (y : Unit), True ∧ true = isFst x ∧ True) (∃ (y : Unit), True ∧ ((↑(UInt8.toNat x) : Int) == (95 : Int)) = isFst x ∧ True)) (∃ (y : Unit), True ∧ ((↑(UInt8.toNat x) : Int) == (95 : Int)) = isFst x ∧ True))) (bcase (decide ((↑(UInt8.toNat x) : Int) ≥ (65 : Int))) (bcase (decide ((↑(UInt8.toNat x) : Int) ≤ (90 : Int))) (∃ (y : Unit), True ∧ true = isFst x ∧ True) (∃ (y : Unit), True ∧ ((↑(UInt8.toNat x) : Int) == (95 : Int)) = isFst x ∧ True)) (∃ (y : Unit), True ∧ ((↑(UInt8.toNat x) : Int) == (95 : Int)) = isFst x ∧ True))) := by kernel_rfl
theorem l04First_ok  : Contract G Tryz.prog 245 s_l04First :=
  vcFun_ok (Γ := Γof []) (E := Eof []) (ov := false) (L := fun x => Lof ([])) Tryz.func245 rfl (by decide) (Γof_ok (l := []) trivial) fun (x : UInt8) (hx : True) => (l04First_vc  x).mpr (by
  (repeat' first | with_reducible rfl | exact True.intro | refine inR_i64 ?_ ?_ | with_reducible refine And.intro ?_ ?_ | with_reducible refine bcase_dec (fun _ => ?_) (fun _ => ?_) | with_reducible refine bcase_bne (fun _ => ?_) (fun _ => ?_) | with_reducible refine bcase_beq (fun _ => ?_) (fun _ => ?_) | with_reducible refine bcase_not (fun _ => ?_) (fun _ => ?_) | refine bcase_intro (fun _ => ?_) (fun _ => ?_) | refine sl_eq ?_ | refine ex_flip () ?_ ?_ | (apply ex_flip6 <;> try dsimp only) | (apply ex_flip5 <;> try dsimp only) | (apply ex_flip4 <;> try dsimp only) | (apply ex_flip3 <;> try dsimp only) | (apply ex_flip2 <;> try dsimp only) | apply ex_flip | (refine Prod.forall.2 ?_; intro _; try dsimp only) | (intro _; try dsimp only)) <;> (try dsimp only at *) <;> (try simp only [i64max, List.length_cons, List.length_nil]) <;> (try omega)
  all_goals (rw [Bool.eq_iff_iff]; simp only [isFst, Bool.and_eq_true, Bool.or_eq_true, decide_eq_true_eq, Bool.not_eq_true', decide_eq_false_iff_not, bne_iff_ne, ne_eq, beq_iff_eq, Bool.not_not, reduceCtorEq, Bool.false_eq_true, true_iff, false_iff, iff_true, iff_false, not_true, not_false_eq_true] <;> omega))

def s_isInner  : Sig := { X := UInt8, args := fun x => [.int .u8 x.toNat], pre := fun x => True, Y := Unit, post := fun x y => True, res := fun x y => .bool (isInn x), outs := fun x y => [.top], keep := false }
theorem isInner_vc (x : UInt8) : vcFun Go.Proofs.Tryz.prog (Γof [(252, 0, s_isFirst), (255, 0, s_isFigure)]) (Eof []) false (Lof ([])) Go.Proofs.Tryz.f254.ntmps Go.Proofs.Tryz.f254.results.toList (Go.Proofs.Tryz.f254.body.getD .skip) s_isInner x = ((∀ (y : Unit), True → True ∧ True ∧ True) ∧ ∃ (x_1 : UInt8), True ∧ (↑(UInt8.toNat x) : Int) = (↑(UInt8.toNat x_1) : Int) ∧ ∀ (y : Unit), True → bcase (isFst x_1) (∃ (y : Unit), True ∧ true = isInn x ∧ True) (∃ (x_2 : UInt8), True ∧ (↑(UInt8.toNat x) : Int) = (↑(UInt8.toNat x_2) : Int) ∧ ∀ (y : Unit), True → ∃ (y : Unit), True ∧ isFig x_2 = isInn x ∧ True)) := by kernel_rfl
theorem isInner_ok  : Contract G Tryz.prog 254 s_isInner :=
  vcFun_ok (Γ := Γof [(252, 0, s_isFirst), (255, 0, s_isFigure)]) (E := Eof []) (ov := false) (L := fun x => Lof ([])) Tryz.func254 rfl (by decide) (Γof_ok (l := [(252, 0, s_isFirst), (255, 0, s_isFigure)]) ⟨isFirst_ok, isFigure_ok, trivial⟩) fun (x : UInt8) (hx : True) => (isInner_vc  x).mpr (by
  (repeat' first | with_reducible rfl | exact True.intro | refine inR_i64 ?_ ?_ | with_reducible refine And.intro ?_ ?_ | with_reducible refine bcase_dec (fun _ => ?_) (fun _ => ?_) | with_reducible refine bcase_bne (fun _ => ?_) (fun _ => ?_) | with_reducible refine bcase_beq (fun _ => ?_) (fun _ => ?_) | with_reducible refine bcase_not (fun _ => ?_) (fun _ => ?_) | refine bcase_intro (fun _ => ?_) (fun _ => ?_) | refine sl_eq ?_ | refine ex_flip () ?_ ?_ | (apply ex_flip6 <;> try dsimp only) | (apply ex_flip5 <;> try dsimp only) | (apply ex_flip4 <;> try dsimp only) | (apply ex_flip3 <;> try dsimp only) | (apply ex_flip2 <;> try dsimp only) | apply ex_flip | (refine Prod.forall.2 ?_; intro _; try dsimp only) | (intro _; try dsimp only)) <;> (try dsimp only at *) <;> (try simp only [i64max, List.length_cons, List.length_nil]) <;> (try omega)
  all_goals simp [isInn, *])

def s_l04Plain  : Sig := { X := UInt8, args := fun x => [.int .u8 x.toNat], pre := fun x => True, Y := Unit, post := fun x y => True, res := fun x y => .bool (isPln x), outs := fun x y => [.top], keep := false }
theorem l04Plain_vc (x : UInt8) : vcFun Go.Proofs.Tryz.prog (Γof []) (Eof []) false (Lof ([])) Go.Proofs.Tryz.f139.ntmps Go.Proofs.Tryz.f139.results.toList (Go.Proofs.Tryz.f139.body.getD .skip) s_l04Plain x = ((∀ (y : Unit), True → True ∧ True ∧ True) ∧ bcase (decide ((↑(UInt8.toNat x) : Int) ≥ (32 : Int))) (∃ (y : Unit), True ∧ decide ((↑(UInt8.toNat x) : Int) ≤ (126 : Int)) = isPln x ∧ True) (∃ (y : Unit), True ∧ false = isPln x ∧ True)) := by kernel_rfl
theorem l04Plain_ok  : Contract G Tryz.prog 139 s_l04Plain :=
  vcFun_ok (Γ := Γof []) (E := Eof []) (ov := false) (L := fun x => Lof ([])) Tryz.func139 rfl (by decide) (Γof_ok (l := []) trivial) fun (x : UInt8) (hx : True) => (l04Plain_vc  x).mpr (by
  (repeat' first | with_reducible rfl | exact True.intro | refine inR_i64 ?_ ?_ | with_reducible refine And.intro ?_ ?_ | with_reducible refine bcase_dec (fun _ => ?_) (fun _ => ?_) | with_reducible refine bcase_bne (fun _ => ?_) (fun _ => ?_) | with_reducible refine bcase_beq (fun _ => ?_) (fun _ => ?_) | with_reducible refine bcase_not (fun _ => ?_) (fun _ => ?_) | refine bcase_intro (fun _ => ?_) (fun _ => ?_) | refine sl_eq ?_ | refine ex_flip () ?_ ?_ | (apply ex_flip6 <;> try dsimp only) | (apply ex_flip5 <;> try dsimp only) | (apply ex_flip4 <;> try dsimp only) | (apply ex_flip3 <;> try dsimp only) | (apply ex_flip2 <;> try dsimp only) | apply ex_flip | (refine Prod.forall.2 ?_; intro _; try dsimp only) | (intro _; try dsimp only)) <;> (try dsimp only at *) <;> (try simp only [i64max, List.length_cons, List.length_nil]) <;> (try omega)
  all_goals (rw [Bool.eq_iff_iff]; simp only [isPln, Bool.and_eq_true, Bool.or_eq_true, decide_eq_true_eq, Bool.not_eq_true', decide_eq_false_iff_not, bne_iff_ne, ne_eq, beq_iff_eq, Bool.not_not, reduceCtorEq, Bool.false_eq_true, true_iff, false_iff, iff_true, iff_false, not_true, not_false_eq_true] <;> omega))

def s_sg1  : Sig := { X := UInt8, args := fun x => [.int .u8 x.toNat], pre := fun x => True, Y := Unit, post := fun x y => True, res := fun x y => .bool (notNl x), outs := fun x y => [.top], keep := false }
theorem sg1_vc (x : UInt8) : vcFun Go.Proofs.Tryz.prog (Γof []) (Eof []) false (Lof ([])) Go.Proofs.Tryz.f258.ntmps Go.Proofs.Tryz.f258.results.toList (Go.Proofs.Tryz.f258.body.getD .skip) s_sg1 x = ((∀ (y : Unit), True → True ∧ True ∧ True) ∧ ∃ (y : Unit), True ∧ ((↑(UInt8.toNat x) : Int) != (10 : Int)) = notNl x ∧ True) := by kernel_rfl
theorem sg1_ok  : Contract G Tryz.prog 258 s_sg1 :=
  vcFun_ok (Γ := Γof []) (E := Eof []) (ov := false) (L := fun x => Lof ([])) Tryz.func258 rfl (by decide) (Γof_ok (l := []) trivial) fun (x : UInt8) (hx : True) => (sg1_vc  x).mpr (by
  (repeat' first | with_reducible rfl | exact True.intro | refine inR_i64 ?_ ?_ | with_reducible refine And.intro ?_ ?_ | with_reducible refine bcase_dec (fun _ => ?_) (fun _ => ?_) | with_reducible refine bcase_bne (fun _ => ?_) (fun _ => ?_) | with_reducible refine bcase_beq (fun _ => ?_) (fun _ => ?_) | with_reducible refine bcase_not (fun _ => ?_) (fun _ => ?_) | refine bcase_intro (fun _ => ?_) (fun _ => ?_) | refine sl_eq ?_ | refine ex_flip () ?_ ?_ | (apply ex_flip6 <;> try dsimp only) | (apply ex_flip5 <;> try dsimp only) | (apply ex_flip4 <;> try dsimp only) | (apply ex_flip3 <;> try dsimp only) | (apply ex_flip2 <;> try dsimp only) | apply ex_flip | (refine Prod.forall.2 ?_; intro _; try dsimp only) | (intro _; try dsimp only)) <;> (try dsimp only at *) <;> (try simp only [i64max, List.length_cons, List.length_nil]) <;> (try omega)
  all_goals (rw [Bool.eq_iff_iff]; simp only [notNl, Bool.and_eq_true, Bool.or_eq_true, decide_eq_true_eq, Bool.not_eq_true', decide_eq_false_iff_not, bne_iff_ne, ne_eq, beq_iff_eq, Bool.not_not, reduceCtorEq, Bool.false_eq_true, true_iff, false_iff, iff_true, iff_false, not_true, not_false_eq_true] <;> omega))

def lTake (p : UInt8 → Bool) (x : List UInt8) (rs : Int → List (Nat × AV)) : LS := {
  ι := Int, inv := fun i => 0 ≤ i ∧ i ≤ x.length ∧ ∀ e ∈ x.take i.toNat, p e = true, regs := rs, als := [], meas := fun i => x.length - i.toNat }
def s_isPlain  : Sig := { X := List UInt8, args := fun x => [.str x], pre := fun x => x.length < 2 ^ 63, Y := Unit, post := fun x y => True, res := fun x y => .bool (x.all isPln), outs := fun x y => [.top], keep := false }
theorem isPlain_vc (x : List UInt8) : vcFun Go.Proofs.Tryz.prog (Γof []) (Eof []) false (Lof ([(2,lTake isPln x fun i => [(0, .str x), (3, .int .i64 i)])])) Go.Proofs.Tryz.f145.ntmps Go.Proofs.Tryz.f145.results.toList (Go.Proofs.Tryz.f145.body.getD .skip) s_isPlain x = ((∀ (y : Unit), True → True ∧ True ∧ True) ∧ (∃ (i : Int), ((0 : Int) ≤ i ∧ i ≤ (↑(List.length x) : Int) ∧ ∀ (e : UInt8), e ∈ List.take (Int.toNat i) x → isPln e = true) ∧ (x = x ∧ (0 : Int) = i ∧ True) ∧ True) ∧ ∀ (i : Int), ((0 : Int) ≤ i ∧ i ≤ (↑(List.length x) : Int) ∧ ∀ (e : UInt8), e ∈ List.take (Int.toNat i) x → isPln e = true) → bcase (decide (i < (↑(List.length x) : Int))) (((0 : Int) ≤ i ∧ i < (↑(List.length x) : Int)) ∧ ∀ (c : UInt8), x[Int.toNat i]? = some c → bcase (decide ((↑(UInt8.toNat c) : Int) < (32 : Int))) (∃ (y : Unit), True ∧ false = List.all x isPln ∧ True) (((0 : Int) ≤ i ∧ i < (↑(List.length x) : Int)) ∧ ∀ (c : UInt8), x[Int.toNat i]? = some c → bcase (decide ((↑(UInt8.toNat c) : Int) > (126 : Int))) (∃ (y : Unit), True ∧ false = List.all x isPln ∧ True) (inR IntKind.i64 (i + (1 : Int)) ∧ ∃ (i' : Int), ((0 : Int) ≤ i' ∧ i' ≤ (↑(List.length x) : Int) ∧ ∀ (e : UInt8), e ∈ List.take (Int.toNat i') x → isPln e = true) ∧ List.length x - Int.toNat i' < List.length x - Int.toNat i ∧ (x = x ∧ i + (1 : Int) = i' ∧ True) ∧ True))) (∃ (y : Unit), True ∧ true = List.all x isPln ∧ True)) := by kernel_rfl
theorem isPlain_ok  : Contract G Tryz.prog 145 s_isPlain :=
  vcFun_ok (Γ := Γof []) (E := Eof []) (ov := false) (L := fun x => Lof ([(2,lTake isPln x fun i => [(0, .str x), (3, .int .i64 i)])])) Tryz.func145 rfl (by decide) (Γof_ok (l := []) trivial) fun (x : List UInt8) (hx : x.length < 2 ^ 63) => (isPlain_vc  x).mpr (by
  (repeat' first | with_reducible rfl | exact True.intro | refine inR_i64 ?_ ?_ | with_reducible refine And.intro ?_ ?_ | with_reducible refine bcase_dec (fun _ => ?_) (fun _ => ?_) | with_reducible refine bcase_bne (fun _ => ?_) (fun _ => ?_) | with_reducible refine bcase_beq (fun _ => ?_) (fun _ => ?_) | with_reducible refine bcase_not (fun _ => ?_) (fun _ => ?_) | refine bcase_intro (fun _ => ?_) (fun _ => ?_) | refine sl_eq ?_ | refine ex_flip () ?_ ?_ | (apply ex_flip6 <;> try dsimp only) | (apply ex_flip5 <;> try dsimp only) | (apply ex_flip4 <;> try dsimp only) | (apply ex_flip3 <;> try dsimp only) | (apply ex_flip2 <;> try dsimp only) | apply ex_flip | (refine Prod.forall.2 ?_; intro _; try dsimp only) | (intro _; try dsimp only)) <;> (try dsimp only at *) <;> (try simp only [i64max, List.length_cons, List.length_nil]) <;> (try omega)
  · rename_i h; simp at h
  · rename_i i hi hl c hc h; exact (not_all hc (by (rw [Bool.eq_iff_iff]; simp only [isPln, Bool.and_eq_true, Bool.or_eq_true, decide_eq_true_eq, Bool.not_eq_true', decide_eq_false_iff_not, bne_iff_ne, ne_eq, beq_iff_eq, Bool.not_not, reduceCtorEq, Bool.false_eq_true, true_iff, false_iff, iff_true, iff_false, not_true, not_false_eq_true] <;> omega))).symm
  · rename_i i hi hl c hc h d hd h2; exact (not_all hd (by (rw [Bool.eq_iff_iff]; simp only [isPln, Bool.and_eq_true, Bool.or_eq_true, decide_eq_true_eq, Bool.not_eq_true', decide_eq_false_iff_not, bne_iff_ne, ne_eq, beq_iff_eq, Bool.not_not, reduceCtorEq, Bool.false_eq_true, true_iff, false_iff, iff_true, iff_false, not_true, not_false_eq_true] <;> omega))).symm
  · rename_i i hi hl c hc h d hd h2 e he
    rw [hc] at hd; cases hd
    rw [toNat1 hi.1] at he; exact all_take_succ hi.2.2 hc (by (rw [Bool.eq_iff_iff]; simp only [isPln, Bool.and_eq_true, Bool.or_eq_true, decide_eq_true_eq, Bool.not_eq_true', decide_eq_false_iff_not, bne_iff_ne, ne_eq, beq_iff_eq, Bool.not_not, reduceCtorEq, Bool.false_eq_true, true_iff, false_iff, iff_true, iff_false, not_true, not_false_eq_true] <;> omega)) e he
  · rename_i i hi hl; exact (all_of_take hi.2.2 (by omega)).symm)

def s_runI  : Sig := { X := List UInt8, args := fun x => [.str x, .clo (.func 254) []], pre := fun x => x.length < 2 ^ 63, Y := Unit, post := fun x y => True, res := fun x y => .str (x.takeWhile isInn), outs := fun x y => [.top, .top], keep := false }
theorem runI_vc (x : List UInt8) : vcFun Go.Proofs.Tryz.prog (Γof [(254, 0, s_isInner)]) (Eof []) false (Lof ([(2,lTake isInn x fun i => [(0, .str x), (1, .clo (.func 254) []), (5, .int .i64 i)])])) Go.Proofs.Tryz.f253.ntmps Go.Proofs.Tryz.f253.results.toList (Go.Proofs.Tryz.f253.body.getD .skip) s_runI x = ((∀ (y : Unit), True → True ∧ True ∧ True ∧ True) ∧ (∃ (i : Int), ((0 : Int) ≤ i ∧ i ≤ (↑(List.length x) : Int) ∧ ∀ (e : UInt8), e ∈ List.take (Int.toNat i) x → isInn e = true) ∧ (x = x ∧ (0 : Int) = i ∧ True) ∧ True) ∧ ∀ (i : Int), ((0 : Int) ≤ i ∧ i ≤ (↑(List.length x) : Int) ∧ ∀ (e : UInt8), e ∈ List.take (Int.toNat i) x → isInn e = true) → bcase (decide (i < (↑(List.length x) : Int))) (((0 : Int) ≤ i ∧ i < (↑(List.length x) : Int)) ∧ ∀ (c : UInt8), x[Int.toNat i]? = some c → ∃ (x_1 : UInt8), True ∧ (↑(UInt8.toNat c) : Int) = (↑(UInt8.toNat x_1) : Int) ∧ ∀ (y : Unit), True → bcase (isInn x_1) (inR IntKind.i64 (i + (1 : Int)) ∧ ∃ (i' : Int), ((0 : Int) ≤ i' ∧ i' ≤ (↑(List.length x) : Int) ∧ ∀ (e : UInt8), e ∈ List.take (Int.toNat i') x → isInn e = true) ∧ List.length x - Int.toNat i' < List.length x - Int.toNat i ∧ (x = x ∧ i + (1 : Int) = i' ∧ True) ∧ True) (((0 : Int) ≤ (0 : Int) ∧ (0 : Int) ≤ i ∧ i ≤ (↑(List.length x) : Int)) ∧ ∃ (y : Unit), True ∧ List.take (Int.toNat i) x = List.takeWhile isInn x ∧ True)) (((0 : Int) ≤ (0 : Int) ∧ (0 : Int) ≤ i ∧ i ≤ (↑(List.length x) : Int)) ∧ ∃ (y : Unit), True ∧ List.take (Int.toNat i) x = List.takeWhile isInn x ∧ True)) := by kernel_rfl
theorem runI_ok  : Contract G Tryz.prog 253 s_runI :=
  vcFun_ok (Γ := Γof [(254, 0, s_isInner)]) (E := Eof []) (ov := false) (L := fun x => Lof ([(2,lTake isInn x fun i => [(0, .str x), (1, .clo (.func 254) []), (5, .int .i64 i)])])) Tryz.func253 rfl (by decide) (Γof_ok (l := [(254, 0, s_isInner)]) ⟨isInner_ok, trivial⟩) fun (x : List UInt8) (hx : x.length < 2 ^ 63) => (runI_vc  x).mpr (by
  (repeat' first | with_reducible rfl | exact True.intro | refine inR_i64 ?_ ?_ | with_reducible refine And.intro ?_ ?_ | with_reducible refine bcase_dec (fun _ => ?_) (fun _ => ?_) | with_reducible refine bcase_bne (fun _ => ?_) (fun _ => ?_) | with_reducible refine bcase_beq (fun _ => ?_) (fun _ => ?_) | with_reducible refine bcase_not (fun _ => ?_) (fun _ => ?_) | refine bcase_intro (fun _ => ?_) (fun _ => ?_) | refine sl_eq ?_ | refine ex_flip () ?_ ?_ | (apply ex_flip6 <;> try dsimp only) | (apply ex_flip5 <;> try dsimp only) | (apply ex_flip4 <;> try dsimp only) | (apply ex_flip3 <;> try dsimp only) | (apply ex_flip2 <;> try dsimp only) | apply ex_flip | (refine Prod.forall.2 ?_; intro _; try dsimp only) | (intro _; try dsimp only)) <;> (try dsimp only at *) <;> (try simp only [i64max, List.length_cons, List.length_nil]) <;> (try omega)
  · rename_i h; simp at h
  · rename_i i hi hl c hc y _ hp e he
    rw [toNat1 hi.1] at he; exact all_take_succ hi.2.2 hc hp e he
  · rename_i i hi hl c hc y _ hp
    exact takeWhile_take hi.2.2 (.inr ⟨c, hc, hp⟩)
  · rename_i i hi hl
    exact takeWhile_take hi.2.2 (.inl (by omega)))

def s_runF  : Sig := { X := List UInt8, args := fun x => [.str x, .clo (.func 255) []], pre := fun x => x.length < 2 ^ 63, Y := Unit, post := fun x y => True, res := fun x y => .str (x.takeWhile isFig), outs := fun x y => [.top, .top], keep := false }
theorem runF_vc (x : List UInt8) : vcFun Go.Proofs.Tryz.prog (Γof [(255, 0, s_isFigure)]) (Eof []) false (Lof ([(2,lTake isFig x fun i => [(0, .str x), (1, .clo (.func 255) []), (5, .int .i64 i)])])) Go.Proofs.Tryz.f253.ntmps Go.Proofs.Tryz.f253.results.toList (Go.Proofs.Tryz.f253.body.getD .skip) s_runF x = ((∀ (y : Unit), True → True ∧ True ∧ True ∧ True) ∧ (∃ (i : Int), ((0 : Int) ≤ i ∧ i ≤ (↑(List.length x) : Int) ∧ ∀ (e : UInt8), e ∈ List.take (Int.toNat i) x → isFig e = true) ∧ (x = x ∧ (0 : Int) = i ∧ True) ∧ True) ∧ ∀ (i : Int), ((0 : Int) ≤ i ∧ i ≤ (↑(List.length x) : Int) ∧ ∀ (e : UInt8), e ∈ List.take (Int.toNat i) x → isFig e = true) → bcase (decide (i < (↑(List.length x) : Int))) (((0 : Int) ≤ i ∧ i < (↑(List.length x) : Int)) ∧ ∀ (c : UInt8), x[Int.toNat i]? = some c → ∃ (x_1 : UInt8), True ∧ (↑(UInt8.toNat c) : Int) = (↑(UInt8.toNat x_1) : Int) ∧ ∀ (y : Unit), True → bcase (isFig x_1) (inR IntKind.i64 (i + (1 : Int)) ∧ ∃ (i' : Int), ((0 : Int) ≤ i' ∧ i' ≤ (↑(List.length x) : Int) ∧ ∀ (e : UInt8), e ∈ List.take (Int.toNat i') x → isFig e = true) ∧ List.length x - Int.toNat i' < List.length x - Int.toNat i ∧ (x = x ∧ i + (1 : Int) = i' ∧ True) ∧ True) (((0 : Int) ≤ (0 : Int) ∧ (0 : Int) ≤ i ∧ i ≤ (↑(List.length x) : Int)) ∧ ∃ (y : Unit), True ∧ List.take (Int.toNat i) x = List.takeWhile isFig x ∧ True)) (((0 : Int) ≤ (0 : Int) ∧ (0 : Int) ≤ i ∧ i ≤ (↑(List.length x) : Int)) ∧ ∃ (y : Unit), True ∧ List.take (Int.toNat i) x = List.takeWhile isFig x ∧ True)) := by kernel_rfl
theorem runF_ok  : Contract G Tryz.prog 253 s_runF :=
  vcFun_ok (Γ := Γof [(255, 0, s_isFigure)]) (E := Eof []) (ov := false) (L := fun x => Lof ([(2,lTake isFig x fun i => [(0, .str x), (1, .clo (.func 255) []), (5, .int .i64 i)])])) Tryz.func253 rfl (by decide) (Γof_ok (l := [(255, 0, s_isFigure)]) ⟨isFigure_ok, trivial⟩) fun (x : List UInt8) (hx : x.length < 2 ^ 63) => (runF_vc  x).mpr (by
  (repeat' first | with_reducible rfl | exact True.intro | refine inR_i64 ?_ ?_ | with_reducible refine And.intro ?_ ?_ | with_reducible refine bcase_dec (fun _ => ?_) (fun _ => ?_) | with_reducible refine bcase_bne (fun _ => ?_) (fun _ => ?_) | with_reducible refine bcase_beq (fun _ => ?_) (fun _ => ?_) | with_reducible refine bcase_not (fun _ => ?_) (fun _ => ?_) | refine bcase_intro (fun _ => ?_) (fun _ => ?_) | refine sl_eq ?_ | refine ex_flip () ?_ ?_ | (apply ex_flip6 <;> try dsimp only) | (apply ex_flip5 <;> try dsimp only) | (apply ex_flip4 <;> try dsimp only) | (apply ex_flip3 <;> try dsimp only) | (apply ex_flip2 <;> try dsimp only) | apply ex_flip | (refine Prod.forall.2 ?_; intro _; try dsimp only) | (intro _; try dsimp only)) <;> (try dsimp only at *) <;> (try simp only [i64max, List.length_cons, List.length_nil]) <;> (try omega)
  · rename_i h; simp at h
  · rename_i i hi hl c hc y _ hp e he
    rw [toNat1 hi.1] at he; exact all_take_succ hi.2.2 hc hp e he
  · rename_i i hi hl c hc y _ hp
    exact takeWhile_take hi.2.2 (.inr ⟨c, hc, hp⟩)
  · rename_i i hi hl
    exact takeWhile_take hi.2.2 (.inl (by omega)))

def s_runN  : Sig := { X := List UInt8, args := fun x => [.str x, .clo (.func 258) []], pre := fun x => x.length < 2 ^ 63, Y := Unit, post := fun x y => True, res := fun x y => .str (x.takeWhile notNl), outs := fun x y => [.top, .top], keep := false }
theorem runN_vc (x : List UInt8) : vcFun Go.Proofs.Tryz.prog (Γof [(258, 0, s_sg1)]) (Eof []) false (Lof ([(2,lTake notNl x fun i => [(0, .str x), (1, .clo (.func 258) []), (5, .int .i64 i)])])) Go.Proofs.Tryz.f253.ntmps Go.Proofs.Tryz.f253.results.toList (Go.Proofs.Tryz.f253.body.getD .skip) s_runN x = ((∀ (y : Unit), True → True ∧ True ∧ True ∧ True) ∧ (∃ (i : Int), ((0 : Int) ≤ i ∧ i ≤ (↑(List.length x) : Int) ∧ ∀ (e : UInt8), e ∈ List.take (Int.toNat i) x → notNl e = true) ∧ (x = x ∧ (0 : Int) = i ∧ True) ∧ True) ∧ ∀ (i : Int), ((0 : Int) ≤ i ∧ i ≤ (↑(List.length x) : Int) ∧ ∀ (e : UInt8), e ∈ List.take (Int.toNat i) x → notNl e = true) → bcase (decide (i < (↑(List.length x) : Int))) (((0 : Int) ≤ i ∧ i < (↑(List.length x) : Int)) ∧ ∀ (c : UInt8), x[Int.toNat i]? = some c → ∃ (x_1 : UInt8), True ∧ (↑(UInt8.toNat c) : Int) = (↑(UInt8.toNat x_1) : Int) ∧ ∀ (y : Unit), True → bcase (notNl x_1) (inR IntKind.i64 (i + (1 : Int)) ∧ ∃ (i' : Int), ((0 : Int) ≤ i' ∧ i' ≤ (↑(List.length x) : Int) ∧ ∀ (e : UInt8), e ∈ List.take (Int.toNat i') x → notNl e = true) ∧ List.length x - Int.toNat i' < List.length x - Int.toNat i ∧ (x = x ∧ i + (1 : Int) = i' ∧ True) ∧ True) (((0 : Int) ≤ (0 : Int) ∧ (0 : Int) ≤ i ∧ i ≤ (↑(List.length x) : Int)) ∧ ∃ (y : Unit), True ∧ List.take (Int.toNat i) x = List.takeWhile notNl x ∧ True)) (((0 : Int) ≤ (0 : Int) ∧ (0 : Int) ≤ i ∧ i ≤ (↑(List.length x) : Int)) ∧ ∃ (y : Unit), True ∧ List.take (Int.toNat i) x = List.takeWhile notNl x ∧ True)) := by kernel_rfl
theorem runN_ok  : Contract G Tryz.prog 253 s_runN :=
  vcFun_ok (Γ := Γof [(258, 0, s_sg1)]) (E := Eof []) (ov := false) (L := fun x => Lof ([(2,lTake notNl x fun i => [(0, .str x), (1, .clo (.func 258) []), (5, .int .i64 i)])])) Tryz.func253 rfl (by decide) (Γof_ok (l := [(258, 0, s_sg1)]) ⟨sg1_ok, trivial⟩) fun (x : List UInt8) (hx : x.length < 2 ^ 63) => (runN_vc  x).mpr (by
  (repeat' first | with_reducible rfl | exact True.intro | refine inR_i64 ?_ ?_ | with_reducible refine And.intro ?_ ?_ | with_reducible refine bcase_dec (fun _ => ?_) (fun _ => ?_) | with_reducible refine bcase_bne (fun _ => ?_) (fun _ => ?_) | with_reducible refine bcase_beq (fun _ => ?_) (fun _ => ?_) | with_reducible refine bcase_not (fun _ => ?_) (fun _ => ?_) | refine bcase_intro (fun _ => ?_) (fun _ => ?_) | refine sl_eq ?_ | refine ex_flip () ?_ ?_ | (apply ex_flip6 <;> try dsimp only) | (apply ex_flip5 <;> try dsimp only) | (apply ex_flip4 <;> try dsimp only) | (apply ex_flip3 <;> try dsimp only) | (apply ex_flip2 <;> try dsimp only) | apply ex_flip | (refine Prod.forall.2 ?_; intro _; try dsimp only) | (intro _; try dsimp only)) <;> (try dsimp only at *) <;> (try simp only [i64max, List.length_cons, List.length_nil]) <;> (try omega)
  · rename_i h; simp at h
  · rename_i i hi hl c hc y _ hp e he
    rw [toNat1 hi.1] at he; exact all_take_succ hi.2.2 hc hp e he
  · rename_i i hi hl c hc y _ hp
    exact takeWhile_take hi.2.2 (.inr ⟨c, hc, hp⟩)
  · rename_i i hi hl
    exact takeWhile_take hi.2.2 (.inl (by omega)))

end Go.My
end
section
/- Signs, plainly: the reference's way. -/
set_option linter.unusedVariables false
set_option linter.unusedSimpArgs false
namespace Go.My
open Go.Eng

def sgMk (x : List UInt8) : SgR := if markOk (x.take 2) then ⟨4, x.take 2, (x.take 2).length, true⟩ else if markOk (x.take 1) then ⟨4, x.take 1, 1, true⟩ else ⟨0, [], 0, false⟩
def sgInv (x : List UInt8) (i : Int) : Prop := (0 ≤ i ∧ i ≤ 2 ∧ i ≤ x.length) ∧ sgAt x = sgMk x ∧ ∀ j : Nat, i < j → j ≤ 2 → j ≤ x.length → markOk (x.take j) = false
theorem sgInv_yes {x : List UInt8} {i : Int} (h : sgInv x i) (hx : 1 ≤ x.length) (h0 : i > 0) (hm : markOk (x.take i.toNat) = true) : sgAt x = ⟨4, x.take i.toNat, i, true⟩ := by
  obtain ⟨⟨h1, h2, h3⟩, h4, h5⟩ := h
  rw [h4]
  have hi : i = 1 ∨ i = 2 := by omega
  rcases hi with rfl | rfl
  · by_cases hl : x.length = 1
    · have e : x.take 2 = x.take 1 := by rw [List.take_of_length_le (by omega), List.take_of_length_le (by omega)]
      have hm' : markOk (x.take 1) = true := hm
      simp only [sgMk, e, hm', if_true]
      have : (x.take 1).length = 1 := by simp; omega
      rw [this]; rfl
    · have := h5 2 (by omega) (by omega) (by omega)
      have hm' : markOk (x.take 1) = true := hm
      simp only [sgMk, this, hm', Bool.false_eq_true, if_false, if_true]; rfl
  · have hm' : markOk (x.take 2) = true := hm
    simp only [sgMk, hm', if_true]
    have : (x.take 2).length = 2 := by simp; omega
    rw [this]; rfl
theorem sgInv_no {x : List UInt8} {i : Int} (h : sgInv x i) (hx : 1 ≤ x.length) (h0 : ¬ i > 0) : sgAt x = ⟨0, [], 0, false⟩ := by
  obtain ⟨⟨h1, h2, h3⟩, h4, h5⟩ := h
  rw [h4]
  have a1 := h5 1 (by omega) (by omega) hx
  have a2 : markOk (x.take 2) = false := by
    by_cases hl : x.length = 1
    · have e : x.take 2 = x.take 1 := by rw [List.take_of_length_le (by omega), List.take_of_length_le (by omega)]
      rw [e]; exact a1
    · exact h5 2 (by omega) (by omega) (by omega)
  simp only [sgMk, a1, a2, Bool.false_eq_true, if_false]
theorem sgInv_next {x : List UInt8} {i : Int} (h : sgInv x i) (h0 : i > 0) (hm : markOk (x.take i.toNat) = false) : sgInv x (i - 1) := by
  obtain ⟨⟨h1, h2, h3⟩, h4, h5⟩ := h
  refine ⟨⟨by omega, by omega, by omega⟩, h4, fun j a b c => ?_⟩
  by_cases e : (j : Int) = i
  · have : j = i.toNat := by omega
    rw [this]; exact hm
  · exact h5 j (by omega) b c
theorem sgInv_init {b : UInt8} {t : List UInt8} (h1 : isFst b = false) (h2 : isFig b = false) (h3 : ¬ b.toNat = 39) (h4 : (b :: t).take 2 ≠ [47, 47]) : sgInv (b :: t) (min 2 ((b :: t).length : Int)) := by
  refine ⟨⟨by omega, by omega, by omega⟩, ?_, fun j a b c => by omega⟩
  simp only [sgAt, h1, h2, h3, h4, Bool.false_eq_true, if_false, sgMk]
theorem sgAt1 {b : UInt8} {t : List UInt8} (h : isFst b = true) : sgAt (b :: t) = ⟨1, (b :: t).takeWhile isInn, ((b :: t).takeWhile isInn).length, decide ((((b :: t).takeWhile isInn).length : Int) ≤ 30)⟩ := by
  have : decide ((((b :: t).takeWhile isInn).length : Int) ≤ 30) = decide (((b :: t).takeWhile isInn).length ≤ 30) := decide_eq_decide.2 (by omega)
  rw [this]; simp [sgAt, h]
theorem sgAt2 {b : UInt8} {t : List UInt8} (h0 : isFst b = false) (h : isFig b = true) : sgAt (b :: t) = ⟨2, (b :: t).takeWhile isFig, ((b :: t).takeWhile isFig).length, decide ((((b :: t).takeWhile isFig).length : Int) ≤ 12)⟩ := by
  have : decide ((((b :: t).takeWhile isFig).length : Int) ≤ 12) = decide (((b :: t).takeWhile isFig).length ≤ 12) := decide_eq_decide.2 (by omega)
  rw [this]; simp [sgAt, h, h0]
theorem sgAt3 {b : UInt8} {t : List UInt8} (h0 : isFst b = false) (h1 : isFig b = false) (h : (b.toNat : Int) = 39) : sgAt (b :: t) = ⟨3, (quoted (b :: t)).1, (quoted (b :: t)).1.length, (quoted (b :: t)).2⟩ := by
  have h : b.toNat = 39 := by omega
  simp [sgAt, h0, h1, h]
theorem sgAt5 {b : UInt8} {t : List UInt8} (h0 : isFst b = false) (h1 : isFig b = false) (h2 : (b.toNat : Int) ≠ 39) (h : (b :: t).take 2 = [47, 47]) :
    sgAt (b :: t) = ⟨5, trimR ((b :: t).takeWhile notNl), ((b :: t).takeWhile notNl).length, ((b :: t).takeWhile notNl).all isPln⟩ := by
  have h2 : ¬ b.toNat = 39 := by omega
  simp only [sgAt, h0, h1, h2, h, Bool.false_eq_true, if_false, if_true]
/- blanks at the end -/
theorem trimR_nil : trimR [] = [] := rfl
theorem trimR_snoc (s : List UInt8) (c : UInt8) : trimR (s ++ [c]) = if c.toNat = 32 then trimR s else s ++ [c] := by
  unfold trimR
  rw [List.reverse_append]
  simp only [List.reverse_cons, List.reverse_nil, List.nil_append, List.singleton_append, List.dropWhile_cons]
  by_cases h : c.toNat = 32
  · simp [h]
  · simp [h]
theorem snoc_of {s : List UInt8} {c : UInt8} (h : s[s.length - 1]? = some c) : s = s.take (s.length - 1) ++ [c] := by
  have h1 := takeE h
  have : s.length - 1 + 1 = s.length := by
    have := (List.getElem?_eq_some_iff.1 h).1; omega
  rw [this, List.take_length] at h1
  exact h1
theorem trimR_last {s : List UInt8} {c : UInt8} (h : s[s.length - 1]? = some c) : trimR s = if c.toNat = 32 then trimR (s.take (s.length - 1)) else s := by
  have h1 := snoc_of h
  rw [h1, trimR_snoc]
  split
  · rw [List.length_append]; simp
  · rfl
theorem trimR_take_succ {s : List UInt8} {n : Nat} {c : UInt8} (h : s[n]? = some c) : trimR (s.take (n + 1)) = if c.toNat = 32 then trimR (s.take n) else s.take (n + 1) := by
  rw [takeE h, trimR_snoc]
theorem trimR_prefix (s : List UInt8) : ∃ n, trimR s = s.take n := by
  unfold trimR
  refine ⟨(s.reverse.dropWhile fun c => decide (c.toNat = 32)).length, ?_⟩
  have := List.dropWhile_suffix (fun c : UInt8 => decide (c.toNat = 32)) (l := s.reverse)
  have := List.reverse_prefix.2 this
  rw [List.reverse_reverse] at this
  have h2 := List.prefix_iff_eq_take.1 this
  rw [List.length_reverse] at h2
  exact h2
theorem trimR_length (s : List UInt8) : (trimR s).length ≤ s.length := by
  obtain ⟨n, h⟩ := trimR_prefix s
  rw [h]; simp; omega

/- a text's length, a note's -/
def isQ (c : UInt8) : Bool := decide (c.toNat = 39)
def qlen (s : List UInt8) : Nat := match idxOf isQ (s.drop 1) with
  | none => 0
  | some i => if ((s.drop 1).take i).all isPln then i + 2 else 0
def nlen (s : List UInt8) : Nat := if s.take 2 = [47, 47] then (if (s.takeWhile notNl).all isPln then (s.takeWhile notNl).length else 0) else 0
theorem quoted_eq (s : List UInt8) : quoted s = match idxOf isQ (s.drop 1) with
    | none => ([], false)
    | some i => (s.take (i + 2), (s.take (i + 2)).all isPln) := rfl
theorem isPln_q {c : UInt8} (h : isQ c = true) : isPln c = true := by
  simp [isQ] at h; simp [isPln, h]
theorem idxOf_lt {p : UInt8 → Bool} {s : List UInt8} {i : Nat} (h : idxOf p s = some i) : i < s.length := by
  obtain ⟨_, e, he, _⟩ := idxOf_some.1 h
  exact (List.getElem?_eq_some_iff.1 he).1
/- the text that begins with a sign for texts: azs it is, and long enough -/
theorem quoted_q {c : UInt8} {s : List UInt8} (hc : isQ c = true) : (quoted (c :: s)).2 = true ↔ qlen (c :: s) ≠ 0 := by
  rw [quoted_eq]; unfold qlen
  simp only [List.drop_succ_cons, List.drop_zero]
  cases h : idxOf isQ s with
  | none => simp
  | some i =>
    simp only [List.take_succ_cons, List.all_cons, isPln_q hc, Bool.true_and]
    obtain ⟨h1, e, he, hq⟩ := idxOf_some.1 h
    rw [takeE he, List.all_append]
    simp [isPln_q hq]
theorem quoted_len {c : UInt8} {s : List UInt8} (hc : isQ c = true) (h : qlen (c :: s) ≠ 0) : (quoted (c :: s)).1 = (c :: s).take (qlen (c :: s)) ∧ qlen (c :: s) ≤ (c :: s).length := by
  rw [quoted_eq]; unfold qlen at h ⊢
  simp only [List.drop_succ_cons, List.drop_zero] at h ⊢
  cases hi : idxOf isQ s with
  | none => rw [hi] at h; simp at h
  | some i =>
    rw [hi] at h
    simp only at h ⊢
    split at h
    · rename_i hp
      have := idxOf_lt hi
      rw [if_pos hp]
      exact ⟨rfl, by simp; omega⟩
    · exact (h rfl).elim

theorem isFst_notFig {c : UInt8} (h : isFst c = true) : isFig c = false := by
  simp [isFst, isFig] at h ⊢; omega
theorem isFst_inn {c : UInt8} (h : isFst c = true) : isInn c = true := by simp [isInn, h]
theorem isFig_inn {c : UInt8} (h : isFig c = true) : isInn c = true := by simp [isInn, h]

/- what a sign is: each kind alone -/
theorem sg_name (s : List UInt8) : isSgn s 1 = match s with
    | [] => false
    | c :: _ => isFst c && (s.all isInn && decide (s.length ≤ 30)) := by
  cases s with
  | nil => rfl
  | cons c t =>
    by_cases hc : isFst c = true
    · simp only [isSgn, sgAt, hc, if_true, Bool.true_and]
      by_cases ha : (c :: t).all isInn = true
      · have := takeWhile_eq_self.2 ha
        rw [this, ha]; simp
      · have hn : ¬ (c :: t).takeWhile isInn = c :: t := fun e => ha (takeWhile_eq_self.1 e)
        simp only [Bool.not_eq_true] at ha
        rw [ha]
        have : ((c :: t).takeWhile isInn == c :: t) = false := by rw [beq_eq_false_iff_ne]; exact hn
        rw [this]; simp
    · simp only [Bool.not_eq_true] at hc
      simp only [hc, Bool.false_and]
      rw [Bool.eq_false_iff]
      intro h
      simp only [isSgn, sgAt, hc, Bool.false_eq_true, if_false, Bool.and_eq_true, decide_eq_true_eq] at h
      have h1 := h.2.2.1
      repeat' split at h1
      all_goals simp at h1
theorem sg_num (s : List UInt8) : isSgn s 2 = (s.all isFig && (decide (1 ≤ s.length) && decide (s.length ≤ 12))) := by
  cases s with
  | nil => rfl
  | cons c t =>
    by_cases hc : isFst c = true
    · have hf := isFst_notFig hc
      simp only [List.all_cons, hf, Bool.false_and]
      simp [isSgn, sgAt, hc]
    · simp only [Bool.not_eq_true] at hc
      by_cases hf : isFig c = true
      · simp only [isSgn, sgAt, hc, hf, Bool.false_eq_true, if_false, if_true]
        by_cases ha : (c :: t).all isFig = true
        · have := takeWhile_eq_self.2 ha
          rw [this, ha]; simp
        · have hn : ¬ (c :: t).takeWhile isFig = c :: t := fun e => ha (takeWhile_eq_self.1 e)
          simp only [Bool.not_eq_true] at ha
          rw [ha]
          have : ((c :: t).takeWhile isFig == c :: t) = false := by rw [beq_eq_false_iff_ne]; exact hn
          rw [this]; simp
      · simp only [Bool.not_eq_true] at hf
        simp only [List.all_cons, hf, Bool.false_and]
        rw [Bool.eq_false_iff]
        intro h
        simp only [isSgn, sgAt, hc, hf, Bool.false_eq_true, if_false, Bool.and_eq_true, decide_eq_true_eq] at h
        have h1 := h.2.2.1
        repeat' split at h1
        all_goals simp at h1
theorem sg_quot (s : List UInt8) : isSgn s 3 = match s with
    | [] => false
    | c :: _ => isQ c && (decide (1 < s.length) && decide (qlen s = s.length)) := by
  cases s with
  | nil => rfl
  | cons c t =>
    by_cases hq : isQ c = true
    · have h39 : c.toNat = 39 := by simpa [isQ] using hq
      have hc : isFst c = false := by simp [isFst]; omega
      have hf : isFig c = false := by simp [isFig]; omega
      simp only [hq, Bool.true_and]
      simp only [isSgn, sgAt, hc, hf, h39, Bool.false_eq_true, if_false, if_true]
      by_cases h0 : qlen (c :: t) = 0
      · have h2 : (quoted (c :: t)).2 = false := by
          rw [Bool.eq_false_iff]; intro h; exact (quoted_q hq).1 h h0
        rw [h2, h0]; simp
      · have h2 := (quoted_q hq).2 h0
        obtain ⟨h3, h4⟩ := quoted_len hq h0
        have h5 : 1 < qlen (c :: t) := by
          unfold qlen at h0 ⊢
          split at h0
          · exact (h0 rfl).elim
          · split at h0
            · rename_i hp; rw [if_pos hp]; omega
            · exact (h0 rfl).elim
        rw [h2, h3]
        rw [Bool.eq_iff_iff]
        simp only [Bool.and_eq_true, Bool.not_eq_true', decide_eq_true_eq, beq_iff_eq, List.length_take]
        constructor
        · rintro ⟨_, _, _, e, hl⟩
          have := congrArg List.length e
          simp only [List.length_take] at this
          constructor <;> omega
        · rintro ⟨h6, h7⟩
          refine ⟨by simp, trivial, trivial, ?_, ?_⟩
          · rw [h7, List.take_length]
          · omega
    · simp only [Bool.not_eq_true] at hq
      have h39 : ¬ c.toNat = 39 := by simpa [isQ] using hq
      simp only [hq, Bool.false_and]
      rw [Bool.eq_false_iff]
      intro h
      simp only [isSgn, sgAt, h39, if_false, Bool.and_eq_true, decide_eq_true_eq] at h
      have h1 := h.2.2.1
      repeat' split at h1
      all_goals simp at h1
theorem sg_note (s : List UInt8) : isSgn s 5 = (decide (1 < s.length) && (decide (nlen s = s.length) && (trimR s == s))) := by
  cases s with
  | nil => rfl
  | cons c t =>
    by_cases hp : (c :: t).take 2 = [47, 47]
    · have h47 : c = 47 := by
        have := congrArg (fun l : List UInt8 => l.head?) hp
        simpa using this
      subst h47
      have hl : 1 < (47 :: t).length := by
        have := congrArg List.length hp
        simp only [List.length_take, List.length_cons, List.length_nil] at this ⊢; omega
      have hc : isFst 47 = false := by decide
      have hf : isFig 47 = false := by decide
      have hq : ¬ (47 : UInt8).toNat = 39 := by decide
      simp only [isSgn, sgAt, hc, hf, hq, hp, Bool.false_eq_true, if_false, if_true, nlen]
      rw [Bool.eq_iff_iff]
      simp only [Bool.and_eq_true, Bool.not_eq_true', decide_eq_true_eq, beq_iff_eq, beq_eq_false_iff_ne]
      constructor
      · rintro ⟨_, h1, _, h2, h3⟩
        rw [if_pos h1]
        have h3 : ((47 :: t).takeWhile notNl).length = (47 :: t).length := by omega
        refine ⟨hl, h3, ?_⟩
        have e : (47 :: t).takeWhile notNl = 47 :: t := by
          have := List.takeWhile_prefix (p := notNl) (l := 47 :: t)
          exact List.IsPrefix.eq_of_length this h3
        rw [e] at h2; exact h2
      · rintro ⟨_, h1, h2⟩
        split at h1
        · rename_i h3
          have e : (47 :: t).takeWhile notNl = 47 :: t := by
            have := List.takeWhile_prefix (p := notNl) (l := 47 :: t)
            exact List.IsPrefix.eq_of_length this h1
          rw [e] at h3 ⊢
          exact ⟨by simp, h3, trivial, h2, rfl⟩
        · simp at h1
    · have h0 : nlen (c :: t) = 0 := by simp only [nlen, if_neg hp]
      rw [h0]
      have : decide (0 = (c :: t).length) = false := by simp
      rw [this]
      simp only [Bool.false_and, Bool.and_false]
      rw [Bool.eq_false_iff]
      intro h
      simp only [isSgn, sgAt, hp, if_false, Bool.and_eq_true, decide_eq_true_eq] at h
      have h1 := h.2.2.1
      repeat' split at h1
      all_goals simp at h1
theorem qlen_found {s : List UInt8} {m : Nat} {e : UInt8} (h : ∀ e ∈ (s.drop 1).take m, isQ e = false ∧ isPln e = true) (he : (s.drop 1)[m]? = some e) (hq : isQ e = true) : qlen s = m + 2 := by
  unfold qlen
  rw [idxOf_some.2 ⟨fun e he => (h e he).1, e, he, hq⟩]
  simp only
  rw [if_pos (List.all_eq_true.2 fun e he => (h e he).2)]
theorem qlen_bad {s : List UInt8} {m : Nat} {e : UInt8} (h : ∀ e ∈ (s.drop 1).take m, isQ e = false ∧ isPln e = true) (he : (s.drop 1)[m]? = some e) (hq : isQ e = false) (hp : isPln e = false) : qlen s = 0 := by
  unfold qlen
  cases hi : idxOf isQ (s.drop 1) with
  | none => rfl
  | some i =>
    simp only
    obtain ⟨h1, d, hd, hdq⟩ := idxOf_some.1 hi
    rw [if_neg]
    intro hall
    have hmi : m < i := by
      rcases Nat.lt_trichotomy m i with h' | h' | h'
      · exact h'
      · subst h'; rw [he] at hd; cases hd; rw [hq] at hdq; cases hdq
      · have : d ∈ (s.drop 1).take m := by
          rw [List.mem_take_iff_getElem]
          obtain ⟨a, b⟩ := List.getElem?_eq_some_iff.1 hd
          exact ⟨i, by omega, b⟩
        rw [(h d this).1] at hdq; cases hdq
    have : e ∈ (s.drop 1).take i := by
      rw [List.mem_take_iff_getElem]
      obtain ⟨a, b⟩ := List.getElem?_eq_some_iff.1 he
      exact ⟨m, by omega, b⟩
    rw [List.all_eq_true.1 hall e this] at hp; cases hp
theorem qlen_end {s : List UInt8} {m : Nat} (h : ∀ e ∈ (s.drop 1).take m, isQ e = false ∧ isPln e = true) (hl : (s.drop 1).length ≤ m) : qlen s = 0 := by
  unfold qlen
  rw [List.take_of_length_le hl] at h
  rw [idxOf_none.2 fun e he => (h e he).1]
theorem nlen_end {s : List UInt8} {m : Nat} (hp : s.take 2 = [47, 47]) (h : ∀ e ∈ s.take m, notNl e = true ∧ isPln e = true) (he : s.length ≤ m ∨ ∃ e, s[m]? = some e ∧ notNl e = false) (hm : m ≤ s.length) : nlen s = m := by
  have h1 := takeWhile_take (fun e he => (h e he).1) he
  unfold nlen
  rw [if_pos hp, ← h1, if_pos (List.all_eq_true.2 fun e he => (h e he).2), List.length_take]; omega
theorem nlen_bad {s : List UInt8} {m : Nat} {e : UInt8} (hp : s.take 2 = [47, 47]) (h : ∀ e ∈ s.take m, notNl e = true ∧ isPln e = true) (he : s[m]? = some e) (hn : notNl e = true) (hq : isPln e = false) : nlen s = 0 := by
  unfold nlen
  rw [if_pos hp, if_neg]
  intro hall
  have : e ∈ s.takeWhile notNl := by
    have h2 : s = s.take m ++ e :: s.drop (m + 1) := by rw [← dropE he, List.take_append_drop]
    rw [h2, List.takeWhile_append_of_pos (fun e he => (h e he).1), List.takeWhile_cons, if_pos hn]
    simp
  rw [List.all_eq_true.1 hall e this] at hq; cases hq
theorem nlen_no {s : List UInt8} (hp : s.take 2 ≠ [47, 47]) : nlen s = 0 := by
  unfold nlen; rw [if_neg hp]
theorem drop1_get {s : List UInt8} {a n : Int} (h0 : 0 ≤ a) (h : a + 1 ≤ n) : ((s.drop a.toNat).drop 1)[(n - a - 1).toNat]? = s[n.toNat]? := by
  rw [List.getElem?_drop, List.getElem?_drop]; congr 1; omega
theorem drop0_get {s : List UInt8} {a n : Int} (h0 : 0 ≤ a) (h : a ≤ n) : (s.drop a.toNat)[(n - a).toNat]? = s[n.toNat]? := by
  rw [List.getElem?_drop]; congr 1; omega
theorem all_next {p : UInt8 → Prop} {s : List UInt8} {m k : Nat} {e : UInt8} (h : ∀ e ∈ s.take m, p e) (he : s[m]? = some e) (hp : p e) (hk : k = m + 1) : ∀ e ∈ s.take k, p e := by
  subst hk
  rw [takeE he]; intro x hx
  rcases List.mem_append.1 hx with hx | hx
  · exact h x hx
  · simp at hx; subst hx; exact hp
/- the reference's loops -/
def qI (x : List UInt8 × Int) (i : Int) : Prop := x.2 + 1 ≤ i ∧ (i ≤ x.1.length ∨ i = x.2 + 1) ∧ ∀ e ∈ ((x.1.drop x.2.toNat).drop 1).take (i - x.2 - 1).toNat, isQ e = false ∧ isPln e = true
theorem qI_0 {x : List UInt8 × Int} : qI x (x.2 + 1) := by
  refine ⟨by omega, .inr rfl, fun e he => ?_⟩
  rw [show (x.2 + 1 - x.2 - 1).toNat = 0 by omega] at he; simp at he
theorem qI_b {x : List UInt8 × Int} {i : Int} (h : qI x i) : x.2 + 1 ≤ i ∧ (i ≤ x.1.length ∨ i = x.2 + 1) := ⟨h.1, h.2.1⟩
theorem qI_found {x : List UInt8 × Int} {i : Int} {c : UInt8} (h0 : 0 ≤ x.2) (h : qI x i) (hq : (c.toNat : Int) = 39) (hc : x.1[i.toNat]? = some c) : i + 1 - x.2 = qlen (x.1.drop x.2.toNat) := by
  have := h.1
  rw [qlen_found h.2.2 (by rw [drop1_get h0 h.1]; exact hc) (by simp [isQ]; omega)]; omega
theorem qI_bad {x : List UInt8 × Int} {i : Int} {c d : UInt8} (h0 : 0 ≤ x.2) (h : qI x i) (hq : (c.toNat : Int) ≠ 39) (hc : x.1[i.toNat]? = some c) (hp : isPln d = false) (hd : x.1[i.toNat]? = some d) : 0 = (qlen (x.1.drop x.2.toNat) : Int) := by
  rw [hc] at hd; cases hd
  rw [qlen_bad h.2.2 (by rw [drop1_get h0 h.1]; exact hc) (by simp [isQ]; omega) hp]; rfl
theorem qI_next {x : List UInt8 × Int} {i : Int} {c d : UInt8} (h0 : 0 ≤ x.2) (h : qI x i) (hl : i < x.1.length) (hq : (c.toNat : Int) ≠ 39) (hc : x.1[i.toNat]? = some c) (hp : isPln d = true) (hd : x.1[i.toNat]? = some d) : qI x (i + 1) := by
  rw [hc] at hd; cases hd
  have := h.1
  exact ⟨by omega, .inl (by omega), all_next (p := fun e => isQ e = false ∧ isPln e = true) h.2.2 (by rw [drop1_get h0 h.1]; exact hc) ⟨by simp [isQ]; omega, hp⟩ (by omega)⟩
theorem qI_end {x : List UInt8 × Int} {i : Int} (h0 : 0 ≤ x.2) (h : qI x i) (hl : ¬ i < x.1.length) : 0 = (qlen (x.1.drop x.2.toNat) : Int) := by
  rw [qlen_end h.2.2 (by simp; omega)]; rfl
def nI (x : List UInt8 × Int) (i : Int) : Prop := (x.2 ≤ i ∧ i ≤ x.1.length) ∧ (x.1.drop x.2.toNat).take 2 = [47, 47] ∧ ∀ e ∈ (x.1.drop x.2.toNat).take (i - x.2).toNat, notNl e = true ∧ isPln e = true
theorem nI_pre {x : List UInt8 × Int} (h0 : 0 ≤ x.2) : List.drop x.2.toNat (List.take (x.2 + 2).toNat x.1) = (x.1.drop x.2.toNat).take 2 := by
  rw [List.drop_take]; congr 1; omega
theorem nI_0 {x : List UInt8 × Int} (h0 : 0 ≤ x.2) (hl : x.2 ≤ x.1.length) (h : (List.drop x.2.toNat (List.take (x.2 + 2).toNat x.1) == [47, 47]) = true) : nI x x.2 := by
  rw [nI_pre h0] at h
  refine ⟨⟨by omega, hl⟩, by simpa using h, fun e he => ?_⟩
  rw [show (x.2 - x.2).toNat = 0 by omega] at he; simp at he
theorem nI_no {x : List UInt8 × Int} (h0 : 0 ≤ x.2) (h : (List.drop x.2.toNat (List.take (x.2 + 2).toNat x.1) == [47, 47]) = false) : 0 = (nlen (x.1.drop x.2.toNat) : Int) := by
  rw [nI_pre h0] at h
  rw [nlen_no (by simpa using h)]; rfl
theorem nI_short {x : List UInt8 × Int} (h0 : 0 ≤ x.2) (h : x.2 + 2 > x.1.length) : 0 = (nlen (x.1.drop x.2.toNat) : Int) := by
  rw [nlen_no]
  · rfl
  · intro e; have := congrArg List.length e; simp at this; omega
theorem nI_bad {x : List UInt8 × Int} {i : Int} {c d : UInt8} (h0 : 0 ≤ x.2) (h : nI x i) (hn : (c.toNat : Int) ≠ 10) (hc : x.1[i.toNat]? = some c) (hp : isPln d = false) (hd : x.1[i.toNat]? = some d) : 0 = (nlen (x.1.drop x.2.toNat) : Int) := by
  rw [hc] at hd; cases hd
  rw [nlen_bad h.2.1 h.2.2 (by rw [drop0_get h0 h.1.1]; exact hc) (by simp [notNl]; omega) hp]; rfl
theorem nI_next {x : List UInt8 × Int} {i : Int} {c d : UInt8} (h0 : 0 ≤ x.2) (h : nI x i) (hl : i < x.1.length) (hn : (c.toNat : Int) ≠ 10) (hc : x.1[i.toNat]? = some c) (hp : isPln d = true) (hd : x.1[i.toNat]? = some d) : nI x (i + 1) := by
  rw [hc] at hd; cases hd
  have := h.1
  exact ⟨by omega, h.2.1, all_next (p := fun e => notNl e = true ∧ isPln e = true) h.2.2 (by rw [drop0_get h0 h.1.1]; exact hc) ⟨by simp [notNl]; omega, hp⟩ (by omega)⟩
theorem nI_stop {x : List UInt8 × Int} {i : Int} {c : UInt8} (h0 : 0 ≤ x.2) (h : nI x i) (hn : (c.toNat : Int) = 10) (hc : x.1[i.toNat]? = some c) : i - x.2 = (nlen (x.1.drop x.2.toNat) : Int) := by
  have := h.1
  have hl := (List.getElem?_eq_some_iff.1 hc).1
  rw [nlen_end h.2.1 h.2.2 (.inr ⟨c, by rw [drop0_get h0 h.1.1]; exact hc, by simp [notNl]; omega⟩) (by simp; omega)]; omega
theorem nI_end {x : List UInt8 × Int} {i : Int} (h0 : 0 ≤ x.2) (h : nI x i) (hl : ¬ i < x.1.length) : i - x.2 = (nlen (x.1.drop x.2.toNat) : Int) := by
  have := h.1
  rw [nlen_end h.2.1 h.2.2 (.inl (by simp; omega)) (by simp; omega)]; omega
/- names -/
def nmI (x : List UInt8) (i : Int) : Prop := (0 ≤ i ∧ i ≤ x.length) ∧ (inn x.length 1 30 = true ∧ isFst (x.headD 0) = true ∧ kw x = false) ∧ ∀ e ∈ x.take i.toNat, isInn e = true
theorem nameOk_eq {x : List UInt8} : nameOk x = true ↔ (inn x.length 1 30 = true ∧ isFst (x.headD 0) = true ∧ kw x = false) ∧ x.all isInn = true := by
  unfold nameOk
  rw [sg_name]
  cases x with
  | nil => simp [inn]
  | cons c t =>
    simp only [inn, Bool.and_eq_true, decide_eq_true_eq, Bool.not_eq_true', List.headD_cons, List.length_cons]
    constructor
    · rintro ⟨⟨h1, h2, h3⟩, h4⟩; exact ⟨⟨⟨by omega, by omega⟩, h1, h4⟩, h2⟩
    · rintro ⟨⟨⟨h1, h2⟩, h3, h4⟩, h5⟩; exact ⟨⟨h3, h5, by omega⟩, h4⟩
theorem head_of {x : List UInt8} {c : UInt8} (h : x[0]? = some c) : x.headD 0 = c := by cases x <;> simp_all
theorem nmI_no {x : List UInt8} (h : ¬ (inn x.length 1 30 = true ∧ isFst (x.headD 0) = true ∧ kw x = false)) : false = nameOk x := by
  symm; rw [Bool.eq_false_iff]; intro hn; exact h (nameOk_eq.1 hn).1
theorem nmI_0 {x : List UInt8} (h : inn x.length 1 30 = true) (h1 : isFst (x.headD 0) = true) (h2 : kw x = false) : nmI x 0 := ⟨by omega, ⟨h, h1, h2⟩, fun e he => by simp at he⟩
theorem nmI_next {x : List UInt8} {i : Int} {c : UInt8} (h : nmI x i) (hc : x[i.toNat]? = some c) (hl : i < x.length) (hp : isInn c = true) : nmI x (i + 1) := by
  have := h.1
  exact ⟨by omega, h.2.1, all_next (p := fun e => isInn e = true) h.2.2 hc hp (by omega)⟩
theorem nmI_bad {x : List UInt8} {i : Int} {c : UInt8} (h : nmI x i) (hc : x[i.toNat]? = some c) (hp : isInn c = false) : false = nameOk x := by
  symm; rw [Bool.eq_false_iff]; intro hn
  have := (nameOk_eq.1 hn).2
  rw [not_all hc hp] at this; cases this
theorem nmI_end {x : List UInt8} {i : Int} (h : nmI x i) (hl : ¬ i < x.length) : true = nameOk x := by
  symm; rw [nameOk_eq]; exact ⟨h.2.1, all_of_take h.2.2 (by omega)⟩
theorem q_yes {x : List UInt8} {c : UInt8} (h1 : (x.length : Int) > 1) (hq : (c.toNat : Int) = 39) (h : x[0]? = some c) : ((qlen x : Int) == (x.length : Int)) = isSgn x 3 := by
  cases x with
  | nil => cases h
  | cons d t =>
    have : d = c := by simpa using h
    subst this
    have e : isQ d = true := by simp [isQ]; omega
    rw [sg_quot, Bool.eq_iff_iff]
    simp [e] at h1 ⊢; omega
theorem q_no {x : List UInt8} {c : UInt8} (hq : (c.toNat : Int) ≠ 39) (h : x[0]? = some c) : false = isSgn x 3 := by
  cases x with
  | nil => cases h
  | cons d t =>
    have : d = c := by simpa using h
    subst this
    have e : isQ d = false := by simp [isQ]; omega
    rw [sg_quot]; simp [e]
theorem q_short {x : List UInt8} (h1 : ¬ (x.length : Int) > 1) : false = isSgn x 3 := by
  rw [sg_quot]
  cases x with
  | nil => rfl
  | cons d t => 
    have : decide (1 < (d :: t).length) = false := decide_eq_false (by omega)
    simp only [this, Bool.false_and, Bool.and_false]
theorem n_yes {x : List UInt8} (h1 : (x.length : Int) > 1) (h2 : (nlen x : Int) = x.length) : (trimR x == x) = isSgn x 5 := by
  rw [sg_note]
  have e1 : decide (1 < x.length) = true := decide_eq_true (by omega)
  have e2 : decide (nlen x = x.length) = true := decide_eq_true (by omega)
  simp [e1, e2]
theorem n_no {x : List UInt8} (h2 : (nlen x : Int) ≠ x.length) : false = isSgn x 5 := by
  rw [sg_note]
  have e2 : decide (nlen x = x.length) = false := decide_eq_false (by omega)
  simp only [e2, Bool.false_and, Bool.and_false]
theorem n_short {x : List UInt8} (h1 : ¬ (x.length : Int) > 1) : false = isSgn x 5 := by
  rw [sg_note]
  have e2 : decide (1 < x.length) = false := decide_eq_false (by omega)
  simp only [e2, Bool.false_and]
end Go.My
end
