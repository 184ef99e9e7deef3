/- Regions, code, loops. -/
import Derived.Test.YtinkjpfkemkhaaaDoorEngU0
set_option linter.unusedVariables false
set_option linter.unusedSimpArgs false
namespace Go.Eng

def avoids (js : List Nat) : Option Nat → Bool
  | some d => !(js.elem d)
  | none => true

/- slots that nobody writes -/
def Fixed (js : List Nat) (a0 a : Act) : Prop := a.tmps.size = a0.tmps.size ∧ ∀ j, js.elem j = true → a.tmps[j]? = a0.tmps[j]?
theorem Fixed.put {js : List Nat} {a0 a : Act} (h : Fixed js a0 a) {d : Option Nat} (hd : avoids js d = true) (v : Value) : Fixed js a0 (a.put d v) := by
  refine ⟨by cases d <;> simp [Act.put, h.1], ?_⟩
  intro j hj
  cases d with
  | none => exact h.2 j hj
  | some d =>
    simp only [avoids, Bool.not_eq_true'] at hd
    have : d ≠ j := fun e => by rw [e, hj] at hd; cases hd
    simp only [Act.put]
    rw [Array.getElem?_setIfInBounds_ne this]
    exact h.2 j hj

def gsel (want c : Bool) (p q : Prop) : Prop := match want, c with
  | true, true => p
  | false, false => p
  | _, _ => q

def nestIdx (P : Program) (Γ : FuncId → Nat → Option Sig) (ops : Array Oper) (o : Oper) : List Nat → Bool
  | i1 :: i2 :: _ => match ops[i1]?, ops[i2]? with
    | some o1, some o2 => isNest P Γ o o1 o2
    | _, _ => false
  | _ => false
def vcIdx (P : Program) (Γ : FuncId → Nat → Option Sig) (E : TypeId → Option ES) (ov : Bool) (ops : Array Oper) : List Nat → St → (St → Prop) → Prop
  | [], s, K => K s
  | i :: rest, s, K => match ops[i]? with
    | none => vcIdx P Γ E ov ops rest s K
    | some o => match o.guard with
      | none => match nestIdx P Γ ops o rest with
        | true => match rest with
          | i1 :: i2 :: rest' => match ops[i1]?, ops[i2]? with
            | some o1, some o2 => vcNest P Γ o o1 o2 s fun s' => vcIdx P Γ E ov ops rest' s' K
            | _, _ => False
          | _ => False
        | false => vcOp P Γ E ov o s fun s' => vcIdx P Γ E ov ops rest s' K
      | some (j, want) => match (ops[j]?).bind (·.dst) with
        | none => False
        | some d => match s.regs[d]? with
          | some (.tup _) => vcIdx P Γ E ov ops rest ⟨setR s.regs o.dst (.tup []), s.nx⟩ K
          | some (.bool c) => bcase c
              (gsel want true (vcOp P Γ E ov o ⟨s.regs.set d (.bool true), s.nx⟩ fun s' => vcIdx P Γ E ov ops rest s' K)
                (vcIdx P Γ E ov ops rest ⟨setR (s.regs.set d (.bool true)) o.dst (.tup []), s.nx⟩ K))
              (gsel want false (vcOp P Γ E ov o ⟨s.regs.set d (.bool false), s.nx⟩ fun s' => vcIdx P Γ E ov ops rest s' K)
                (vcIdx P Γ E ov ops rest ⟨setR (s.regs.set d (.bool false)) o.dst (.tup []), s.nx⟩ K))
          | _ => False

theorem undef_rel (Z : FP) (η : Nat → Value) (w : World) : relS Z η w (.tup []) undef (fun _ => False) := by
  simp only [relS, relSL]; exact ⟨[], rfl, rfl, emp_false⟩

theorem Rel.skip {C : Ctx} {s : St} {a : Act} {w : World} (h : Rel C s a w) (dst : Option Nat) : Rel C ⟨setR s.regs dst (.tup []), s.nx⟩ (a.put dst undef) w := by
  obtain ⟨η, Z, T, hi⟩ := h
  exact hi.put dst (undef_rel Z η w) trivial

theorem Rel.know {C : Ctx} {s : St} {a : Act} {w : World} (h : Rel C s a w) {d : Nat} {c : Bool} (hd : s.regs[d]? = some (.bool c)) :
    Rel C ⟨s.regs.set d (.bool c), s.nx⟩ a w ∧ a.tmps[d]? = some (.bool c) := by
  have e : s.regs.set d (.bool c) = s.regs := by
    apply List.ext_getElem?
    intro i
    rw [List.getElem?_set]
    split
    · rename_i h1; subst h1
      split
      · exact hd.symm
      · rename_i h2; simp at h2; rw [List.getElem?_eq_none h2] at hd; cases hd
    · rfl
  obtain ⟨η, Z, T, hi⟩ := h
  obtain ⟨v, A, B, hv, hr, _⟩ := focus s.regs _ T d _ hi.rel hd
  simp only [relS, rel0] at hr
  refine ⟨by rw [e]; exact ⟨η, Z, T, hi⟩, ?_⟩
  rw [← Array.getElem?_toList, hv, hr.1]

theorem vcIdx_ok {P : Program} {Γ : FuncId → Nat → Option Sig} (hΓ : ∀ f k S, Γ f k = some S → Contract P f S) {E : TypeId → Option ES} {ov : Bool} {ops : Array Oper} {C : Ctx} {js : List Nat} {a0 : Act}
    (hjs : ∀ (i : Nat) (o : Oper), ops[i]? = some o → avoids js o.dst = true) {Q : Exit → Act → World → Prop} : ∀ (l : List Nat) (s : St) (K : St → Prop) (a : Act) (w : World), vcIdx P Γ E ov ops l s K →
    Rel C s a w → Fixed js a0 a → (∀ s' a' w', K s' → Rel C s' a' w' → Fixed js a0 a' → Q .normal a' w') → wpOps P ops Q l a w
  | [], s, K, a, w, h, hr, hf, hQ => hQ s a w h hr hf
  | i :: rest, s, K, a, w, h, hr, hf, hQ => by
    unfold vcIdx at h
    unfold wpOps
    split at h
    · rename_i ho
      simp only [ho]
      exact vcIdx_ok hΓ hjs rest s K a w h hr hf hQ
    · rename_i o ho
      simp only [ho]
      have hav := hjs i o ho
      have run : ∀ (s1 : St), Rel C s1 a w → vcOp P Γ E ov o s1 (fun s' => vcIdx P Γ E ov ops rest s' K) → o.wp P a w (wpOps P ops Q rest) Q := by
        intro s1 hr1 h1
        have := vcOp_ok hΓ h1 hr1 Q
        refine Oper_wp_mono this ?_
        rintro a' w' ⟨s', hk, hr', v, rfl⟩
        exact vcIdx_ok hΓ hjs rest s' K _ w' hk hr' (hf.put hav v) hQ
      have skip : ∀ (s1 : St), Rel C s1 a w → vcIdx P Γ E ov ops rest ⟨setR s1.regs o.dst (.tup []), s1.nx⟩ K → wpOps P ops Q rest (a.put o.dst undef) w := by
        intro s1 hr1 h1
        exact vcIdx_ok hΓ hjs rest _ K _ w h1 (hr1.skip o.dst) (hf.put hav undef) hQ
      split at h
      · rename_i hg
        have hw : Region.wanted o (yielded ops a.tmps) = true := by simp [Region.wanted, hg]
        rw [if_pos hw]
        split at h
        · rename_i hn
          split at h
          · rename_i i1 i2 rest'
            split at h
            · rename_i o1 o2 ho1 ho2
              have hg12 : o1.guard = none ∧ o2.guard = none := by
                simp only [nestIdx, ho1, ho2, isNest] at hn
                split at hn
                · rename_i h1 h2 h3; exact ⟨h2, h3⟩
                · cases hn
              obtain ⟨v, v1, e1, e2, e3⟩ := vcNest_ok hΓ h hr Q
              refine .inl ?_
              unfold Oper.wp
              rw [e1, Oper.upon_value]
              unfold wpOps
              simp only [ho1]
              have hw1 : ∀ t, Region.wanted o1 (yielded ops t) = true := fun t => by simp [Region.wanted, hg12.1]
              rw [if_pos (hw1 _)]
              refine .inl ?_
              unfold Oper.wp
              rw [e2, Oper.upon_value]
              unfold wpOps
              simp only [ho2]
              have hw2 : ∀ t, Region.wanted o2 (yielded ops t) = true := fun t => by simp [Region.wanted, hg12.2]
              rw [if_pos (hw2 _)]
              refine .inl ?_
              refine Oper_wp_mono e3 ?_
              rintro a' w' ⟨s', hk, hr', v2, rfl⟩
              exact vcIdx_ok hΓ hjs rest' s' K _ w' hk hr' (((hf.put hav v).put (hjs i1 o1 ho1) v1).put (hjs i2 o2 ho2) v2) hQ
            · exact h.elim
          · exact h.elim
        · exact .inl (run s hr h)
      · rename_i j want hg
        split at h
        · exact h.elim
        · rename_i d hd
          have hy : yielded ops a.tmps j = (match a.tmps[d]? with | some (.bool b) => some b | _ => none) := by
            simp only [yielded, hd]; rfl
          split at h
          · rename_i fs hreg
            have hnone : yielded ops a.tmps j = none := by
              obtain ⟨η, Z, T, hi⟩ := hr
              obtain ⟨v, A, B, hv, hrr, _⟩ := focus s.regs _ T d _ hi.rel hreg
              simp only [relS] at hrr
              obtain ⟨cs, e, _⟩ := hrr
              have : a.tmps[d]? = some v := by rw [← Array.getElem?_toList, hv]
              rw [hy, this, e]
            have hw : ¬ Region.wanted o (yielded ops a.tmps) = true := by simp [Region.wanted, hg, hnone]
            rw [if_neg hw]
            exact skip s hr h
          · rename_i c hreg
            obtain ⟨hr1, ht⟩ := hr.know hreg
            have hyc : yielded ops a.tmps j = some c := by rw [hy, ht]
            have hw : Region.wanted o (yielded ops a.tmps) = (c == want) := by simp [Region.wanted, hg, hyc]
            rw [hw]
            unfold bcase at h
            cases c
            · cases want
              · simp only [gsel] at h
                rw [if_pos (by rfl)]; exact .inl (run _ hr1 h)
              · simp only [gsel] at h
                rw [if_neg (by decide)]; exact skip _ hr1 h
            · cases want
              · simp only [gsel] at h
                rw [if_neg (by decide)]; exact skip _ hr1 h
              · simp only [gsel] at h
                rw [if_pos (by rfl)]; exact .inl (run _ hr1 h)
          · exact h.elim
where
  Oper_wp_mono {P : Program} {o : Oper} {a : Act} {w : World} {N N' : Act → World → Prop} {Q : Exit → Act → World → Prop} (h : o.wp P a w N Q) (hn : ∀ a' w', N a' w' → N' a' w') : o.wp P a w N' Q := by
    unfold Oper.wp Oper.upon at *
    split at h
    · exact hn _ _ h
    · exact hn _ _ h
    · exact hn _ _ h
    · refine h.mono ?_
      intro e w' he
      cases e with
      | returned v => exact hn _ _ he
      | panicked c => exact he
      | outgrown => exact he
    · exact h.mono fun v w' hh => hn _ _ hh
    · exact h
    · exact h.elim

end Go.Eng
