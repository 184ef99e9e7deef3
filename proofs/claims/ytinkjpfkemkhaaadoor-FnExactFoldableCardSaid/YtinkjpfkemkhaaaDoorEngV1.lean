/- Regions that draw: all orders. -/
import Derived.Test.YtinkjpfkemkhaaaDoorEngU2
import Derived.Orders
set_option linter.unusedVariables false
set_option linter.unusedSimpArgs false
namespace Go.Eng

theorem vcStep_ok {P : Program} {Γ : FuncId → Nat → Option Sig} (hΓ : ∀ f k S, Γ f k = some S → Contract P f S) {E : TypeId → Option ES} {ov : Bool} {ops : Array Oper} {C : Ctx} {js : List Nat} {a0 : Act}
    (hjs : ∀ (i : Nat) (o : Oper), ops[i]? = some o → avoids js o.dst = true) {Q : Exit → Act → World → Prop} {N : Act → World → Prop} (i : Nat) (s : St) (K : St → Prop) (a : Act) (w : World) (h : vcIdx P Γ E ov ops [i] s K)
    (hr : Rel C s a w) (hf : Fixed js a0 a) (hQ : ∀ s' a' w', K s' → Rel C s' a' w' → Fixed js a0 a' → N a' w') : wpOp P ops Q i N a w := by
  simp only [vcIdx] at h
  unfold wpOp
  split at h
  · rename_i ho
    simp only [ho]
    exact hQ s a w h hr hf
  · rename_i o ho
    simp only [ho]
    have hav := hjs i o ho
    have run : ∀ (s1 : St), Rel C s1 a w → vcOp P Γ E ov o s1 K → o.wp P a w N Q := by
      intro s1 hr1 h1
      have := vcOp_ok hΓ h1 hr1 Q
      refine vcIdx_ok.Oper_wp_mono this ?_
      rintro a' w' ⟨s', hk, hr', v, rfl⟩
      exact hQ s' _ w' hk hr' (hf.put hav v)
    have skip : ∀ (s1 : St), Rel C s1 a w → K ⟨setR s1.regs o.dst (.tup []), s1.nx⟩ → N (a.put o.dst undef) w := by
      intro s1 hr1 h1
      exact hQ _ _ w h1 (hr1.skip o.dst) (hf.put hav undef)
    split at h
    · rename_i hg
      have hw : Region.wanted o (yielded ops a.tmps) = true := by simp [Region.wanted, hg]
      rw [if_pos hw]
      simp only [nestIdx] at h
      exact .inl (run s hr h)
    · rename_i j want hg
      split at h
      · exact h.elim
      · rename_i d hd
        have hy : yielded ops a.tmps j = (match a.tmps[d]? with | some (.bool b) => some b | _ => none) := by
          simp only [yielded, hd]; rfl
        split at h
        · rename_i fs hreg
          have hnone : yielded ops a.tmps j = none := by
            obtain ⟨η, Z, T, hi⟩ := hr
            obtain ⟨v, A, B, hv, hrr, _⟩ := focus s.regs _ T d _ hi.rel hreg
            simp only [relS] at hrr
            obtain ⟨cs, e, _⟩ := hrr
            have : a.tmps[d]? = some v := by rw [← Array.getElem?_toList, hv]
            rw [hy, this, e]
          have hw : ¬ Region.wanted o (yielded ops a.tmps) = true := by simp [Region.wanted, hg, hnone]
          rw [if_neg hw]
          exact skip s hr h
        · rename_i c hreg
          obtain ⟨hr1, ht⟩ := hr.know hreg
          have hyc : yielded ops a.tmps j = some c := by rw [hy, ht]
          have hw : Region.wanted o (yielded ops a.tmps) = (c == want) := by simp [Region.wanted, hg, hyc]
          rw [hw]
          unfold bcase at h
          cases c
          · cases want
            · simp only [gsel] at h
              rw [if_pos (by rfl)]; exact .inl (run _ hr1 h)
            · simp only [gsel] at h
              rw [if_neg (by decide)]; exact skip _ hr1 h
          · cases want
            · simp only [gsel] at h
              rw [if_neg (by decide)]; exact skip _ hr1 h
            · simp only [gsel] at h
              rw [if_pos (by rfl)]; exact .inl (run _ hr1 h)
        · exact h.elim

def allL : List Nat → (Nat → Prop) → Prop
  | [], _ => True
  | [i], p => p i
  | i :: l, p => p i ∧ allL l p
theorem allL_mem {p : Nat → Prop} : ∀ {l : List Nat}, allL l p → ∀ i ∈ l, p i
  | [], _, i, h => by simp at h
  | [j], hp, i, h => by simp at h; subst h; exact hp
  | j :: k :: l, hp, i, h => by
    rcases List.mem_cons.1 h with rfl | h
    · exact hp.1
    · exact allL_mem hp.2 i h

def vcAny (P : Program) (Γ : FuncId → Nat → Option Sig) (E : TypeId → Option ES) (ov : Bool) (ops : Array Oper) : Nat → Array Bool → St → (St → Prop) → Prop
  | 0, listed, s, K => (Region.ready .any ops listed).isEmpty = true ∧ K s
  | fuel + 1, listed, s, K => match Region.ready .any ops listed with
    | [] => K s
    | i :: l => allL (i :: l) fun i => vcIdx P Γ E ov ops [i] s fun s' => vcAny P Γ E ov ops fuel (listed.setIfInBounds i true) s' K

theorem vcAny_ok {P : Program} {Γ : FuncId → Nat → Option Sig} (hΓ : ∀ f k S, Γ f k = some S → Contract P f S) {E : TypeId → Option ES} {ov : Bool} {ops : Array Oper} {C : Ctx} {js : List Nat} {a0 : Act}
    (hjs : ∀ (i : Nat) (o : Oper), ops[i]? = some o → avoids js o.dst = true) {Q : Exit → Act → World → Prop} :
    ∀ (fuel : Nat) (listed : Array Bool) (s : St) (K : St → Prop) (a : Act) (w : World), vcAny P Γ E ov ops fuel listed s K → Rel C s a w → Fixed js a0 a →
    (∀ s' a' w', K s' → Rel C s' a' w' → Fixed js a0 a' → Q .normal a' w') → wpAny P .any ops Q fuel listed a w
  | 0, listed, s, K, a, w, h, hr, hf, hQ => by
    obtain ⟨h1, h2⟩ := h
    exact ⟨List.isEmpty_iff.1 h1, hQ s a w h2 hr hf⟩
  | fuel + 1, listed, s, K, a, w, h, hr, hf, hQ => by
    unfold vcAny at h
    unfold wpAny
    split at h
    · rename_i he
      rw [he]
      exact ⟨fun _ => hQ s a w h hr hf, fun i hi => (by cases hi)⟩
    · rename_i i l he
      rw [he]
      refine ⟨fun h => (by cases h), fun j hj => ?_⟩
      exact vcStep_ok hΓ hjs j s _ a w (allL_mem h j hj) hr hf fun s' a' w' hk hr' hf' => vcAny_ok hΓ hjs fuel _ s' K a' w' hk hr' hf' hQ

theorem vcAll_ok {P : Program} {Γ : FuncId → Nat → Option Sig} (hΓ : ∀ f k S, Γ f k = some S → Contract P f S) {E : TypeId → Option ES} {ov : Bool} {id : Nat} {ops : Array Oper} {C : Ctx} {js : List Nat} {a0 : Act}
    {Q : Exit → Act → World → Prop} {s : St} {K : St → Prop} {a : Act} {w : World} (hm : P.follows .mixedOrders = true) (h : vcAny P Γ E ov ops ops.size (Array.replicate ops.size false) s K)
    (hjs : ∀ (i : Nat) (o : Oper), ops[i]? = some o → avoids js o.dst = true)
    (hr : Rel C s a w) (hf : Fixed js a0 a) (hQ : ∀ s' a' w', K s' → Rel C s' a' w' → Fixed js a0 a' → Q .normal a' w') : (Code.region id ops true).wp P Q a w := by
  refine wp_region_any hm ?_
  exact vcAny_ok hΓ hjs _ _ s K a _ h (hr.ext (w' := { w with drawn := w.drawn + 1 }) ⟨rfl, rfl, rfl, Nat.le_refl _, fun _ _ => rfl⟩) hf hQ
end Go.Eng
