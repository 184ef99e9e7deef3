/- A part of the proof: the engine and the contracts, joined. -/
import Derived.Test.YtlmpaancffikiaaGreatDoorQC
import Derived.Orders
import Derived.OrdersHeld
import Derived.Test.YtlmpaancffikiaaGreatDoorProg
import Derived.WalkKit
import Derived.Lib.Bytealg
import Derived.Laws.Externs
section
set_option linter.unusedVariables false
set_option linter.unusedSimpArgs false
namespace Go.Eng
theorem vcStep_ok {P : Program} {Γ : FuncId → Nat → Option Sig} {C : Ctx} (hΓ : ∀ f k S, Γ f k = some S → Contract C.G P f S) {E : TypeId → Option ES} {ov : Bool} {ops : Array Oper} {js : List Nat} {a0 : Act}
    (hjs : ∀ (i : Nat) (o : Oper), ops[i]? = some o → avoids js o.dst = true) {Q : Exit → Act → World → Prop} {N : Act → World → Prop} (i : Nat) (s : St) (K : St → Prop) (a : Act) (w : World) (h : vcIdx P Γ E ov ops [i] s K)
    (hr : Rel C s a w) (hf : Fixed js a0 a) (hQ : ∀ s' a' w', K s' → Rel C s' a' w' → Fixed js a0 a' → N a' w') : wpOp P ops Q i N a w := by
  simp only [vcIdx] at h
  unfold wpOp
  split at h
  · rename_i ho
    simp only [ho]
    exact hQ s a w h hr hf
  · rename_i o ho
    simp only [ho]
    have hav := hjs i o ho
    have run : ∀ (s1 : St), Rel C s1 a w → vcOp P Γ E ov o s1 K → o.wp P a w N Q := by
      intro s1 hr1 h1
      have := vcOp_ok hΓ h1 hr1 Q
      refine vcIdx_ok.Oper_wp_mono this ?_
      rintro a' w' ⟨s', hk, hr', v, rfl⟩
      exact hQ s' _ w' hk hr' (hf.put hav v)
    have skip : ∀ (s1 : St), Rel C s1 a w → K ⟨setR s1.regs o.dst (.tup []), s1.nx⟩ → N (a.put o.dst undef) w := by
      intro s1 hr1 h1
      exact hQ _ _ w h1 (hr1.skip o.dst) (hf.put hav undef)
    split at h
    · rename_i hg
      have hw : Region.wanted o (yielded ops a.tmps) = true := by simp [Region.wanted, hg]
      rw [if_pos hw]
      simp only [nestIdx] at h
      exact .inl (run s hr h)
    · rename_i j want hg
      split at h
      · exact h.elim
      · rename_i d hd
        have hy : yielded ops a.tmps j = (match a.tmps[d]? with | some (.bool b) => some b | _ => none) := by
          simp only [yielded, hd]; rfl
        split at h
        · rename_i fs hreg
          have hnone : yielded ops a.tmps j = none := by
            obtain ⟨η, Z, T, hi⟩ := hr
            obtain ⟨v, A, B, hv, hrr, _⟩ := focus s.regs _ T d _ hi.rel hreg
            simp only [relS] at hrr
            obtain ⟨cs, e, _⟩ := hrr
            have : a.tmps[d]? = some v := by rw [← Array.getElem?_toList, hv]
            rw [hy, this, e]
          have hw : ¬ Region.wanted o (yielded ops a.tmps) = true := by simp [Region.wanted, hg, hnone]
          rw [if_neg hw]
          exact skip s hr h
        · rename_i c hreg
          obtain ⟨hr1, ht⟩ := hr.know hreg
          have hyc : yielded ops a.tmps j = some c := by rw [hy, ht]
          have hw : Region.wanted o (yielded ops a.tmps) = (c == want) := by simp [Region.wanted, hg, hyc]
          rw [hw]
          unfold bcase at h
          cases c
          · cases want
            · simp only [gsel] at h
              rw [if_pos (by rfl)]; exact .inl (run _ hr1 h)
            · simp only [gsel] at h
              rw [if_neg (by decide)]; exact skip _ hr1 h
          · cases want
            · simp only [gsel] at h
              rw [if_neg (by decide)]; exact skip _ hr1 h
            · simp only [gsel] at h
              rw [if_pos (by rfl)]; exact .inl (run _ hr1 h)
        · exact h.elim
def allL : List Nat → (Nat → Prop) → Prop
  | [], _ => True
  | [i], p => p i
  | i :: l, p => p i ∧ allL l p
theorem allL_mem {p : Nat → Prop} : ∀ {l : List Nat}, allL l p → ∀ i ∈ l, p i
  | [], _, i, h => by simp at h
  | [j], hp, i, h => by simp at h; subst h; exact hp
  | j :: k :: l, hp, i, h => by
    rcases List.mem_cons.1 h with rfl | h
    · exact hp.1
    · exact allL_mem hp.2 i h
def isEarly (regs : List AV) (ops : Array Oper) (listed : Array Bool) (i : Nat) : Bool := match ops[i]? with
  | some o => match o.guard with
    | none => match earlyOp regs o.op with
      | true => Region.free .any ops listed i
      | false => false
    | some _ => false
  | none => false
def early (regs : List AV) (ops : Array Oper) (listed : Array Bool) : List Nat → Option Nat
  | [] => none
  | i :: l => match isEarly regs ops listed i with
    | true => some i
    | false => early regs ops listed l
theorem early_mem {regs : List AV} {ops : Array Oper} {listed : Array Bool} : ∀ {l : List Nat} {i : Nat}, early regs ops listed l = some i → i ∈ l ∧ isEarly regs ops listed i = true
  | [], i, h => by cases h
  | j :: l, i, h => by
    unfold early at h
    split at h
    · rename_i hj; cases h; exact ⟨by simp, hj⟩
    · have := early_mem h; exact ⟨by simp [this.1], this.2⟩
def vcAny (P : Program) (Γ : FuncId → Nat → Option Sig) (E : TypeId → Option ES) (ov : Bool) (ops : Array Oper) : Nat → Array Bool → St → (St → Prop) → Prop
  | 0, listed, s, K => (Region.ready .any ops listed).isEmpty = true ∧ K s
  | fuel + 1, listed, s, K => match Region.ready .any ops listed with
    | [] => K s
    | i :: l => match Region.noSelect ops, early s.regs ops listed (i :: l) with
      | true, some j => vcIdx P Γ E ov ops [j] s fun s' => vcAny P Γ E ov ops fuel (listed.setIfInBounds j true) s' K
      | _, _ => allL (i :: l) fun i => vcIdx P Γ E ov ops [i] s fun s' => vcAny P Γ E ov ops fuel (listed.setIfInBounds i true) s' K
def onlyN (R : Act → World → Prop) : Exit → Act → World → Prop
  | .normal, a, w => R a w
  | _, _, _ => False
theorem held_mono {P : Program} {ops : Array Oper} {Q : Exit → Act → World → Prop} {S S' : World → Prop} (h : ∀ w, S w → S' w) : ∀ (fuel : Nat) (listed : Array Bool) (a : Act) (w : World),
    wpAnyH P .any ops Q S fuel listed a w → wpAnyH P .any ops Q S' fuel listed a w
  | 0, _, _, _, hh => hh
  | fuel + 1, listed, a, w, hh => ⟨hh.1, fun i hi => wpOp_mono (fun a' w' h' => ⟨h w' h'.1, held_mono h fuel _ a' w' h'.2⟩) (hh.2 i hi)⟩
def Inst.here {C : Ctx} {s : St} {a : Act} {w : World} {η : Nat → Value} {Z T : FP} (hi : Inst C s a w η Z T) : Ctx := ⟨w, Z, T, C.G, hi.ok.glob, fun b hb => (hi.own b hb).1⟩
theorem Inst.at_here {C : Ctx} {s : St} {a : Act} {w : World} {η : Nat → Value} {Z T : FP} (hi : Inst C s a w η Z T) : Inst hi.here s a w η Z T :=
  ⟨hi.defers, hi.rel, hi.ids, fun b hb => ⟨(hi.own b hb).1, (hi.own b hb).2.1, fun _ => hb⟩, ⟨rfl, rfl, rfl, Nat.le_refl _, fun b _ _ => ⟨rfl, Iff.rfl⟩⟩⟩
theorem Inst.from_here {C : Ctx} {s : St} {a : Act} {w : World} {η : Nat → Value} {Z T : FP} (hi : Inst C s a w η Z T) {s' : St} {a' : Act} {w' : World} {η' : Nat → Value} {Z' T' : FP} (h : Inst hi.here s' a' w' η' Z' T') :
    Inst C s' a' w' η' Z' T' := by
  refine ⟨h.defers, h.rel, h.ids, fun b hb => ?_, ?_⟩
  · obtain ⟨h1, h2, h3⟩ := h.own b hb
    refine ⟨h1, h2, fun hlt => ?_⟩
    exact (hi.own b (h3 (Nat.lt_of_lt_of_le hlt hi.ok.size))).2.2 hlt
  · refine ⟨h.ok.os.trans hi.ok.os, h.ok.tape.trans hi.ok.tape, h.ok.output.trans hi.ok.output, Nat.le_trans hi.ok.size h.ok.size, fun b hlt hn => ?_⟩
    obtain ⟨g1, g2⟩ := hi.ok.old b hlt hn
    have hT : ¬ T b := fun hb => hn ((hi.own b hb).2.2 hlt)
    obtain ⟨g3, g4⟩ := h.ok.old b (Nat.lt_of_lt_of_le hlt hi.ok.size) hT
    exact ⟨g3.trans g1, g4.trans g2⟩
theorem Inst.agree {C : Ctx} {s : St} {a : Act} {w : World} {η : Nat → Value} {Z T : FP} (hi : Inst C s a w η Z T) {s' : St} {a' : Act} {w' : World} {η' : Nat → Value} {Z' T' : FP} (h : Inst hi.here s' a' w' η' Z' T') :
    Agree Z w w' ∧ ∀ b, ¬ Z b → b < w.heap.size → ¬ Z' b := by
  have key : ∀ b, ¬ Z b → b < w.heap.size → w'.heap[b]? = w.heap[b]? ∧ ¬ Z' b := fun b hz hlt => by
    obtain ⟨g1, g2⟩ := h.ok.old b hlt (fun hb => hz (hi.own b hb).1)
    exact ⟨g1, fun x => hz (g2.1 x)⟩
  exact ⟨fun b hz hlt => (key b hz hlt).1, fun b hz hlt => (key b hz hlt).2⟩
theorem vcAny_ok {P : Program} {Γ : FuncId → Nat → Option Sig} {C : Ctx} (hΓ : ∀ f k S, Γ f k = some S → Contract C.G P f S) {E : TypeId → Option ES} {ov : Bool} {ops : Array Oper} {js : List Nat} {a0 : Act}
    (hjs : ∀ (i : Nat) (o : Oper), ops[i]? = some o → avoids js o.dst = true) {R : Act → World → Prop} :
    ∀ (fuel : Nat) (listed : Array Bool) (s : St) (K : St → Prop) (a : Act) (w : World) (η : Nat → Value) (Z T : FP) (S : World → Prop), vcAny P Γ E ov ops fuel listed s K → Inst C s a w η Z T → Fixed js a0 a →
    (∀ w', w.heap.size ≤ w'.heap.size → Agree Z w w' → S w') → (∀ s' a' w', K s' → Rel C s' a' w' → Fixed js a0 a' → R a' w') → wpAnyH P .any ops (onlyN R) S fuel listed a w
  | 0, listed, s, K, a, w, η, Z, T, S, h, hi, hf, hS, hQ => by
    obtain ⟨h1, h2⟩ := h
    exact ⟨List.isEmpty_iff.1 h1, hQ s a w h2 ⟨η, Z, T, hi⟩ hf⟩
  | fuel + 1, listed, s, K, a, w, η, Z, T, S, h, hi, hf, hS, hQ => by
    unfold vcAny at h
    split at h
    · rename_i he
      unfold wpAnyH
      rw [he]
      exact ⟨fun _ => hQ s a w h ⟨η, Z, T, hi⟩ hf, fun i hi => (by cases hi)⟩
    · rename_i i l he
      split at h
      · rename_i j hns hj
        obtain ⟨hm, hej⟩ := early_mem hj
        unfold isEarly at hej
        split at hej
        rotate_left
        · cases hej
        rename_i o ho
        split at hej
        rotate_left
        · cases hej
        rename_i hg
        split at hej
        rotate_left
        · cases hej
        rename_i hop
        have hav := hjs j o ho
        simp only [vcIdx, ho, hg, nestIdx] at h
        have hp : vcPure P ov s.regs o.op (fun r => vcAny P Γ E ov ops fuel (listed.setIfInBounds j true) ⟨setR s.regs o.dst r, s.nx⟩ K) := by
          unfold vcOp at h
          cases heq : o.op <;> simp only [heq, earlyOp, Bool.false_eq_true] at hop <;> simp only [heq] at h ⊢ <;> exact h
        obtain ⟨v, r, h1, h2, h3, h4⟩ := vcEarly_ok hop hp hi.rel hi.ids
        have hw : Region.wanted o (yielded ops a.tmps) = true := by simp [Region.wanted, hg]
        obtain ⟨η2, Z2, T2, hi2⟩ := hi.at_here.put o.dst h2 h3
        obtain ⟨hag, hzz⟩ := hi.agree hi2
        have hsz := hi2.ok.size
        refine held_mono (S := fun w' => S w' ∧ Agree Z w w') (fun w' h => h.1) _ _ _ _ ?_
        refine wpAnyH_take ho hns hej (by rw [he]; simpa using hm) (fun c a w h => h) (.inl ⟨hw, fun w' hw' => h1 w' hw'.2⟩) ⟨hS w (Nat.le_refl _) (fun _ _ _ => rfl), fun _ _ _ => rfl⟩ ?_
        refine vcAny_ok hΓ hjs fuel _ _ K _ w η2 Z2 T2 _ h4 (hi.from_here hi2) (hf.put hav v) (fun w' hle hA => ?_) hQ
        have hA' : Agree Z w w' := fun b hz hlt => hA b (hzz b hz hlt) hlt
        exact ⟨hS w' hle hA', hA'⟩
      · unfold wpAnyH
        rw [he]
        refine ⟨fun h => (by cases h), fun j hj => ?_⟩
        refine vcStep_ok (C := hi.here) hΓ hjs j s _ a w (allL_mem h j hj) ⟨η, Z, T, hi.at_here⟩ hf fun s' a' w' hk hr' hf' => ?_
        obtain ⟨η2, Z2, T2, hi2⟩ := hr'
        obtain ⟨hag, hzz⟩ := hi.agree hi2
        have hsz : w.heap.size ≤ w'.heap.size := hi2.ok.size
        refine ⟨hS w' hsz hag, vcAny_ok hΓ hjs fuel _ s' K a' w' η2 Z2 T2 S hk (hi.from_here hi2) hf' (fun w2 hle hA => ?_) hQ⟩
        exact hS w2 (Nat.le_trans hsz hle) fun b hz hlt => (hA b (hzz b hz hlt) (Nat.lt_of_lt_of_le hlt hsz)).trans (hag b hz hlt)
theorem vcAll_ok {P : Program} {Γ : FuncId → Nat → Option Sig} {C : Ctx} (hΓ : ∀ f k S, Γ f k = some S → Contract C.G P f S) {E : TypeId → Option ES} {ov : Bool} {id : Nat} {ops : Array Oper} {js : List Nat} {a0 : Act}
    {Q : Exit → Act → World → Prop} {s : St} {K : St → Prop} {a : Act} {w : World} (hm : P.follows .mixedOrders = true) (h : vcAny P Γ E ov ops ops.size (Array.replicate ops.size false) s K)
    (hjs : ∀ (i : Nat) (o : Oper), ops[i]? = some o → avoids js o.dst = true)
    (hr : Rel C s a w) (hf : Fixed js a0 a) (hQ : ∀ s' a' w', K s' → Rel C s' a' w' → Fixed js a0 a' → Q .normal a' w') : (Code.region id ops true).wp P Q a w := by
  refine wp_mono (Q := onlyN fun a w => Q .normal a w) (wp_region_any hm ?_) (fun e a w h => ?_)
  · obtain ⟨η, Z, T, hi⟩ := hr.ext (w' := { w with drawn := w.drawn + 1 }) ⟨rfl, rfl, rfl, Nat.le_refl _, fun _ _ => rfl⟩
    exact wpAny_of_held _ _ _ _ (vcAny_ok hΓ hjs _ _ s K a _ η Z T (fun _ => True) h hi hf (fun _ _ _ => trivial) hQ)
  · cases e <;> simp only [onlyN] at h <;> exact h
def isHoist (ops : Array Oper) (i : Nat) : Bool := match ops[i]? with
  | some o => match o.guard with
    | none => hoistOp o.op
    | some _ => false
  | none => false
def allApart (ops : Array Oper) (oi : Oper) : List Nat → Bool
  | [] => true
  | j :: l => match ops[j]? with
    | some oj => match oi.apart ops oj with
      | true => allApart ops oi l
      | false => false
    | none => false
def okApart (ops : Array Oper) (i : Nat) (pre : List Nat) : Bool := match ops[i]? with
  | some oi => allApart ops oi pre
  | none => false
def findH (ops : Array Oper) : List Nat → List Nat → Option (List Nat × Nat × List Nat)
  | _, [] => none
  | pre, i :: rest => match isHoist ops i, okApart ops i pre with
    | true, true => some (pre, i, rest)
    | _, _ => findH ops (pre ++ [i]) rest
def vcHo (P : Program) (Γ : FuncId → Nat → Option Sig) (E : TypeId → Option ES) (ov : Bool) (ops : Array Oper) : Nat → List Nat → St → (St → Prop) → Prop
  | 0, _, _, _ => False
  | _ + 1, [], s, K => K s
  | n + 1, j :: rest, s, K => match findH ops [j] rest with
    | some (pre, i, post) => vcIdx P Γ E ov ops [i] s fun s' => vcHo P Γ E ov ops n (pre ++ post) s' K
    | none => vcIdx P Γ E ov ops [j] s fun s' => vcHo P Γ E ov ops n rest s' K
theorem findH_spec {ops : Array Oper} : ∀ {l pre pre' post : List Nat} {i : Nat}, findH ops pre l = some (pre', i, post) → isHoist ops i = true ∧ okApart ops i pre' = true ∧ pre ++ l = pre' ++ i :: post
  | [], pre, pre', post, i, h => by cases h
  | j :: l, pre, pre', post, i, h => by
    unfold findH at h
    split at h
    · rename_i h1 h2
      simp only [Option.some.injEq, Prod.mk.injEq] at h
      obtain ⟨rfl, rfl, rfl⟩ := h
      exact ⟨h1, h2, rfl⟩
    · obtain ⟨h1, h2, h3⟩ := findH_spec h
      exact ⟨h1, h2, by rw [← h3]; simp⟩
theorem hoist_back {P : Program} {ops : Array Oper} {R : Act → World → Prop} {i : Nat} {oi : Oper} {v : Value} (hi : ops[i]? = some oi) (hs : Region.noSelect ops = true) {post : List Nat} :
    ∀ {pre : List Nat} {a : Act} {w : World}, allApart ops oi pre = true → Yields P ops oi v a → wpOps P ops (onlyN R) (pre ++ post) (a.put oi.dst v) w → wpOps P ops (onlyN R) (pre ++ i :: post) a w
  | [], a, w, _, hy, h => by
    rw [List.nil_append, wpOps_cons]; exact hy.wpOp hi h
  | j :: pre, a, w, hap, hy, h => by
    unfold allApart at hap
    split at hap
    rotate_left
    · cases hap
    rename_i oj hj
    split at hap
    rotate_left
    · cases hap
    rename_i hapj
    rw [List.cons_append, wpOps_cons] at h ⊢
    have := wpOp_put hj hapj (fun cs b => Region.noSelect_spec hs i oi cs b hi) (fun cs b => Region.noSelect_spec hs j oj cs b hj) (fun c a w h => h) hy h
    exact wpOp_mono (fun a' w' h' => hoist_back hi hs hap h'.1 h'.2) this
theorem vcHo_ok {P : Program} {Γ : FuncId → Nat → Option Sig} {C : Ctx} (hΓ : ∀ f k S, Γ f k = some S → Contract C.G P f S) {E : TypeId → Option ES} {ov : Bool} {ops : Array Oper} {js : List Nat} {a0 : Act}
    (hs : Region.noSelect ops = true) (hjs : ∀ (i : Nat) (o : Oper), ops[i]? = some o → avoids js o.dst = true) {R : Act → World → Prop} :
    ∀ (n : Nat) (l : List Nat) (s : St) (K : St → Prop) (a : Act) (w : World), vcHo P Γ E ov ops n l s K → Rel C s a w → Fixed js a0 a →
    (∀ s' a' w', K s' → Rel C s' a' w' → Fixed js a0 a' → R a' w') → wpOps P ops (onlyN R) l a w
  | 0, l, s, K, a, w, h, hr, hf, hQ => h.elim
  | n + 1, [], s, K, a, w, h, hr, hf, hQ => hQ s a w h hr hf
  | n + 1, j :: rest, s, K, a, w, h, hr, hf, hQ => by
    unfold vcHo at h
    split at h
    · rename_i pre i post hfi
      obtain ⟨h1, h2, h3⟩ := findH_spec hfi
      have h3 : j :: rest = pre ++ i :: post := h3
      rw [h3]
      unfold isHoist at h1
      split at h1
      rotate_left
      · cases h1
      rename_i o ho
      split at h1
      rotate_left
      · cases h1
      rename_i hg
      unfold okApart at h2
      rw [ho] at h2
      simp only [vcIdx, ho, hg, nestIdx] at h
      obtain ⟨η, Z, T, hi⟩ := hr
      have hp : vcPure P ov s.regs o.op (fun r => vcHo P Γ E ov ops n (pre ++ post) ⟨setR s.regs o.dst r, s.nx⟩ K) := by
        unfold vcOp at h
        unfold hoistOp at h1
        split at h1
        · rename_i x heq
          simp only [heq] at h ⊢; exact h
        · rename_i args ts heq
          simp only [heq] at h ⊢; exact h
        · cases h1
      obtain ⟨v, r, g1, g2, g3, g4⟩ := vcHoist_ok h1 hp hi.rel hi.ids
      have hw : Region.wanted o (yielded ops a.tmps) = true := by simp [Region.wanted, hg]
      exact hoist_back ho hs h2 (.inl ⟨hw, g1⟩) (vcHo_ok hΓ hs hjs n _ _ K _ w g4 (hi.put o.dst g2 g3) (hf.put (hjs i o ho) v) hQ)
    · rw [wpOps_cons]
      exact vcStep_ok hΓ hjs j s _ a w h hr hf fun s' a' w' hk hr' hf' => vcHo_ok hΓ hs hjs n _ s' K a' w' hk hr' hf' hQ
end Go.Eng
end
section
set_option linter.unusedVariables false
set_option linter.unusedSimpArgs false
namespace Go.Eng
inductive Ex where
  | normal
  | exit (id : Nat)
  | ret
def Ex.to : Ex → Exit
  | .normal => .normal
  | .exit id => .exit id
  | .ret => .ret
structure LS : Type 1 where
  ι : Type
  inv : ι → Prop
  regs : ι → List (Nat × AV)
  als : List (Nat × Nat)
  meas : ι → Nat
  sub : ι → List (Nat × LS) := fun _ => []
  clos : List (Nat × Fn × Nat) := []
def LofL : List (Nat × LS) → (Nat → Option LS) → Nat → Option LS
  | [], L => L
  | (g, S) :: l, L => fun f => match Nat.beq g f with
    | true => some S
    | false => LofL l L f
def enterL : List (Nat × AV) → List AV → (List AV → Prop) → Prop
  | [], regs, K => K regs
  | (j, e) :: rest, regs, K => hand1 false e regs (opAV regs (.tmp j)) fun regs' => enterL rest regs' K
def aliasOk (regs : List AV) : List (Nat × Nat) → Prop
  | [] => True
  | (s, j) :: rest => (match opAV regs (.tmp s), opAV regs (.tmp j) with
      | .al a, .al b => match Nat.beq a b with
        | true => True
        | false => False
      | _, _ => False) ∧ aliasOk regs rest
def setAll : List AV → List Nat → List AV → List AV
  | regs, j :: js, a :: azs => setAll (regs.set j a) js azs
  | regs, _, _ => regs
def aliasL : List AV → List (Nat × Nat) → List AV
  | regs, [] => regs
  | regs, (s, j) :: rest => aliasL (regs.set s (opAV regs (.tmp j))) rest
def capInit : List (Nat × Fn × Nat) → List AV → List AV
  | [], regs => regs
  | (p, fn, j) :: l, regs => capInit l (match regs[j]? with
    | some (.box id _) => regs.set p (.clo fn [.al id])
    | _ => regs)
def capSt (caps : List (Nat × Fn × Nat)) (s : St) : St := match caps with
  | [] => s
  | c :: cs => ⟨capInit (c :: cs) s.regs, s.nx⟩
def cloR (regs : List AV) : List (Nat × Fn × Nat) → Prop
  | [] => True
  | (s, fn, j) :: rest => (match opAV regs (.tmp s), opAV regs (.tmp j) with
      | .clo fn' [.al a], .al b => match fnEq fn' fn, Nat.beq a b with
        | true, true => True
        | _, _ => False
      | _, _ => False) ∧ cloR regs rest
def headSt0 (N : Nat) (L : LS) (i : L.ι) : St :=
  ⟨aliasL (setAll (List.replicate N .top) ((L.regs i).map (·.1)) (stampL 0 ((L.regs i).map (·.2))).1) L.als, (stampL 0 ((L.regs i).map (·.2))).2⟩
def headSt (N : Nat) (L : LS) (i : L.ι) : St := capSt L.clos (headSt0 N L i)
def enter0 (s : St) (L : LS) (i : L.ι) : Prop := enterL (L.regs i) s.regs (fun _ => True) ∧ aliasOk s.regs L.als
def enter (s : St) (L : LS) (i : L.ι) : Prop := match L.clos with
  | [] => enterL (L.regs i) s.regs (fun _ => True) ∧ aliasOk s.regs L.als
  | c :: cs => enter0 s L i ∧ cloR s.regs (c :: cs)
theorem enter_two {s : St} {L : LS} {i : L.ι} (h : enter s L i) : enter0 s L i ∧ cloR s.regs L.clos := by
  unfold enter at h
  cases hc : L.clos with
  | nil => rw [hc] at h; exact ⟨h, trivial⟩
  | cons c cs => rw [hc] at h; exact h
theorem enterL_ok {η : Nat → Value} {w : World} {n : Nat} {a : Act} : ∀ (es : List (Nat × AV)) (regs : List AV) (K : List AV → Prop), enterL es regs K →
    ∀ (Z B : FP), relSL Z η w regs a.tmps.toList B → idsBL n regs → (∀ b, B b → Z b) →
    ∃ Z' A', rel0L Z' w (es.map (·.2)) (es.map fun p => a.eval (.tmp p.1)) A' ∧ (∀ b, Z' b → Z b) ∧ (∀ b, Z b → ¬ Z' b → B b) ∧ (∀ b, A' b → B b) ∧ (∀ b, A' b → Z' b)
  | [], regs, K, h, Z, B, hR, hI, hB => ⟨Z, fun _ => False, by simp [rel0L, emp], fun _ h => h, fun _ h h' => (h' h).elim, fun _ h => h.elim, fun _ h => h.elim⟩
  | (j, e) :: es, regs, K, h, Z, B, hR, hI, hB => by
    unfold enterL at h
    obtain ⟨Z1, A1, B1, r1, ho⟩ := hand1_ok e regs _ _ h Z a.tmps.toList (a.eval (.tmp j)) B (fun _ => False) B hR hI (opAV_rel hR (.tmp j)) (opAV_ids hI (.tmp j)) (join_emp_left B)
    obtain ⟨Z2, A2, k1, k2, k3, k4, k5⟩ := enterL_ok es r1 K ho.k Z1 B1 ho.rel ho.ids (fun b hb => ho.ownB rfl b hb (hB b (ho.part b (.inr hb))))
    refine ⟨Z2, fun b => A1 b ∨ A2 b, ?_, fun b hb => ho.zz b (k2 b hb), ?_, ?_, ?_⟩
    · simp only [List.map_cons, rel0L]
      refine ⟨_, _, A1, A2, rfl, ⟨fun _ => Iff.rfl, fun b x y => ho.dis b x (k4 b y)⟩, rel0_mono (zmono k2) _ _ _ (fun _ _ => rfl) ho.got, k1⟩
    · intro b hz hz2
      by_cases hz1 : Z1 b
      · exact ho.part b (.inr (k3 b hz1 hz2))
      · exact ho.gone b hz hz1
    · intro b hb
      exact hb.elim (fun hb => ho.part b (.inl hb)) (fun hb => ho.part b (.inr (k4 b hb)))
    · intro b hb
      rcases hb with hb | hb
      · have hz1 := ho.ownA b hb (hB b (ho.part b (.inl hb)))
        exact Classical.byContradiction fun hn => ho.dis b hb (k3 b hz1 hn)
      · exact k5 b hb
theorem setAll_ok {Z : FP} {η : Nat → Value} {w : World} {n : Nat} {a : Act} : ∀ (js : List Nat) (azs regs : List AV) (A B : FP), relSL Z η w regs a.tmps.toList B → idsBL n regs → js.length = azs.length →
    relSL Z η w azs (js.map fun j => a.eval (.tmp j)) A → idsBL n azs → (∀ b, A b → ¬ B b) →
    ∃ S, (∀ b, S b → A b ∨ B b) ∧ relSL Z η w (setAll regs js azs) a.tmps.toList S ∧ idsBL n (setAll regs js azs)
  | [], azs, regs, A, B, hr, hi, hl, ha, hai, hd => ⟨B, fun _ h => .inr h, by simpa [setAll] using hr, by simpa [setAll] using hi⟩
  | j :: js, [], regs, A, B, hr, hi, hl, ha, hai, hd => by simp at hl
  | j :: js, x :: azs, regs, A, B, hr, hi, hl, ha, hai, hd => by
    simp only [List.map_cons, relSL] at ha
    obtain ⟨v, cs', A1, A2, e, hj, h1, h2⟩ := ha
    simp only [List.cons.injEq] at e
    obtain ⟨rfl, rfl⟩ := e
    simp only [setAll]
    rcases Nat.lt_or_ge j regs.length with hlt | hge
    · obtain ⟨S1, hS1, hr1⟩ := relSL_put_own hr hlt h1 (fun b hb => hd b ((hj.1 b).2 (.inl hb)))
      have hset : a.tmps.toList.set j (a.eval (.tmp j)) = a.tmps.toList := by
        have hlen := relSL_len _ _ _ hr
        have hj2 : j < a.tmps.size := by simp at hlen; omega
        apply List.ext_getElem?
        intro i
        rw [List.getElem?_set]
        split
        · rename_i h1; subst h1
          simp [Act.eval, hj2, Array.getD_eq_getD_getElem?]
        · rfl
      rw [hset] at hr1
      obtain ⟨S, hS, g1, g2⟩ := setAll_ok js azs _ A2 S1 hr1 (idsBL_set _ _ _ hi hai.1) (by simpa using hl) h2 hai.2 (fun b h h' => (hS1 b h').elim (fun h' => hd b ((hj.1 b).2 (.inr h)) h') (fun h' => hj.2 b h' h))
      exact ⟨S, fun b hb => (hS b hb).elim (fun h => .inl ((hj.1 b).2 (.inr h))) (fun h => (hS1 b h).elim .inr (fun h => .inl ((hj.1 b).2 (.inl h)))), g1, g2⟩
    · rw [List.set_eq_of_length_le hge]
      obtain ⟨S, hS, g1, g2⟩ := setAll_ok js azs regs A2 B hr hi (by simpa using hl) h2 hai.2 (fun b h h' => hd b ((hj.1 b).2 (.inr h)) h')
      exact ⟨S, fun b hb => (hS b hb).elim (fun h => .inl ((hj.1 b).2 (.inr h))) .inr, g1, g2⟩
theorem aliasL_ok {Z : FP} {η : Nat → Value} {w : World} {n : Nat} {a : Act} : ∀ (als : List (Nat × Nat)) (regs : List AV) (B : FP), relSL Z η w regs a.tmps.toList B → idsBL n regs →
    (∀ p ∈ als, a.eval (.tmp p.1) = a.eval (.tmp p.2)) → ∃ S, (∀ b, S b → B b) ∧ relSL Z η w (aliasL regs als) a.tmps.toList S ∧ idsBL n (aliasL regs als)
  | [], regs, B, hr, hi, h => ⟨B, fun _ h => h, hr, hi⟩
  | (s, j) :: als, regs, B, hr, hi, h => by
    simp only [aliasL]
    have hv := opAV_rel hr (.tmp j)
    have he := h (s, j) (by simp)
    simp only at he
    rw [← he] at hv
    obtain ⟨S1, hS1, hr1⟩ := relSL_put hr s hv
    have hset : s < regs.length → a.tmps.toList.set s (a.eval (.tmp s)) = a.tmps.toList := by
      intro hlt
      have hlen := relSL_len _ _ _ hr
      have hj2 : s < a.tmps.size := by simp at hlen; omega
      apply List.ext_getElem?
      intro i
      rw [List.getElem?_set]
      split
      · rename_i h1; subst h1
        simp [Act.eval, hj2, Array.getD_eq_getD_getElem?]
      · rfl
    have hr2 : relSL Z η w (regs.set s (opAV regs (.tmp j))) a.tmps.toList S1 := by
      rcases Nat.lt_or_ge s regs.length with hlt | hge
      · rw [hset hlt] at hr1; exact hr1
      · rw [List.set_eq_of_length_le (l := a.tmps.toList) (by rw [relSL_len _ _ _ hr]; exact hge)] at hr1; exact hr1
    obtain ⟨S, hS, g1, g2⟩ := aliasL_ok als _ S1 hr2 (idsBL_set _ _ _ hi (opAV_ids hi (.tmp j))) (fun p hp => h p (by simp [hp]))
    exact ⟨S, fun b hb => hS1 b (hS b hb), g1, g2⟩
theorem alias_eq {Z : FP} {η : Nat → Value} {w : World} {a : Act} {regs : List AV} {B : FP} (hr : relSL Z η w regs a.tmps.toList B) : ∀ als : List (Nat × Nat), aliasOk regs als →
    ∀ p ∈ als, a.eval (.tmp p.1) = a.eval (.tmp p.2)
  | [], _, p, hp => by simp at hp
  | (s, j) :: als, h, p, hp => by
    simp only [aliasOk] at h
    rcases List.mem_cons.1 hp with rfl | hp
    · have h1 := opAV_rel hr (.tmp s)
      have h2 := opAV_rel hr (.tmp j)
      have h := h.1
      split at h
      · rename_i x y hx hy
        split at h
        · rename_i hb
          have hb := Nat.eq_of_beq_eq_true hb
          rw [hx] at h1; rw [hy] at h2
          simp only [relS] at h1 h2
          simp only
          rw [h1.1, h2.1, hb]
        · exact h.elim
      · exact h.elim
    · exact alias_eq hr als h.2 p hp
theorem tops_rel (Z : FP) (η : Nat → Value) (w : World) : ∀ (l : List Value), relSL Z η w (List.replicate l.length .top) l (fun _ => False)
  | [] => by simp [relSL, emp]
  | v :: l => by
    simp only [List.length_cons, List.replicate_succ, relSL]
    exact ⟨v, l, _, _, rfl, join_emp_left _, emp_false, tops_rel Z η w l⟩
theorem tops_ids (n : Nat) : ∀ N, idsBL n (List.replicate N .top)
  | 0 => trivial
  | N + 1 => ⟨trivial, tops_ids n N⟩
theorem idsBL_at {n : Nat} : ∀ (azs : List AV) (p : Nat) (a : AV), idsBL n azs → azs[p]? = some a → idsB n a
  | [], p, a, h, ha => by simp at ha
  | x :: azs, 0, a, h, ha => by simp at ha; subst ha; exact h.1
  | x :: azs, p + 1, a, h, ha => by simp only [List.getElem?_cons_succ] at ha; exact idsBL_at azs p a h.2 ha
theorem capInit_ok {C : Ctx} {a : Act} {w : World} {η : Nat → Value} {Z : FP} {n : Nat} : ∀ (caps : List (Nat × Fn × Nat)) (regs : List AV) (T : FP), Inst C ⟨regs, n⟩ a w η Z T →
    capsOk caps a.tmps.toList → ∃ T', Inst C ⟨capInit caps regs, n⟩ a w η Z T'
  | [], regs, T, h, _ => ⟨T, h⟩
  | (p, fn, j) :: l, regs, T, h, hc => by
    obtain ⟨⟨v, h1, h2⟩, h3⟩ := hc
    unfold capInit
    split
    · rename_i id c hj
      obtain ⟨u, B, g1, g2⟩ := relSL_at _ _ _ _ _ h.rel hj
      have hi := idsBL_at _ _ _ h.ids hj
      simp only [relS] at g2
      obtain ⟨hu, b, arr, ty, S1, hp, _⟩ := g2
      rw [h2] at g1
      have hvu : v = u := Option.some.inj g1
      have hnew : relS Z η w (.clo fn [.al id]) (cloV fn [v]) (fun _ => False) := by
        simp only [relS, relSL]
        refine ⟨[v], rfl, v, [], _, _, rfl, join_emp_left _, ⟨hvu.trans hu, ?_, emp_false⟩, rfl, emp_false⟩
        rw [hvu, hp]; trivial
      obtain ⟨S', hs, hr'⟩ := relSL_put h.rel p hnew
      have hset : a.tmps.toList.set p (cloV fn [v]) = a.tmps.toList := by
        apply List.ext_getElem?
        intro i
        rw [List.getElem?_set]
        split
        · rename_i e; subst e; split
          · exact h1.symm
          · rename_i hlt; rw [List.getElem?_eq_none (by omega)]
        · rfl
      rw [hset] at hr'
      exact capInit_ok l _ S' ⟨h.defers, hr', idsBL_set _ _ _ h.ids (by simp only [idsB, idsBL]; exact ⟨hi.1, trivial⟩), fun b hb => h.own b (hs b hb), h.ok⟩ h3
    · exact capInit_ok l regs T h h3
theorem cloR_ok {Z : FP} {η : Nat → Value} {w : World} {regs : List AV} {a : Act} {T : FP} (hR : relSL Z η w regs a.tmps.toList T) : ∀ l, cloR regs l → capsOk l a.tmps.toList
  | [], _ => trivial
  | (s, fn, j) :: l, h => by
    obtain ⟨h1, h2⟩ := h
    refine ⟨?_, cloR_ok hR l h2⟩
    have hs := opAV_rel (a := a) hR (.tmp s)
    have hj := opAV_rel (a := a) hR (.tmp j)
    split at h1
    · rename_i fn' id id' e1 e2
      split at h1
      · rename_i q1 q2
        have q1 := fnEq_eq q1; have q2 := Nat.eq_of_beq_eq_true q2
        subst q1; subst q2
        rw [e1] at hs; rw [e2] at hj
        simp only [relS, relSL] at hs hj
        obtain ⟨cs, hsv, v', cs', A', B'', rfl, _, ⟨rfl, _, _⟩, rfl, _⟩ := hs
        obtain ⟨hjv, hjc, _⟩ := hj
        have get : ∀ (k : Nat) (v : Value), a.eval (.tmp k) = v → isCell v → a.tmps.toList[k]? = some v := by
          intro k v hv hc
          simp only [Act.eval, Array.getD_eq_getD_getElem?] at hv
          rw [Array.getElem?_toList]
          cases hx : a.tmps[k]? with
          | none => rw [hx] at hv; simp only [Option.getD_none] at hv; subst hv; exact hc.elim
          | some u => rw [hx] at hv; simp only [Option.getD_some] at hv; rw [hv]
        exact ⟨_, get s _ hsv cloV_cell, get j _ hjv (by rw [← hjv]; exact hjc)⟩
      · exact h1.elim
    · exact h1.elim
theorem enter_ok0 {C : Ctx} {s : St} {a : Act} {w : World} (h : Rel C s a w) {L : LS} {i : L.ι} (he : enter0 s L i) : Rel C (headSt0 a.tmps.size L i) a w := by
  obtain ⟨η, Z, T, hi⟩ := h
  obtain ⟨Z', A', k1, k2, k3, k4, k5⟩ := enterL_ok (L.regs i) s.regs _ he.1 Z T hi.rel hi.ids (fun b hb => (hi.own b hb).1)
  have hal := alias_eq hi.rel L.als he.2
  obtain ⟨p1, p2, η1, p3, p4⟩ := stampL_ok ((L.regs i).map (·.2)) 0 _ A' η k1
  have hst := p4 η1 (fun _ _ => rfl)
  have hst' := relSL_mono (n := (stampL 0 ((L.regs i).map (·.2))).2) (Z' := fun c => Z' c ∨ w.heap.size ≤ c) (w' := w) (η' := η1) (fun b hb hl => ⟨fun x => x.elim hb (fun x => by omega), rfl⟩) (fun _ _ => rfl) _ _ _ p2 (fun _ _ => rfl) hst
  have htop := tops_rel (fun c => Z' c ∨ w.heap.size ≤ c) η1 w a.tmps.toList
  obtain ⟨S1, hS1, q1, q2⟩ := setAll_ok (a := a) (n := (stampL 0 ((L.regs i).map (·.2))).2) ((L.regs i).map (·.1)) _ _ A' (fun _ => False) htop (tops_ids _ _) (by
    have : ∀ (l : List AV) (n : Nat), (stampL n l).1.length = l.length := by
      intro l
      induction l with
      | nil => intro n; rfl
      | cons x l ih => intro n; simp [stampL, ih]
    rw [this]; simp) (by rw [List.map_map]; exact hst') p2 (fun b _ h => h)
  obtain ⟨S2, hS2, r1, r2⟩ := aliasL_ok L.als _ S1 q1 q2 hal
  have := hi.next (A1 := fun _ => False) (Z1 := Z') k2 k3 (fun _ h => h.elim) (w' := w) ⟨rfl, rfl, rfl, Nat.le_refl _, fun _ _ _ => rfl⟩ (regs' := (headSt0 a.tmps.size L i).regs) (n' := (headSt0 a.tmps.size L i).nx) (η' := η1) (S' := S2) (a' := a) rfl
    (by simpa [headSt0] using r1) (by simpa [headSt0] using r2) (fun b hb => by
      have hA : A' b := (hS1 b (hS2 b hb)).resolve_right (fun x => x)
      exact ⟨.inl (k5 b hA), .inl (k4 b hA), (hi.own b (k4 b hA)).2.1⟩)
  exact ⟨η1, _, S2, this⟩
theorem enter_ok {C : Ctx} {s : St} {a : Act} {w : World} (h : Rel C s a w) {L : LS} {i : L.ι} (he : enter s L i) : Rel C (headSt a.tmps.size L i) a w := by
  obtain ⟨he1, he2⟩ := enter_two he
  have h0 := enter_ok0 h he1
  unfold headSt
  cases hc : L.clos with
  | nil => exact h0
  | cons c cs =>
    rw [hc] at he2
    obtain ⟨η, Z, T, hi⟩ := h
    have hcap := cloR_ok hi.rel _ he2
    obtain ⟨η2, Z2, T2, hi2⟩ := h0
    obtain ⟨T', h'⟩ := capInit_ok (c :: cs) (headSt0 a.tmps.size L i).regs T2 hi2 hcap
    exact ⟨η2, Z2, T', h'⟩
def firstReg : Code → Nat
  | .region id _ _ => id
  | .seq x _ => firstReg x
  | .block _ x => firstReg x
  | .loop x => firstReg x
  | _ => 0
def dstsOk (js : List Nat) : Code → Bool
  | .region _ ops _ => ops.toList.all fun o => avoids js o.dst
  | .seq x y => dstsOk js x && dstsOk js y
  | .cond _ x y => dstsOk js x && dstsOk js y
  | .block _ x => dstsOk js x
  | .loop x => dstsOk js x
  | _ => true
def vcCode (P : Program) (Γ : FuncId → Nat → Option Sig) (E : TypeId → Option ES) (ov : Bool) (N : Nat) (L : Nat → Option LS) : Code → St → (Ex → St → Prop) → Prop
  | .skip, s, K => K .normal s
  | .label _, s, K => K .normal s
  | .ret, s, K => K .ret s
  | .exit id, s, K => K (.exit id) s
  | .region id ops draw, s, K => match draw with
    | false => match L (300000 + id) with
      | some _ => Region.noSelect ops = true ∧ vcHo P Γ E ov ops (ops.size + 1) (List.range ops.size) s (K .normal)
      | none => vcIdx P Γ E ov ops (List.range ops.size) s (K .normal)
    | true => match L (100000 + id) with
      | some D => P.follows .mixedOrders = true ∧ vcAny P Γ E ov ops ops.size (Array.replicate ops.size false) s (fun s' => ∃ i, D.inv i ∧ enter s' D i) ∧ ∀ i, D.inv i → K .normal (headSt N D i)
      | none => P.follows .mixedOrders = true ∧ Region.lexB .any ops = true ∧ vcQ P Γ ov ops ops.toList s (K .normal)
  | .seq x y, s, K => match L (200000 + firstReg y) with
    | some D => (vcCode P Γ E ov N L x s fun e s' => match e with
      | .normal => ∃ i, D.inv i ∧ enter s' D i
      | .exit i => K (.exit i) s'
      | .ret => K .ret s') ∧ ∀ i, D.inv i → vcCode P Γ E ov N (LofL (D.sub i) L) y (headSt N D i) K
    | none => vcCode P Γ E ov N L x s fun e s' => match e with
      | .normal => vcCode P Γ E ov N L y s' K
      | .exit i => K (.exit i) s'
      | .ret => K .ret s'
  | .cond c x y, s, K => match c with
    | .tmp d => match s.regs[d]? with
      | some (.bool b) => bcase b (vcCode P Γ E ov N L x ⟨s.regs.set d (.bool true), s.nx⟩ K) (vcCode P Γ E ov N L y ⟨s.regs.set d (.bool false), s.nx⟩ K)
      | _ => False
    | _ => False
  | .block id x, s, K => vcCode P Γ E ov N L x s fun e s' => match e with
    | .normal => K .normal s'
    | .exit i => match Nat.beq i id with
      | true => K .normal s'
      | false => K (.exit i) s'
    | .ret => K .ret s'
  | .loop x, s, K => match L (firstReg x) with
    | some S => (∃ i, S.inv i ∧ enter s S i) ∧ ∀ i, S.inv i → vcCode P Γ E ov N (LofL (S.sub i) L) x (headSt N S i) fun e s' => match e with
      | .normal => ∃ i', S.inv i' ∧ S.meas i' < S.meas i ∧ enter s' S i'
      | .exit k => K (.exit k) s'
      | .ret => K .ret s'
    | none => False
  | _, _, _ => False
theorem least {p : Nat → Prop} (h : ∃ n, p n) : ∃ n, p n ∧ ∀ m, p m → n ≤ m := by
  obtain ⟨n, hn⟩ := h
  induction n using Nat.strongRecOn with
  | _ n ih =>
    by_cases hm : ∃ m, m < n ∧ p m
    · obtain ⟨m, h1, h2⟩ := hm; exact ih m h1 h2
    · exact ⟨n, hn, fun m hp => Nat.le_of_not_lt fun hl => hm ⟨m, hl, hp⟩⟩
theorem vcCode_ok {P : Program} {Γ : FuncId → Nat → Option Sig} {C : Ctx} (hΓ : ∀ f k S, Γ f k = some S → Contract C.G P f S) {E : TypeId → Option ES} {ov : Bool} {js : List Nat} {a0 : Act} :
    ∀ (c : Code) (L : Nat → Option LS) (s : St) (K : Ex → St → Prop) (Q : Exit → Act → World → Prop) (a : Act) (w : World), vcCode P Γ E ov a0.tmps.size L c s K → dstsOk js c = true → Rel C s a w → Fixed js a0 a →
    (∀ e s' a' w', K e s' → Rel C s' a' w' → Fixed js a0 a' → Q e.to a' w') → c.wp P Q a w
  | .skip, L, s, K, Q, a, w, h, hd, hr, hf, hQ => wp_skip (hQ .normal s a w h hr hf)
  | .label _, L, s, K, Q, a, w, h, hd, hr, hf, hQ => wp_label (hQ .normal s a w h hr hf)
  | .ret, L, s, K, Q, a, w, h, hd, hr, hf, hQ => wp_ret (hQ .ret s a w h hr hf)
  | .exit id, L, s, K, Q, a, w, h, hd, hr, hf, hQ => wp_exit (hQ (.exit id) s a w h hr hf)
  | .region id ops draw, L, s, K, Q, a, w, h, hd, hr, hf, hQ => by
    simp only [vcCode] at h
    cases draw
    · simp only at h
      have hjs0 : ∀ (i : Nat) (o : Oper), ops[i]? = some o → avoids js o.dst = true := by
        intro i o ho
        simp only [dstsOk] at hd
        have hmem : o ∈ ops.toList := List.mem_of_getElem? (i := i) (by simpa [Array.getElem?_toList] using ho)
        exact List.all_eq_true.1 hd o hmem
      split at h
      · refine wp_mono (Q := onlyN fun a w => Q .normal a w) (wp_region (vcHo_ok hΓ (js := js) (a0 := a0) h.1 hjs0 _ _ s _ a w h.2 hr hf fun s' a' w' hk hr' hf' => hQ .normal s' a' w' hk hr' hf')) (fun e a w h => ?_)
        cases e <;> simp only [onlyN] at h <;> exact h
      refine wp_region (vcIdx_ok hΓ (js := js) (a0 := a0) ?_ _ s _ a w h hr hf fun s' a' w' hk hr' hf' => hQ .normal s' a' w' hk hr' hf')
      intro i o ho
      simp only [dstsOk] at hd
      have hmem : o ∈ ops.toList := List.mem_of_getElem? (i := i) (by simpa [Array.getElem?_toList] using ho)
      exact List.all_eq_true.1 hd o hmem
    · simp only at h
      split at h
      · rename_i D hD
        obtain ⟨h1, h2, h3⟩ := h
        refine vcAll_ok hΓ (js := js) (a0 := a0) h1 h2 ?_ hr hf fun s' a' w' hk hr' hf' => ?_
        · intro i o ho
          simp only [dstsOk] at hd
          have hmem : o ∈ ops.toList := List.mem_of_getElem? (i := i) (by simpa [Array.getElem?_toList] using ho)
          exact List.all_eq_true.1 hd o hmem
        · obtain ⟨i, hi, he⟩ := hk
          have hh := enter_ok hr' he
          rw [hf'.1] at hh
          exact hQ .normal _ a' w' (h3 i hi) hh hf'
      obtain ⟨h1, h2, h3⟩ := h
      simp only [dstsOk] at hd
      exact vcDraw_ok hΓ (js := js) (a0 := a0) h1 h2 h3 (fun o ho => List.all_eq_true.1 hd o ho) hr hf fun s' a' w' hk hr' hf' => hQ .normal s' a' w' hk hr' hf'
  | .seq x y, L, s, K, Q, a, w, h, hd, hr, hf, hQ => by
    simp only [vcCode] at h
    simp only [dstsOk, Bool.and_eq_true] at hd
    split at h
    · rename_i D hD
      obtain ⟨h1, h2⟩ := h
      refine wp_seq (vcCode_ok hΓ x L s _ _ a w h1 hd.1 hr hf ?_)
      intro e s' a' w' hk hr' hf'
      cases e with
      | normal =>
        obtain ⟨i, hi, he⟩ := hk
        have hh := enter_ok hr' he
        rw [hf'.1] at hh
        exact vcCode_ok hΓ y _ _ K Q a' w' (h2 i hi) hd.2 hh hf' hQ
      | exit i => exact hQ (.exit i) s' a' w' hk hr' hf'
      | ret => exact hQ .ret s' a' w' hk hr' hf'
    · refine wp_seq (vcCode_ok hΓ x L s _ _ a w h hd.1 hr hf ?_)
      intro e s' a' w' hk hr' hf'
      cases e with
      | normal => exact vcCode_ok hΓ y L s' K Q a' w' hk hd.2 hr' hf' hQ
      | exit i => exact hQ (.exit i) s' a' w' hk hr' hf'
      | ret => exact hQ .ret s' a' w' hk hr' hf'
  | .cond c x y, L, s, K, Q, a, w, h, hd, hr, hf, hQ => by
    simp only [vcCode] at h
    simp only [dstsOk, Bool.and_eq_true] at hd
    split at h
    · rename_i d
      split at h
      · rename_i b hb
        obtain ⟨hr1, ht⟩ := hr.know hb
        have hc : a.eval (.tmp d) = .bool b := by simp [Act.eval, Array.getD_eq_getD_getElem?, ht]
        unfold bcase at h
        cases b
        · exact wp_cond_false hc (vcCode_ok hΓ y L _ K Q a w h hd.2 hr1 hf hQ)
        · exact wp_cond_true hc (vcCode_ok hΓ x L _ K Q a w h hd.1 hr1 hf hQ)
      · exact h.elim
    · exact h.elim
  | .block id x, L, s, K, Q, a, w, h, hd, hr, hf, hQ => by
    simp only [vcCode] at h
    simp only [dstsOk] at hd
    refine wp_block (vcCode_ok hΓ x L s _ _ a w h hd hr hf ?_)
    intro e s' a' w' hk hr' hf'
    cases e with
    | normal => exact hQ .normal s' a' w' hk hr' hf'
    | exit i =>
      simp only [Ex.to, Exit.inBlock]
      simp only at hk
      split at hk
      · rename_i hb
        rw [if_pos (Nat.eq_of_beq_eq_true hb)]
        exact hQ .normal s' a' w' hk hr' hf'
      · rename_i hb
        rw [if_neg (Nat.ne_of_beq_eq_false hb)]
        exact hQ (.exit i) s' a' w' hk hr' hf'
    | ret => exact hQ .ret s' a' w' hk hr' hf'
  | .loop x, L, s, K, Q, a, w, h, hd, hr, hf, hQ => by
    simp only [vcCode] at h
    simp only [dstsOk] at hd
    split at h
    · rename_i S hS
      obtain ⟨⟨i0, hi0, he0⟩, hround⟩ := h
      let p : Act → World → Nat → Prop := fun a w n => ∃ i, S.inv i ∧ S.meas i = n ∧ Rel C (headSt a0.tmps.size S i) a w ∧ Fixed js a0 a
      have hent : ∀ (s : St) (a : Act) (w : World) (i : S.ι), Rel C s a w → Fixed js a0 a → enter s S i → Rel C (headSt a0.tmps.size S i) a w := by
        intro s a w i hr hf he
        have := enter_ok hr he
        rwa [hf.1] at this
      refine wp_loop (fun a w => ∃ n, p a w n) (fun a w => open Classical in if h : ∃ n, p a w n then (least h).choose else 0) ⟨_, i0, hi0, rfl, hent s a w i0 hr hf he0, hf⟩ ?_
      intro a w hI
      have hμ : (open Classical in if h : ∃ n, p a w n then (least h).choose else 0) = (least hI).choose := dif_pos hI
      obtain ⟨⟨i, h1, h2, h3, h4⟩, hmin⟩ := (least hI).choose_spec
      refine vcCode_ok hΓ x _ _ _ _ a w (hround i h1) hd h3 h4 ?_
      intro e s' a' w' hk hr' hf'
      cases e with
      | normal =>
        obtain ⟨i', g1, g2, g3⟩ := hk
        have hp' : p a' w' (S.meas i') := ⟨i', g1, rfl, hent s' a' w' i' hr' hf' g3, hf'⟩
        refine ⟨⟨_, hp'⟩, ?_⟩
        have hμ' : (open Classical in if h : ∃ n, p a' w' n then (least h).choose else 0) = (least ⟨_, hp'⟩).choose := dif_pos ⟨_, hp'⟩
        have h5 := (least ⟨_, hp'⟩).choose_spec.2 _ hp'
        simp only [hμ, hμ']
        rw [h2] at g2
        exact Nat.lt_of_le_of_lt h5 g2
      | exit k => exact hQ (.exit k) s' a' w' hk hr' hf'
      | ret => exact hQ .ret s' a' w' hk hr' hf'
    · exact h.elim
  | .rangeFunc _ _ _ _, L, s, K, Q, a, w, h, hd, hr, hf, hQ => h.elim
  | .scope _, L, s, K, Q, a, w, h, hd, hr, hf, hQ => h.elim
  | .goto _, L, s, K, Q, a, w, h, hd, hr, hf, hQ => h.elim
  | .refuse _, L, s, K, Q, a, w, h, hd, hr, hf, hQ => h.elim
end Go.Eng
end
section
set_option linter.unusedVariables false
set_option linter.unusedSimpArgs false
namespace Go.Eng
def isBox : AV → Bool
  | .box _ _ => true
  | .bv _ _ => true
  | _ => false
def boxIdx : List AV → Nat → List Nat
  | [], _ => []
  | a :: azs, j => match isBox a with
    | true => j :: boxIdx azs (j + 1)
    | false => boxIdx azs (j + 1)
def outsOk (js : List Nat) : Nat → List AV → Bool
  | _, [] => true
  | j, o :: os => match o with
    | .top => outsOk js (j + 1) os
    | .box _ _ => match js.elem j with
      | true => outsOk js (j + 1) os
      | false => false
    | .bv _ _ => match js.elem j with
      | true => outsOk js (j + 1) os
      | false => false
    | .sl true _ _ _ _ _ => match js.elem j with
      | true => outsOk js (j + 1) os
      | false => false
    | _ => false
def fixJ (S : Sig) (x : S.X) : List Nat := boxIdx (S.args x) 0 ++ S.fixed
def vcRes (P : Program) (regs : List AV) : List ResultVar → (List AV → Prop) → Prop
  | [], K => K []
  | .tmp t :: rs, K => vcRes P regs rs fun azs => K (opAV regs (.tmp t) :: azs)
  | .cell a t :: rs, K => vcLoadAt P regs t (opAV regs (.tmp a)) fun r => vcRes P regs rs fun azs => K (r :: azs)
def resAV : List AV → AV
  | [a] => a
  | azs => .tup azs
def initSt (N : Nat) (args : List AV) : St := ⟨(stampL 0 args).1 ++ List.replicate (N - args.length) (.tup []), (stampL 0 args).2⟩
def vcFin (P : Program) (S : Sig) (x : S.X) (rs : List ResultVar) (n : Nat) (s : St) : Prop :=
  vcRes P s.regs rs fun azs => ∃ y, S.post x y ∧ match outsOk (fixJ S x) 0 (S.outs x y) with
    | true => handL false (S.res x y :: S.outs x y) s.regs (resAV azs :: (List.range n).map fun j => opAV s.regs (.tmp j)) fun _ => True
    | false => False
def vcEnd (P : Program) (S : Sig) (x : S.X) (rs : List ResultVar) (n : Nat) : Ex → St → Prop
  | .exit _, _ => False
  | _, s => vcFin P S x rs n s
def vcFun (P : Program) (Γ : FuncId → Nat → Option Sig) (E : TypeId → Option ES) (ov : Bool) (L : Nat → Option LS) (N : Nat) (results : List ResultVar) (c : Code) (S : Sig) (x : S.X) : Prop :=
  match Nat.ble (S.args x).length N, dstsOk (fixJ S x) c with
  | true, true => keepOk S.keep (∀ y, S.post x y → cleanL (S.res x y :: S.outs x y)) ∧ vcCode P Γ E ov N L c (capSt S.caps (initSt N (S.args x))) (vcEnd P S x results (S.args x).length)
  | _, _ => False
theorem outs_fix {Z : FP} {w : World} {js : List Nat} : ∀ (j : Nat) (os : List AV) (vals us : List Value) (A : FP), outsOk js j os = true → us.length = vals.length →
    (∀ (i : Nat), i < vals.length → js.elem (j + i) = true → us[i]? = vals[i]?) → rel0L Z w os us A → rel0L Z w os vals A
  | j, [], vals, us, A, ho, hl, hf, h => by
    simp only [rel0L] at h ⊢
    rw [h.1] at hl
    exact ⟨List.length_eq_zero_iff.1 (by simpa using hl.symm), h.2⟩
  | j, o :: os, vals, us, A, ho, hl, hf, h => by
    simp only [rel0L] at h ⊢
    obtain ⟨u, us', A1, A2, e, hj, h1, h2⟩ := h
    subst e
    cases vals with
    | nil => simp at hl
    | cons v vals =>
      obtain ⟨ho1, ho2⟩ : (o = .top ∨ js.elem j = true) ∧ outsOk js (j + 1) os = true := by
        unfold outsOk at ho
        split at ho
        · exact ⟨.inl rfl, ho⟩
        · split at ho
          · rename_i hb; exact ⟨.inr hb, ho⟩
          · cases ho
        · split at ho
          · rename_i hb; exact ⟨.inr hb, ho⟩
          · cases ho
        · split at ho
          · rename_i hb; exact ⟨.inr hb, ho⟩
          · cases ho
        · cases ho
      refine ⟨v, vals, A1, A2, rfl, hj, ?_, outs_fix (j + 1) os vals us' A2 ho2 (by simpa using hl) (fun i h3 h4 => by
        have := hf (i + 1) (by simpa using h3) (by rw [show j + (i + 1) = j + 1 + i from by omega]; exact h4)
        simpa using this) h2⟩
      rcases ho1 with rfl | ho1
      · simpa only [rel0] using h1
      · have := hf 0 (by simp) (by simpa using ho1)
        simp at this
        rw [← this]; exact h1
def resV : List Value → Value
  | [v] => v
  | vs => .tuple vs.toArray
theorem load_as {P : Program} {t : TypeId} {x v : Value} {w : World} (h : (Instr.loadAt t x).run P w = .ok v w) : (do loadVar t (← asAddr x) : Sem Value).run P w = .ok v w := by
  unfold Instr.loadAt at h
  cases x with
  | pointer a =>
    cases a with
    | none => rw [run_bind] at h; cases h
    | some a => rw [run_bind] at h ⊢; exact h
  | _ => rw [run_bind] at h; cases h
theorem vcRes_ok {P : Program} {regs : List AV} {Z : FP} {η : Nat → Value} {w : World} {n : Nat} {a : Act} {T : FP} (hR : relSL Z η w regs a.tmps.toList T) (hI : idsBL n regs)
    {g : ResultVar → Sem Value} (g1 : ∀ t, g (.tmp t) = pure (a.tmps.getD t undef)) (g2 : ∀ b t, g (.cell b t) = (do loadVar t (← asAddr (a.tmps.getD b undef)))) :
    ∀ (rs : List ResultVar) (K : List AV → Prop), vcRes P regs rs K → ∃ vs azs, (rs.mapM g).run P w = .ok vs w ∧
      relSL Z η w azs vs (fun _ => False) ∧ idsBL n azs ∧ K azs
  | [], K, h => ⟨[], [], rfl, by simp [relSL, emp], trivial, h⟩
  | .tmp t :: rs, K, h => by
    simp only [vcRes] at h
    obtain ⟨vs, azs, h1, h2, h3, h4⟩ := vcRes_ok hR hI g1 g2 rs _ h
    refine ⟨a.tmps.getD t undef :: vs, opAV regs (.tmp t) :: azs, ?_, ?_, ⟨opAV_ids hI (.tmp t), h3⟩, h4⟩
    · rw [List.mapM_cons, g1, run_bind_ok (run_pure' P _ w), run_bind_ok h1]; rfl
    · simp only [relSL]; exact ⟨_, _, _, _, rfl, join_emp_left _, opAV_rel hR (.tmp t), h2⟩
  | .cell b t :: rs, K, h => by
    simp only [vcRes] at h
    obtain ⟨v, r, h1, h2, h3, h4⟩ := vcLoadAt_ok (n := n) h hR hI (opAV_rel (a := a) hR (.tmp b))
    obtain ⟨vs, azs, k1, k2, k3, k4⟩ := vcRes_ok hR hI g1 g2 rs _ h4
    refine ⟨v :: vs, r :: azs, ?_, ?_, ⟨h3, k3⟩, k4⟩
    · have hl : (do loadVar t (← asAddr (a.tmps.getD b undef)) : Sem Value).run P w = .ok v w := load_as (h1 w (Sees.refl w))
      rw [List.mapM_cons, g2, run_bind_ok hl, run_bind_ok k1]; rfl
    · simp only [relSL]; exact ⟨_, _, _, _, rfl, join_emp_left _, h2, k2⟩
theorem run_results {P : Program} {fn : Func} {regs : List AV} {Z : FP} {η : Nat → Value} {w : World} {n : Nat} {a : Act} {T : FP} (hR : relSL Z η w regs a.tmps.toList T) (hI : idsBL n regs)
    {K : List AV → Prop} (h : vcRes P regs fn.results.toList K) : ∃ vs azs, (results fn a.tmps).run P w = .ok (resV vs) w ∧ relSL Z η w azs vs (fun _ => False) ∧ idsBL n azs ∧ K azs := by
  unfold results
  obtain ⟨vs, azs, h1, h2⟩ := vcRes_ok hR hI (g := fun | .tmp t => pure (a.tmps.getD t undef) | .cell b t => do loadVar t (← asAddr (a.tmps.getD b undef))) (fun _ => rfl) (fun _ _ => rfl) fn.results.toList K h
  refine ⟨vs, azs, ?_, h2⟩
  rw [Array.mapM_eq_mapM_toList, map_eq_pure_bind]
  refine (run_bind_ok (x := vs.toArray) (w' := w) ?_).trans ?_
  · exact (run_bind_ok h1).trans rfl
  · simp only [run_pure']
    congr 1
    match vs with
    | [] => rfl
    | [v] => rfl
    | v :: u :: vs => rfl
theorem undefs_rel (Z : FP) (η : Nat → Value) (w : World) : ∀ n, relSL Z η w (List.replicate n (.tup [])) (List.replicate n undef) (fun _ => False)
  | 0 => by simp [relSL, emp]
  | n + 1 => by
    simp only [List.replicate_succ, relSL]
    exact ⟨undef, _, _, _, rfl, join_emp_left _, undef_rel Z η w, undefs_rel Z η w n⟩
theorem undefs_ids (n : Nat) : ∀ N, idsBL n (List.replicate N (.tup []))
  | 0 => trivial
  | N + 1 => ⟨trivial, undefs_ids n N⟩
theorem idsBL_append {n : Nat} : ∀ (l1 l2 : List AV), idsBL n l1 → idsBL n l2 → idsBL n (l1 ++ l2)
  | [], l2, _, h2 => by simpa using h2
  | x :: l1, l2, h1, h2 => ⟨h1.1, idsBL_append l1 l2 h1.2 h2⟩
theorem capsOk_append {vs us : List Value} (e : ∃ r, us = vs ++ r) : ∀ {l : List (Nat × Fn × Nat)}, capsOk l vs → capsOk l us
  | [], _ => trivial
  | (p, fn, j) :: l, h => by
    obtain ⟨r, rfl⟩ := e
    obtain ⟨⟨v, h1, h2⟩, h3⟩ := h
    refine ⟨⟨v, ?_, ?_⟩, capsOk_append ⟨r, rfl⟩ h3⟩
    · rw [List.getElem?_append_left ((List.getElem?_eq_some_iff.1 h1).1)]; exact h1
    · rw [List.getElem?_append_left ((List.getElem?_eq_some_iff.1 h2).1)]; exact h2
theorem vcFun_ok {G : GInv} {P : Program} {Γ : FuncId → Nat → Option Sig} {E : TypeId → Option ES} {ov : Bool} {f : FuncId} {fn : Func} {c : Code} {S : Sig} {L : S.X → Nat → Option LS}
    (hfn : P.funcs[f]? = some fn) (hbody : fn.body = some c) (hname : (fn.name == "runtime.NumGoroutine") = false)
    (hΓ : ∀ f k S, Γ f k = some S → Contract G P f S) (h : ∀ x, S.pre x → vcFun P Γ E ov (L x) fn.ntmps fn.results.toList c S x) : Contract G P f S := by
  refine ⟨⟨⟨fn, hfn, hname, by simp [hbody]⟩, fun x y hx hy => ?_⟩, ?_⟩
  · have h := h x hx
    unfold vcFun at h
    split at h
    · have h := h.1
      unfold keepOk at h ⊢
      split
      · trivial
      · rename_i hk; rw [hk] at h; exact h y hy
    · exact h.elim
  intro x hpre Z w vals A hG hargs hA hcaps
  have h := h x hpre
  unfold vcFun at h
  split at h
  rotate_left
  · exact h.elim
  · rename_i hN hd
    have hvc := h.2
    have hN := Nat.le_of_ble_eq_true hN
    have hvl : vals.length = (S.args x).length := rel0L_len _ _ _ hargs
    refine calls_of_wp hfn hbody ?_
    let a0 : Act := { tmps := vals.toArray ++ Array.replicate (fn.ntmps - vals.toArray.size) undef, defers := [] }
    have hsz : a0.tmps.size = fn.ntmps := by simp [a0]; omega
    obtain ⟨p1, p2, η1, p3, p4⟩ := stampL_ok (S.args x) 0 vals A (fun _ => undef) hargs
    have hst := p4 η1 (fun _ _ => rfl)
    let C : Ctx := ⟨w, Z, A, G, hG, fun b hb => (hA b hb).1⟩
    have hinit : Rel C (initSt fn.ntmps (S.args x)) a0 w := by
      refine ⟨η1, Z, A, ⟨rfl, ?_, idsBL_append _ _ p2 (undefs_ids _ _), fun b hb => ⟨(hA b hb).1, (hA b hb).2, fun _ => hb⟩, ⟨rfl, rfl, rfl, Nat.le_refl _, fun b _ _ => ⟨rfl, Iff.rfl⟩⟩⟩⟩
      have := relSL_append _ _ _ _ _ _ A hst (undefs_rel Z η1 w (fn.ntmps - (S.args x).length)) (join_emp_right A)
      simpa [initSt, a0, hvl] using this
    have hinit2 : Rel C (capSt S.caps (initSt fn.ntmps (S.args x))) a0 w := by
      cases hcc : S.caps with
      | nil => exact hinit
      | cons c cs =>
        obtain ⟨η, Z1, T, hi⟩ := hinit
        obtain ⟨T', h'⟩ := capInit_ok (c :: cs) (initSt fn.ntmps (S.args x)).regs T hi (by
          rw [← hcc]
          exact capsOk_append ⟨List.replicate (fn.ntmps - vals.length) undef, by simp [a0]⟩ hcaps)
        exact ⟨η, Z1, T', h'⟩
    refine vcCode_ok (C := C) hΓ (js := fixJ S x) (a0 := a0) (E := E) (ov := ov) c (L x) _ _ _ a0 w (by rw [hsz]; exact hvc) hd hinit2 ⟨rfl, fun _ _ => rfl⟩ ?_
    intro e s' a' w' hk hr hf
    have fin : vcFin P S x fn.results.toList (S.args x).length s' → a'.defers = [] ∧ ∃ v, (results fn a'.tmps).run P w' = .ok v w' ∧ ∃ y v' Z' A', S.post x y ∧ Ending.returned v = .returned v' ∧ rel0L Z' w' (S.res x y :: S.outs x y) (v' :: vals) A' ∧ After Z w A Z' w' A' := by
      intro hfin
      obtain ⟨η, Z1, T, hi⟩ := hr
      obtain ⟨rvs, ras, hrun, hrr, hri, y, hpost, hh⟩ := run_results hi.rel hi.ids hfin
      split at hh
      rotate_left
      · exact hh.elim
      rename_i hout
      have hres : relS Z1 η w' (resAV ras) (resV rvs) (fun _ => False) := by
        match ras, rvs, hrr with
        | [], rvs, hrr =>
          simp only [relSL] at hrr
          rw [hrr.1]
          simp only [resAV, resV, relS]; exact ⟨[], rfl, by simp [relSL, emp]⟩
        | [r], rvs, hrr =>
          simp only [relSL] at hrr
          obtain ⟨v, cs', A, B, e, hj, h1, h2, h3⟩ := hrr
          subst h2; subst e
          have := (emp_of_join hj emp_false).1
          rw [emp_eq this] at h1
          exact h1
        | r :: q :: ras, rvs, hrr =>
          have hl := relSL_len _ _ _ hrr
          match rvs, hl with
          | v :: u :: rvs, _ => simp only [resAV, resV, relS]; exact ⟨_, rfl, hrr⟩
      have hresi : idsB s'.nx (resAV ras) := by
        match ras, hri with
        | [], hri => exact hri
        | [r], hri => exact hri.1
        | r :: q :: ras, hri => simp only [resAV, idsB]; exact hri
      have hactual : relSL Z1 η w' (resAV ras :: (List.range (S.args x).length).map fun j => opAV s'.regs (.tmp j))
          (resV rvs :: (List.range (S.args x).length).map fun j => a'.eval (.tmp j)) (fun _ => False) := by
        simp only [relSL]
        refine ⟨_, _, _, _, rfl, join_emp_left _, hres, ?_⟩
        have : ∀ l : List Nat, relSL Z1 η w' (l.map fun j => opAV s'.regs (.tmp j)) (l.map fun j => a'.eval (.tmp j)) (fun _ => False) := by
          intro l
          induction l with
          | nil => simp [relSL, emp]
          | cons t ts ih =>
            simp only [List.map_cons, relSL]
            exact ⟨_, _, _, _, rfl, join_emp_left _, opAV_rel hi.rel (.tmp t), ih⟩
        exact this _
      have hactuali : idsBL s'.nx (resAV ras :: (List.range (S.args x).length).map fun j => opAV s'.regs (.tmp j)) := by
        refine ⟨hresi, ?_⟩
        have : ∀ l : List Nat, idsBL s'.nx (l.map fun j => opAV s'.regs (.tmp j)) := by
          intro l
          induction l with
          | nil => trivial
          | cons t ts ih => exact ⟨opAV_ids hi.ids (.tmp t), ih⟩
        exact this _
      obtain ⟨Z2, A', B', r', ho⟩ := handL_ok _ s'.regs _ _ hh Z1 a'.tmps.toList _ T (fun _ => False) T hi.rel hi.ids hactual hactuali (join_emp_left T)
      refine ⟨hi.defers, _, hrun, y, _, Z2, A', hpost, rfl, ?_, ?_⟩
      · have hgot := ho.got
        simp only [rel0L] at hgot ⊢
        obtain ⟨v', us', A1, A2, e1, hj, h1, h2⟩ := hgot
        simp only [List.cons.injEq] at e1
        obtain ⟨rfl, rfl⟩ := e1
        refine ⟨_, vals, A1, A2, rfl, hj, h1, outs_fix 0 _ vals _ A2 hout (by simp [hvl]) (fun i hil0 hb => ?_) h2⟩
        have hil : i < (S.args x).length := by omega
        have hfix := hf.2 i (by simpa using hb)
        have hav : a0.tmps[i]? = vals[i]? := by
          simp only [a0]
          rw [Array.getElem?_append_left (by simp; omega)]
          simp
        have hvi : vals[i]? = some vals[i] := by simp
        simp only [List.getElem?_map, List.getElem?_range hil, Option.map_some, Act.eval]
        rw [hav, hvi] at hfix
        simp [Array.getD_eq_getD_getElem?, hfix, hvi]
      · refine ⟨hi.ok.os, hi.ok.tape, hi.ok.output, hi.ok.size, fun b hb hn => ?_, fun b hb => ?_⟩
        · obtain ⟨g1, g2⟩ := hi.ok.old b hb hn
          refine ⟨g1, fun h => g2.1 (ho.zz b h), fun h => Classical.byContradiction fun hn2 => ?_⟩
          have hT := ho.gone b (g2.2 h) hn2
          exact hn ((hi.own b hT).2.2 hb)
        · have hT := ho.part b (.inl hb)
          exact ⟨ho.ownA b hb (hi.own b hT).1, (hi.own b hT).2.1, (hi.own b hT).2.2⟩
    cases e with
    | normal => exact fin hk
    | exit id => exact hk.elim
    | ret => exact fin hk
def Γof : List (Nat × Nat × Sig) → FuncId → Nat → Option Sig
  | [], _, _ => none
  | (g, k, S) :: l, f, j => match Nat.beq g f, Nat.beq k j with
    | true, true => some S
    | _, _ => Γof l f j
def AllC (G : GInv) (P : Program) : List (Nat × Nat × Sig) → Prop
  | [] => True
  | (g, _, S) :: l => Contract G P g S ∧ AllC G P l
theorem Γof_ok {G : GInv} {P : Program} : ∀ {l : List (Nat × Nat × Sig)}, AllC G P l → ∀ f k S, Γof l f k = some S → Contract G P f S
  | [], _, f, k, S, h => by simp [Γof] at h
  | (g, j, S') :: l, ha, f, k, S, h => by
    unfold Γof at h
    split at h
    · rename_i hb _
      simp only [Option.some.injEq] at h; subst h
      rw [← Nat.eq_of_beq_eq_true hb]; exact ha.1
    · exact Γof_ok ha.2 f k S h
def Lof : List (Nat × LS) → Nat → Option LS
  | [], _ => none
  | (g, S) :: l, f => match Nat.beq g f with
    | true => some S
    | false => Lof l f
def Eof : List (Nat × ES) → TypeId → Option ES
  | [], _ => none
  | (g, S) :: l, f => match Nat.beq g f with
    | true => some S
    | false => Eof l f
theorem bcase_intro {b : Bool} {p q : Prop} (h1 : b = true → p) (h2 : b = false → q) : bcase b p q := by
  cases b
  · exact h2 rfl
  · exact h1 rfl
end Go.Eng
end
section
set_option linter.unusedVariables false
namespace Go.Eng
mutual
def hnd1 : AV → AV → Prop → Prop
  | .int _ n, a, R => match a with
    | .int _ m => m = n ∧ R
    | _ => False
  | .bool b, a, R => match a with
    | .bool c => c = b ∧ R
    | _ => False
  | .str l, a, R => match a with
    | .str m => m = l ∧ R
    | _ => False
  | .val v, a, R => match a with
    | .val u => u = v ∧ R
    | _ => False
  | .nil, _, R => R
  | .any, _, R => R
  | .top, _, R => R
  | .agg es, a, R => match a with
    | .agg azs => hndL es azs R
    | _ => False
  | .tup es, a, R => match a with
    | .tup azs => hndL es azs R
    | _ => False
  | .clo _ es, a, R => match a with
    | .clo _ azs => hndL es azs R
    | _ => False
  | .pf c, a, R => match a with
    | .pf c' => AV.pf c' = AV.pf c ∧ R
    | .box _ c' => AV.pf (fzL c') = AV.pf c ∧ R
    | _ => False
  | .box _ c, a, R => match a with
    | .box _ c' => hndL c c' R
    | _ => False
  | .bv y c, a, R => match a with
    | .bv x c' => x = y ∧ hndL c c' R
    | _ => False
  | .sl true _ sz α f xs, a, R => match a with
    | .nil => xs = [] ∧ R
    | .sl true _ sz' α' f' xs' => AV.sl true 0 sz' α' f' xs' = AV.sl true 0 sz α f xs ∧ R
    | _ => False
  | .sl false _ sz α f xs, a, R => match a with
    | .nil => xs = [] ∧ R
    | .sl false _ sz' α' f' xs' => AV.sl false 0 sz' α' f' xs' = AV.sl false 0 sz α f xs ∧ R
    | .sl true _ sz' α' f' xs' => AV.sl false 0 sz' α' (fun x => fzL (f' x)) xs' = AV.sl false 0 sz α f xs ∧ R
    | _ => False
  | .hole _, _, _ => False
  | .hv _, _, _ => False
  | .al _, _, _ => False
  | .po _ _ _ _, _, _ => False
def hndL : List AV → List AV → Prop → Prop
  | [], azs, R => R
  | e :: es, azs, R => match azs with
    | [] => False
    | a :: azs => hnd1 e a (hndL es azs R)
end
def mvE : AV → AV
  | .int _ _ => .top
  | .bool _ => .top
  | .str _ => .top
  | .val _ => .top
  | .any => .top
  | .top => .top
  | .nil => .top
  | .hole _ => .top
  | .al _ => .top
  | .po _ _ _ _ => .top
  | .agg _ => .top
  | .tup _ => .top
  | .hv _ => .top
  | .pf _ => .top
  | .clo _ _ => .top
  | .box i c => .box i c
  | .bv x c => .bv x c
  | .sl true i sz α f xs => .sl true i sz α f xs
  | .sl false _ _ _ _ _ => .top
def lnE : AV → AV
  | .int k n => .int k n
  | .bool b => .bool b
  | .str l => .str l
  | .val v => .val v
  | .any => .any
  | .top => .top
  | .nil => .nil
  | .hole i => .hole i
  | .al i => .al i
  | .po a b c d => .po a b c d
  | .agg l => .agg l
  | .tup l => .tup l
  | .hv x => .hv x
  | .pf c => .pf c
  | .clo f l => .clo f l
  | .box _ _ => .top
  | .bv _ _ => .top
  | .sl true _ _ _ _ _ => .top
  | .sl false i sz α f xs => .sl false i sz α f xs
def mvL : List AV → List AV
  | [] => []
  | e :: es => mvE e :: mvL es
def lnL : List AV → List AV
  | [] => []
  | e :: es => lnE e :: lnL es
def sndL : List (Nat × AV) → List AV
  | [] => []
  | (_, e) :: es => e :: sndL es
def cA (S : Sig) (azs : List AV) (K : S.X → S.Y → Prop) : Prop :=
  ∃ x : S.X, S.pre x ∧ hndL (mvL (S.args x)) azs (hndL (lnL (S.args x)) azs (∀ y, S.post x y → K x y))
def eA (L : LS) (azs : List AV) : Prop := ∃ i, L.inv i ∧ hndL (sndL (L.regs i)) azs True ∧ True
def eN (L : LS) (i : L.ι) (azs : List AV) : Prop := ∃ i', L.inv i' ∧ L.meas i' < L.meas i ∧ hndL (sndL (L.regs i')) azs True ∧ True
def rA (S : Sig) (x : S.X) (azs : List AV) : Prop := ∃ y, S.post x y ∧ hndL (S.res x y :: S.outs x y) azs True
theorem vcFun_okP {G : GInv} {P : Program} (l : List (Nat × Nat × Sig)) (e : List (Nat × ES)) (ov : Bool) {f : FuncId} {S : Sig} (L : S.X → List (Nat × LS)) {fn : Func}
    (hfn : P.funcs[f]? = some fn) (hbody : fn.body = some (fn.body.getD .skip)) (hname : (fn.name == "runtime.NumGoroutine") = false)
    (ha : AllC G P l) (Q : S.X → Prop) (hq : ∀ x, vcFun P (Γof l) (Eof e) ov (Lof (L x)) fn.ntmps fn.results.toList (fn.body.getD .skip) S x = Q x) (h : ∀ x, S.pre x → Q x) : Contract G P f S :=
  vcFun_ok (Γ := Γof l) (E := Eof e) (ov := ov) (L := fun x => Lof (L x)) hfn hbody hname (Γof_ok ha) fun x hx => (hq x).mpr (h x hx)
end Go.Eng
end
section
set_option linter.unusedVariables false
namespace Go.My
open Go.Eng
structure Nd where
  kind : Int
  text : List UInt8
  kids : List Int
  blank : Bool
def intA : Int → List AV := fun n => [.int .i64 n]
def strA : List UInt8 → List AV := fun s => [.str s]
def ints (l : List Int) : AV := .sl false 0 1 Int intA l
def oints (l : List Int) : AV := .sl true 0 1 Int intA l
def ndA (o : Bool) : Nd → List AV := fun x => [.int .i64 x.kind, .str x.text, .sl o 0 1 Int intA x.kids, .bool x.blank]
theorem ndA_e (o : Bool) (x : Nd) : ndA o x = [.int .i64 x.kind, .str x.text, .sl o 0 1 Int intA x.kids, .bool x.blank] := rfl
def nds (l : List Nd) : AV := .sl false 0 4 Nd (ndA false) l
def onds (l : List Nd) : AV := .sl true 0 4 Nd (ndA true) l
theorem ex_flip {α : Type} {p q : α → Prop} (x : α) (h2 : q x) (h1 : p x) : ∃ x, p x ∧ q x := ⟨x, h1, h2⟩
theorem ex_flip2 {α β : Type} {p q : α × β → Prop} (a : α) (b : β) (h2 : q (a, b)) (h1 : p (a, b)) : ∃ x, p x ∧ q x := ⟨_, h1, h2⟩
theorem ex_flip3 {α β γ : Type} {p q : α × β × γ → Prop} (a : α) (b : β) (c : γ) (h2 : q (a, b, c)) (h1 : p (a, b, c)) : ∃ x, p x ∧ q x := ⟨_, h1, h2⟩
theorem ex_flip4 {α β γ δ : Type} {p q : α × β × γ × δ → Prop} (a : α) (b : β) (c : γ) (d : δ) (h2 : q (a, b, c, d)) (h1 : p (a, b, c, d)) : ∃ x, p x ∧ q x := ⟨_, h1, h2⟩
theorem ex_flip5 {α β γ δ ε : Type} {p q : α × β × γ × δ × ε → Prop} (a : α) (b : β) (c : γ) (d : δ) (e : ε) (h2 : q (a, b, c, d, e)) (h1 : p (a, b, c, d, e)) : ∃ x, p x ∧ q x := ⟨_, h1, h2⟩
theorem ex_flip6 {α β γ δ ε ζ : Type} {p q : α × β × γ × δ × ε × ζ → Prop} (a : α) (b : β) (c : γ) (d : δ) (e : ε) (f : ζ) (h2 : q (a, b, c, d, e, f)) (h1 : p (a, b, c, d, e, f)) : ∃ x, p x ∧ q x := ⟨_, h1, h2⟩
theorem sl_eq {o : Bool} {id sz : Nat} {α : Type} {f : α → List AV} {l l' : List α} (h : l = l') : AV.sl o id sz α f l = AV.sl o id sz α f l' := by rw [h]
theorem bcase_dec {p : Prop} [Decidable p] {P Q : Prop} (h1 : p → P) (h2 : ¬ p → Q) : bcase (decide p) P Q :=
  bcase_intro (fun h => h1 (of_decide_eq_true h)) (fun h => h2 (of_decide_eq_false h))
theorem getE {α : Type} {l : List α} {n : Nat} {e : α} (h : l[n]? = some e) : ∃ h : n < l.length, l[n] = e := List.getElem?_eq_some_iff.1 h
theorem memE {α : Type} {l : List α} {n : Nat} {e : α} (h : l[n]? = some e) : e ∈ l := List.mem_of_getElem? h
theorem dropE {α : Type} {l : List α} {n : Nat} {e : α} (h : l[n]? = some e) : l.drop n = e :: l.drop (n + 1) := by
  obtain ⟨h1, h2⟩ := getE h
  rw [← h2]; exact List.drop_eq_getElem_cons h1
theorem takeE {α : Type} {l : List α} {n : Nat} {e : α} (h : l[n]? = some e) : l.take (n + 1) = l.take n ++ [e] := by
  rw [List.take_add_one, h]; rfl
theorem bcase_bne {α : Type} [BEq α] [LawfulBEq α] {a b : α} {P Q : Prop} (h1 : a ≠ b → P) (h2 : a = b → Q) : bcase (a != b) P Q :=
  bcase_intro (fun h => h1 (by simpa using h)) (fun h => h2 (by simpa using h))
theorem bcase_beq {α : Type} [BEq α] [LawfulBEq α] {a b : α} {P Q : Prop} (h1 : a = b → P) (h2 : a ≠ b → Q) : bcase (a == b) P Q :=
  bcase_intro (fun h => h1 (by simpa using h)) (fun h => h2 (by simpa using h))
theorem bcase_not {b : Bool} {P Q : Prop} (h1 : b = false → P) (h2 : b = true → Q) : bcase (!b) P Q :=
  bcase_intro (fun h => h1 (by simpa using h)) (fun h => h2 (by simpa using h))
theorem toNat1 {i : Int} (h : 0 ≤ i) : (i + 1).toNat = i.toNat + 1 := by omega
theorem i64max : IntKind.i64.max = 9223372036854775807 := rfl
theorem inR_i64 {n : Int} (h1 : -9223372036854775808 ≤ n) (h2 : n ≤ 9223372036854775807) : inR .i64 n := by
  unfold inR; simp [IntKind.min, IntKind.max, IntKind.bits, IntKind.signed]; omega
end Go.My
end
section
set_option linter.unusedVariables false
set_option linter.unusedSimpArgs false
namespace Go.My
open Go.Eng
def isFig (c : UInt8) : Bool := decide (48 ≤ c.toNat) && decide (c.toNat ≤ 57)
def isFst (c : UInt8) : Bool := (decide (97 ≤ c.toNat) && decide (c.toNat ≤ 122)) || ((decide (65 ≤ c.toNat) && decide (c.toNat ≤ 90)) || decide (c.toNat = 95))
def isInn (c : UInt8) : Bool := isFst c || isFig c
def isPln (c : UInt8) : Bool := decide (32 ≤ c.toNat) && decide (c.toNat ≤ 126)
def notNl (c : UInt8) : Bool := decide (c.toNat ≠ 10)
def kw (s : List UInt8) : Bool := s == [99,108,97,115,115] || (s == [118,97,114] || (s == [105,102] || (s == [101,108,115,101] || (s == [119,104,105,108,101] || s == [114,101,116,117,114,110]))))
def mk2 (s : List UInt8) : Bool := s == [38,38] || (s == [124,124] || (s == [61,61] || (s == [61,62] || s == [46,46])))
def mk1 : List UInt8 := [40,41,123,125,91,93,59,44,46,61,43,45,42,60,63,58]
def markOk (s : List UInt8) : Bool := mk2 s || match s with
  | [c] => mk1.elem c
  | _ => false
def idxOf (p : UInt8 → Bool) : List UInt8 → Option Nat
  | [] => none
  | c :: s => if p c then some 0 else (idxOf p s).map (· + 1)
def trimR (s : List UInt8) : List UInt8 := (s.reverse.dropWhile (fun c => decide (c.toNat = 32))).reverse
def quoted (s : List UInt8) : List UInt8 × Bool := match idxOf (fun c => decide (c.toNat = 39)) (s.drop 1) with
  | none => ([], false)
  | some i => (s.take (i + 2), (s.take (i + 2)).all isPln)
structure SgR where
  kind : Int
  text : List UInt8
  size : Int
  ok : Bool
def sgAt (s : List UInt8) : SgR := match s with
  | [] => ⟨0, [], 0, false⟩
  | b :: _ =>
    if isFst b then ⟨1, s.takeWhile isInn, (s.takeWhile isInn).length, decide ((s.takeWhile isInn).length ≤ 30)⟩
    else if isFig b then ⟨2, s.takeWhile isFig, (s.takeWhile isFig).length, decide ((s.takeWhile isFig).length ≤ 12)⟩
    else if b.toNat = 39 then ⟨3, (quoted s).1, (quoted s).1.length, (quoted s).2⟩
    else if s.take 2 = [47, 47] then ⟨5, trimR (s.takeWhile notNl), (s.takeWhile notNl).length, (s.takeWhile notNl).all isPln⟩
    else if markOk (s.take 2) then ⟨4, s.take 2, (s.take 2).length, true⟩
    else if markOk (s.take 1) then ⟨4, s.take 1, 1, true⟩
    else ⟨0, [], 0, false⟩
def isSgn (s : List UInt8) (k : Int) : Bool := !(s == []) && ((sgAt s).ok && (decide ((sgAt s).kind = k) && ((sgAt s).text == s && decide ((sgAt s).size = s.length))))
def nameOk (s : List UInt8) : Bool := isSgn s 1 && !kw s
def chainOk (s : List UInt8) : Bool := s == [38,38] || (s == [124,124] || (s == [61,61] || (s == [60] || (s == [43] || (s == [45] || s == [42])))))
def textOk (k : Int) (s : List UInt8) : Bool :=
  if k = 1 ∨ k = 6 ∨ k = 12 ∨ k = 13 ∨ k = 20 ∨ k = 21 then nameOk s
  else if k = 2 then isSgn s 2
  else if k = 3 then isSgn s 3
  else if k = 19 then isSgn s 5
  else if k = 7 then chainOk s
  else s == []
theorem takeWhile_take {p : UInt8 → Bool} : ∀ {s : List UInt8} {n : Nat}, (∀ e ∈ s.take n, p e = true) → (s.length ≤ n ∨ ∃ e, s[n]? = some e ∧ p e = false) → s.take n = s.takeWhile p
  | [], n, _, _ => by simp
  | c :: s, 0, _, h => by
    rcases h with h | ⟨e, he, hp⟩
    · simp at h
    · simp at he; subst he; simp [List.takeWhile, hp]
  | c :: s, n + 1, ha, h => by
    have hc : p c = true := ha c (by simp)
    rw [List.take_succ_cons, List.takeWhile_cons, if_pos hc, takeWhile_take (fun e he => ha e (by simp [he]))]
    rcases h with h | ⟨e, he, hp⟩
    · exact .inl (by simpa using h)
    · exact .inr ⟨e, by simpa using he, hp⟩
theorem all_take_succ {p : UInt8 → Bool} {s : List UInt8} {n : Nat} {e : UInt8} (h : ∀ e ∈ s.take n, p e = true) (he : s[n]? = some e) (hp : p e = true) : ∀ e ∈ s.take (n + 1), p e = true := by
  rw [takeE he]; intro x hx
  rcases List.mem_append.1 hx with hx | hx
  · exact h x hx
  · simp at hx; subst hx; exact hp
theorem all_of_take {p : UInt8 → Bool} {s : List UInt8} {n : Nat} (h : ∀ e ∈ s.take n, p e = true) (hn : s.length ≤ n) : s.all p = true := by
  rw [List.take_of_length_le hn] at h; exact List.all_eq_true.2 h
theorem not_all {p : UInt8 → Bool} {s : List UInt8} {n : Nat} {e : UInt8} (he : s[n]? = some e) (hp : p e = false) : s.all p = false := by
  rw [Bool.eq_false_iff]; intro h
  rw [List.all_eq_true.1 h e (List.mem_of_getElem? he)] at hp; cases hp
theorem takeWhile_eq_self {p : UInt8 → Bool} {s : List UInt8} : s.takeWhile p = s ↔ s.all p = true := by
  constructor
  · intro h; rw [← h]; exact List.all_takeWhile
  · intro h; induction s with
    | nil => rfl
    | cons c s ih =>
      simp only [List.all_cons, Bool.and_eq_true] at h
      rw [List.takeWhile_cons, if_pos h.1, ih h.2]
theorem idxOf_none {p : UInt8 → Bool} : ∀ {s : List UInt8}, idxOf p s = none ↔ ∀ e ∈ s, p e = false
  | [] => by simp [idxOf]
  | c :: s => by
    unfold idxOf
    by_cases h : p c = true
    · simp [h]
    · simp [h, idxOf_none (s := s)]
theorem idxOf_some {p : UInt8 → Bool} : ∀ {s : List UInt8} {i : Nat}, idxOf p s = some i ↔ (∀ e ∈ s.take i, p e = false) ∧ ∃ e, s[i]? = some e ∧ p e = true
  | [], i => by simp [idxOf]
  | c :: s, i => by
    unfold idxOf
    by_cases h : p c = true
    · cases i with
      | zero => simp [h]
      | succ i => simp [h]
    · cases i with
      | zero => simp [h]
      | succ i =>
        simp only [h, Bool.false_eq_true, if_false, Option.map_eq_some_iff]
        constructor
        · rintro ⟨j, hj, e⟩
          obtain rfl : j = i := by omega
          obtain ⟨h1, h2⟩ := idxOf_some.1 hj
          refine ⟨?_, by simpa using h2⟩
          intro e he; simp at he
          rcases he with rfl | he
          · simpa using h
          · exact h1 e he
        · rintro ⟨h1, h2⟩
          exact ⟨i, idxOf_some.2 ⟨fun e he => h1 e (by simp [he]), by simpa using h2⟩, rfl⟩
end Go.My
end
section
set_option linter.unusedVariables false
set_option linter.unusedSimpArgs false
namespace Go.My
open Go.Eng
def inn (x a b : Int) : Bool := decide (a ≤ x) && decide (x ≤ b)
def isNd (l : List Nd) (k : Int) : Bool := decide (0 ≤ k) && decide (k < l.length)
def isVal (k : Int) : Bool := inn k 1 11
def isStep (k : Int) : Bool := inn k 12 17
def isMem (k : Int) : Bool := decide (k = 12) || (decide (k = 20) || decide (k = 19))
def isBlk (k : Int) : Bool := decide (k = 18)
def isNm (k : Int) : Bool := decide (k = 1)
def isCl (k : Int) : Bool := decide (k = 5)
def isSt (k : Int) : Bool := isStep k || decide (k = 19)
def isTop (k : Int) : Bool := isMem k || decide (k = 21)
def lastIs (p : Int → Bool) (ks : List Int) : Bool := match ks.getLast? with
  | some k => p k && ks.dropLast.all isNm
  | none => false
def kindsOk (k : Int) (ks : List Int) : Bool :=
  if k = 1 ∨ k = 2 ∨ k = 3 ∨ k = 19 then decide (ks.length = 0)
  else if k = 4 then ks.all isVal
  else if k = 5 then decide (1 ≤ ks.length) && ks.all isVal
  else if k = 7 then decide (2 ≤ ks.length) && ks.all isVal
  else if k = 8 then decide (ks.length = 3) && ks.all isVal
  else if k = 6 ∨ k = 11 ∨ k = 13 ∨ k = 14 then decide (ks.length = 1) && ks.all isVal
  else if k = 12 ∨ k = 15 then decide (ks.length ≤ 1) && ks.all isVal
  else if k = 9 then lastIs isVal ks
  else if k = 10 then decide (2 ≤ ks.length) && (isVal (ks.headD 0) && (ks.drop 1).all isCl)
  else if k = 16 then (decide (2 ≤ ks.length) && decide (ks.length ≤ 3)) && (isVal (ks.headD 0) && (ks.drop 1).all isBlk)
  else if k = 17 then decide (ks.length = 2) && (isVal (ks.headD 0) && isBlk (ks.getD 1 0))
  else if k = 18 then ks.all isSt
  else if k = 20 then lastIs isBlk ks
  else if k = 21 then ks.all isMem
  else if k = 22 then ks.all isTop
  else false
def ndAt (ns : List Nd) (c : Int) : Nd := ns.getD c.toNat ⟨0, [], [], false⟩
def kindAt (ns : List Nd) (c : Int) : Int := (ndAt ns c).kind
def callOk (ns : List Nd) (x : Nd) (i : Nat) (c : Int) : Bool :=
  let y := ndAt ns c
  if y.kind = 5 then match y.kids with
    | [] => false
    | h :: _ => isNd ns h && !(decide (x.kind = 10) && (decide (0 < i) && !decide (kindAt ns h = 1)))
  else true
def callsOk (ns : List Nd) (x : Nd) : Bool := (x.kids.zipIdx).all fun p => callOk ns x p.2 p.1
def kidsIn (l : List Int) (k : Int) : Bool := l.all fun c => decide (0 ≤ c) && decide (c < k)
def mayBlank (k : Int) : Bool := isStep k || (isMem k || decide (k = 21))
def nodeOk1 (ns : List Nd) (k : Int) (x : Nd) : Bool :=
  decide (x.kids.length ≤ 12) && (textOk x.kind x.text && ((kidsIn x.kids k && decide x.kids.Nodup) && (kindsOk x.kind (x.kids.map (kindAt ns)) && (callsOk ns x && (mayBlank x.kind || !x.blank)))))
def nodeOk (ns : List Nd) (k : Int) : Bool := isNd ns k && nodeOk1 ns k (ndAt ns k)
def mx (ds : List Int) : List Int → Int → Int
  | [], d => d
  | c :: l, d => mx ds l (max d (ds.getD c.toNat 0))
def deeps (ns : List Nd) : Nat → Option (List Int)
  | 0 => some []
  | n + 1 => match deeps ns n with
    | none => none
    | some ds => if nodeOk ns n then (if 14 ≤ mx ds (ndAt ns n).kids 0 then none else some (ds ++ [mx ds (ndAt ns n).kids 0 + 1])) else none
def deepOf (ns : List Nd) (k : Int) : Int := if isNd ns k then match deeps ns (k.toNat + 1) with
    | none => 0
    | some ds => ds.getD k.toNat 0
  else 0
def allKids (ns : List Nd) : List Int := ns.flatMap (·.kids)
def treeOk (ns : List Nd) : Bool :=
  (decide (1 ≤ ns.length) && decide (ns.length ≤ 300)) && (decide (kindAt ns (ns.length - 1) = 22) && (!decide (deepOf ns (ns.length - 1) = 0) && ((List.range (ns.length - 1)).all fun i => decide ((allKids ns).count (i : Int) = 1))))
theorem isNd_iff {l : List Nd} {k : Int} : isNd l k = true ↔ 0 ≤ k ∧ k < l.length := by simp [isNd]
theorem ndAt_of {ns : List Nd} {c : Int} {x : Nd} (h : ns[c.toNat]? = some x) : ndAt ns c = x := by
  simp [ndAt, List.getD, h]
theorem mx_ge (ds : List Int) : ∀ (l : List Int) (d : Int), d ≤ mx ds l d
  | [], d => Int.le_refl d
  | c :: l, d => by unfold mx; have := mx_ge ds l (max d (ds.getD c.toNat 0)); omega
theorem deeps_length {ns : List Nd} : ∀ {n : Nat} {ds : List Int}, deeps ns n = some ds → ds.length = n
  | 0, ds, h => by cases h; rfl
  | n + 1, ds, h => by
    unfold deeps at h
    split at h
    · cases h
    · rename_i ds' hd
      split at h
      · split at h
        · cases h
        · simp at h; rw [← h]; simp [deeps_length hd]
      · cases h
theorem deeps_pos {ns : List Nd} : ∀ {n : Nat} {ds : List Int}, deeps ns n = some ds → ∀ d ∈ ds, 1 ≤ d ∧ d ≤ 14
  | 0, ds, h => by cases h; simp
  | n + 1, ds, h => by
    unfold deeps at h
    split at h
    · cases h
    · rename_i ds' hd
      split at h
      · split at h
        · cases h
        · simp at h; rw [← h]
          intro d hdm
          rcases List.mem_append.1 hdm with hdm | hdm
          · exact deeps_pos hd d hdm
          · simp at hdm
            have := mx_ge ds' (ndAt ns n).kids 0
            omega
      · cases h
theorem deeps_ok {ns : List Nd} : ∀ {n : Nat} {ds : List Int}, deeps ns n = some ds → ∀ i, i < n → nodeOk ns i = true
  | 0, ds, h, i, hi => by omega
  | n + 1, ds, h, i, hi => by
    unfold deeps at h
    split at h
    · cases h
    · rename_i ds' hd
      split at h
      · rename_i hok
        by_cases e : i = n
        · subst e; exact hok
        · exact deeps_ok hd i (by omega)
      · cases h
theorem deeps_none_le {ns : List Nd} {n m : Nat} (h : deeps ns n = none) (hm : n ≤ m) : deeps ns m = none := by
  induction m with
  | zero => obtain rfl : n = 0 := by omega
            exact h
  | succ m ih =>
    by_cases e : n = m + 1
    · subst e; exact h
    · unfold deeps; rw [ih (by omega)]
theorem deepOf_pos {ns : List Nd} {k : Int} (h : deepOf ns k ≠ 0) : isNd ns k = true ∧ (∃ ds, deeps ns (k.toNat + 1) = some ds) ∧ ∀ i : Nat, (i : Int) ≤ k → nodeOk ns i = true := by
  unfold deepOf at h
  split at h
  · rename_i hn
    split at h
    · exact (h rfl).elim
    · rename_i ds hd
      exact ⟨hn, ⟨ds, hd⟩, fun i hi => deeps_ok hd i (by have := isNd_iff.1 hn; omega)⟩
  · exact (h rfl).elim
theorem nodeOk_parts {ns : List Nd} {k : Int} (h : nodeOk ns k = true) : (0 ≤ k ∧ k < ns.length) ∧ (ndAt ns k).kids.length ≤ 12 ∧ textOk (ndAt ns k).kind (ndAt ns k).text = true ∧
    (∀ c ∈ (ndAt ns k).kids, 0 ≤ c ∧ c < k) ∧ (ndAt ns k).kids.Nodup ∧ kindsOk (ndAt ns k).kind ((ndAt ns k).kids.map (kindAt ns)) = true ∧ callsOk ns (ndAt ns k) = true := by
  simp only [nodeOk, nodeOk1, Bool.and_eq_true, decide_eq_true_eq, kidsIn, List.all_eq_true] at h
  exact ⟨isNd_iff.1 h.1, h.2.1, h.2.2.1, h.2.2.2.1.1, h.2.2.2.1.2, h.2.2.2.2.1, h.2.2.2.2.2.1⟩
end Go.My
end
section
set_option linter.unusedVariables false
set_option linter.unusedSimpArgs false
namespace Go.My
open Go.Eng Go.Proofs Go.RowKit
variable {G : GInv}
def idxI (s : List UInt8) (c : UInt8) : Int := match idxOf (fun d => decide (d.toNat = c.toNat)) s with
  | none => -1
  | some i => i
theorem indexByte_eq : ∀ (s : List UInt8) (c : UInt8), Lib.indexByte s c = idxI s c
  | [], c => rfl
  | b :: s, c => by
    unfold Lib.indexByte idxI idxOf
    have e : (b == c) = decide (b.toNat = c.toNat) := by
      rw [Bool.eq_iff_iff]; simp [UInt8.toNat_inj]
    rw [e]
    by_cases h : b.toNat = c.toNat
    · simp [h]
    · have ih := indexByte_eq s c
      unfold idxI at ih
      simp only [h, decide_false, Bool.false_eq_true, if_false]
      rw [ih]
      cases hh : idxOf (fun d => decide (d.toNat = c.toNat)) s with
      | none => simp
      | some i => simp
set_option maxHeartbeats 1000000 in
set_option maxRecDepth 100000 in
theorem idxByte_calls (s : ByteArray) (c : Int) (w : World) :
    Calls Tryz.prog 145 #[.string s, .int .u8 c] w fun e w' => e = .returned (.int .i64 (Lib.indexByte s.data.toList c.toNat.toUInt8)) ∧ w' = w := by
  go_enter Tryz.func145, Tryz.ntmps145
  go_wp2
  rw [run_callFunc_extern Tryz.func172 (by kernel_rfl) (by kernel_rfl) (by kernel_rfl) (e := Extern.BytealgIndexByte.indexByte) (by kernel_rfl), Lib.run_indexByteString]
  simp only [Result.andThen]
  rw [Oper.upon_value]
  go_wp2
  go_ret
  exact ⟨rfl, rfl⟩
def s_idxB : Sig := { X := List UInt8 × UInt8, args := fun x => [.str x.1, .int .u8 x.2.toNat], pre := fun _ => True, Y := Unit, post := fun _ _ => True, res := fun x _ => .int .i64 (idxI x.1 x.2), outs := fun _ _ => [.top, .top], keep := false }
theorem idxB_ok : Contract G Tryz.prog 145 s_idxB := by
  refine ⟨⟨⟨_, Tryz.func145, by kernel_rfl, by kernel_rfl⟩, fun x y _ _ => ⟨trivial, trivial, trivial, trivial⟩⟩, ?_⟩
  rintro ⟨l, c⟩ _ Z w vals A _ h hA _
  simp only [s_idxB, rel0L, rel0] at h
  obtain ⟨v, cs, A1, A2, rfl, _, ⟨rfl, _⟩, v', cs', A3, A4, rfl, _, ⟨rfl, _⟩, rfl, _⟩ := h
  refine (idxByte_calls ⟨l.toArray⟩ c.toNat w).mono ?_
  rintro e w' ⟨rfl, rfl⟩
  refine ⟨(), _, Z, (fun _ => False), trivial, rfl, ?_, ⟨rfl, rfl, rfl, Nat.le_refl _, fun _ _ _ => ⟨rfl, Iff.rfl⟩, fun _ h => h.elim⟩⟩
  simp only [s_idxB, rel0L, rel0]
  refine ⟨_, _, _, _, rfl, join_emp_left _, ⟨?_, emp_false⟩, _, _, _, _, rfl, join_emp_left _, emp_false, _, _, _, _, rfl, join_emp_left _, emp_false, rfl, emp_false⟩
  rw [indexByte_eq]; simp
def s_idxQ : Sig := { X := List UInt8, args := fun x => [.str x, .int .u8 39], pre := fun _ => True, Y := Unit, post := fun _ _ => True, res := fun x _ => .int .i64 (idxI x 39), outs := fun _ _ => [.top, .top], keep := false }
theorem idxQ_ok : Contract G Tryz.prog 145 s_idxQ := ⟨⟨(idxB_ok (G := G)).1.1, fun x y _ _ => ⟨trivial, trivial, trivial, trivial⟩⟩, fun x hx => (idxB_ok (G := G)).2 (x, 39) trivial⟩
def s_sIdxQ  : Sig := { X := List UInt8, args := fun x => [.str x, .int .u8 39], pre := fun x => True, Y := Unit, post := fun x y => True, res := fun x y => .int .i64 (idxI x 39), outs := fun x y => [.top, .top], keep := false }
theorem sIdxQ_ok  : Contract G Tryz.prog 111 s_sIdxQ :=
  vcFun_okP [(145, 0, s_idxQ)] [] false (fun x => []) Tryz.func111 rfl (by decide) ⟨idxQ_ok, trivial⟩ (fun (x : List UInt8) => (∀ (y : Unit), True → True ∧ True ∧ True ∧ True) ∧ cA s_idxQ [.str x, AV.int IntKind.u8 (39 : Int)] fun x_1 y => rA s_sIdxQ x [.int .i64 (idxI x_1 (39 : UInt8)), .top, .top]) (fun x => by kernel_rfl) fun (x : List UInt8) (hx : True) => (by
  dsimp only [cA, rA, s_idxQ, s_sIdxQ, hndL, hnd1, mvL, lnL, mvE, lnE]
  (repeat' first | (with_reducible first | rfl | exact True.intro | apply inR_i64 | apply And.intro | ((first | apply bcase_dec | apply bcase_bne | apply bcase_beq | apply bcase_not) <;> intro _)) | (apply bcase_intro <;> intro _) | apply sl_eq | refine ex_flip () ?_ ?_ | ((first | apply ex_flip10 | apply ex_flip9 | apply ex_flip8 | apply ex_flip7 | apply ex_flip6 | apply ex_flip5 | apply ex_flip4 | apply ex_flip3 | apply ex_flip2) <;> try dsimp only) | apply ex_flip | (refine Prod.forall.2 ?_; intro _; try dsimp only) | (intro _; try dsimp only)) <;> (try dsimp only at *) <;> (try simp only [i64max, List.length_cons, List.length_nil]) <;> (try omega))
def s_slIdx  : Sig := { X := List UInt8 × List UInt8, args := fun x => [.str x.1, .str x.2], pre := fun x => x.2.length = 1, Y := Unit, post := fun x y => True, res := fun x y => .int .i64 (idxI x.1 (x.2.headD 0)), outs := fun x y => [.top, .top], keep := false }
theorem slIdx_ok  : Contract G Tryz.prog 159 s_slIdx :=
  vcFun_okP [(145, 0, s_idxB)] [] false (fun x => []) Tryz.func159 rfl (by decide) ⟨idxB_ok, trivial⟩ (fun (x : List UInt8 × List UInt8) => (∀ (y : Unit), True → True ∧ True ∧ True ∧ True) ∧ bcase ((↑(List.length x.2) : Int) == (0 : Int)) (rA s_slIdx x [.int .i64 (0 : Int), .top, .top]) (bcase (x.2 == x.1) (rA s_slIdx x [.int .i64 (0 : Int), .top, .top]) (bcase ((↑(List.length x.2) : Int) == (1 : Int)) (((0 : Int) ≤ (0 : Int) ∧ (0 : Int) < (↑(List.length x.2) : Int)) ∧ ∀ (c : UInt8), x.2[(0 : Nat)]? = some c → cA s_idxB [.str x.1, AV.int IntKind.u8 (↑(UInt8.toNat c) : Int)] fun x_1 y => rA s_slIdx x [.int .i64 (idxI x_1.1 x_1.2), .top, .top]) (bcase (decide ((↑(List.length x.2) : Int) ≥ (↑(List.length x.1) : Int))) (rA s_slIdx x [.int .i64 (-1 : Int), .top, .top]) False)))) (fun x => by kernel_rfl) fun (x : List UInt8 × List UInt8) (hx : x.2.length = 1) => (by
  dsimp only [cA, rA, s_idxB, s_slIdx, hndL, hnd1, mvL, lnL, mvE, lnE]
  (repeat' first | (with_reducible first | rfl | exact True.intro | apply inR_i64 | apply And.intro | ((first | apply bcase_dec | apply bcase_bne | apply bcase_beq | apply bcase_not) <;> intro _)) | (apply bcase_intro <;> intro _) | apply sl_eq | refine ex_flip () ?_ ?_ | ((first | apply ex_flip10 | apply ex_flip9 | apply ex_flip8 | apply ex_flip7 | apply ex_flip6 | apply ex_flip5 | apply ex_flip4 | apply ex_flip3 | apply ex_flip2) <;> try dsimp only) | apply ex_flip | (refine Prod.forall.2 ?_; intro _; try dsimp only) | (intro _; try dsimp only)) <;> (try dsimp only at *) <;> (try simp only [i64max, List.length_cons, List.length_nil]) <;> (try omega)
  · rename_i _ h; rw [← h]; match x.2, hx with
    | [c], _ => simp [idxI, idxOf]
  · rename_i c hc _ _
    match x.2, hx, hc with
    | [d], _, hc => simp at hc; rw [← hc]; rfl)
def s_sIdx  : Sig := { X := List UInt8 × List UInt8, args := fun x => [.str x.1, .str x.2], pre := fun x => x.2.length = 1, Y := Unit, post := fun x y => True, res := fun x y => .int .i64 (idxI x.1 (x.2.headD 0)), outs := fun x y => [.top, .top], keep := false }
theorem sIdx_ok  : Contract G Tryz.prog 121 s_sIdx :=
  vcFun_okP [(159, 0, s_slIdx)] [] false (fun x => []) Tryz.func121 rfl (by decide) ⟨slIdx_ok, trivial⟩ (fun (x : List UInt8 × List UInt8) => (∀ (y : Unit), True → True ∧ True ∧ True ∧ True) ∧ cA s_slIdx [.str x.1, .str x.2] fun x_1 y => rA s_sIdx x [.int .i64 (idxI x_1.1 (List.headD x_1.2 (0 : UInt8))), .top, .top]) (fun x => by kernel_rfl) fun (x : List UInt8 × List UInt8) (hx : x.2.length = 1) => (by
  dsimp only [cA, rA, s_sIdx, s_slIdx, hndL, hnd1, mvL, lnL, mvE, lnE]
  (repeat' first | (with_reducible first | rfl | exact True.intro | apply inR_i64 | apply And.intro | ((first | apply bcase_dec | apply bcase_bne | apply bcase_beq | apply bcase_not) <;> intro _)) | (apply bcase_intro <;> intro _) | apply sl_eq | refine ex_flip () ?_ ?_ | ((first | apply ex_flip10 | apply ex_flip9 | apply ex_flip8 | apply ex_flip7 | apply ex_flip6 | apply ex_flip5 | apply ex_flip4 | apply ex_flip3 | apply ex_flip2) <;> try dsimp only) | apply ex_flip | (refine Prod.forall.2 ?_; intro _; try dsimp only) | (intro _; try dsimp only)) <;> (try dsimp only at *) <;> (try simp only [i64max, List.length_cons, List.length_nil]) <;> (try omega))
def s_sHas  : Sig := { X := List UInt8 × List UInt8, args := fun x => [.str x.1, .str x.2], pre := fun x => x.2.length = 1, Y := Unit, post := fun x y => True, res := fun x y => .bool (decide (idxI x.1 (x.2.headD 0) ≥ 0)), outs := fun x y => [.top, .top], keep := false }
theorem sHas_ok  : Contract G Tryz.prog 114 s_sHas :=
  vcFun_okP [(121, 0, s_sIdx)] [] false (fun x => []) Tryz.func114 rfl (by decide) ⟨sIdx_ok, trivial⟩ (fun (x : List UInt8 × List UInt8) => (∀ (y : Unit), True → True ∧ True ∧ True ∧ True) ∧ cA s_sIdx [.str x.1, .str x.2] fun x_1 y => rA s_sHas x [.bool (decide (idxI x_1.1 (List.headD x_1.2 (0 : UInt8)) ≥ (0 : Int))), .top, .top]) (fun x => by kernel_rfl) fun (x : List UInt8 × List UInt8) (hx : x.2.length = 1) => (by
  dsimp only [cA, rA, s_sHas, s_sIdx, hndL, hnd1, mvL, lnL, mvE, lnE]
  (repeat' first | (with_reducible first | rfl | exact True.intro | apply inR_i64 | apply And.intro | ((first | apply bcase_dec | apply bcase_bne | apply bcase_beq | apply bcase_not) <;> intro _)) | (apply bcase_intro <;> intro _) | apply sl_eq | refine ex_flip () ?_ ?_ | ((first | apply ex_flip10 | apply ex_flip9 | apply ex_flip8 | apply ex_flip7 | apply ex_flip6 | apply ex_flip5 | apply ex_flip4 | apply ex_flip3 | apply ex_flip2) <;> try dsimp only) | apply ex_flip | (refine Prod.forall.2 ?_; intro _; try dsimp only) | (intro _; try dsimp only)) <;> (try dsimp only at *) <;> (try simp only [i64max, List.length_cons, List.length_nil]) <;> (try omega))
def s_slPre  : Sig := { X := List UInt8 × List UInt8, args := fun x => [.str x.1, .str x.2], pre := fun x => x.2.length < 2 ^ 62 ∧ x.1.length < 2 ^ 63, Y := Unit, post := fun x y => True, res := fun x y => .bool (x.1.take x.2.length == x.2), outs := fun x y => [.top, .top], keep := false }
theorem slPre_ok  : Contract G Tryz.prog 112 s_slPre :=
  vcFun_okP [] [] false (fun x => []) Tryz.func112 rfl (by decide) trivial (fun (x : List UInt8 × List UInt8) => (∀ (y : Unit), True → True ∧ True ∧ True ∧ True) ∧ bcase (decide ((↑(List.length x.1) : Int) ≥ (↑(List.length x.2) : Int))) (((0 : Int) ≤ (0 : Int) ∧ (0 : Int) ≤ (↑(List.length x.2) : Int) ∧ (↑(List.length x.2) : Int) ≤ (↑(List.length x.1) : Int)) ∧ rA s_slPre x [.bool (List.take (Int.toNat (↑(List.length x.2) : Int)) x.1 == x.2), .top, .top]) (rA s_slPre x [.bool false, .top, .top])) (fun x => by kernel_rfl) fun (x : List UInt8 × List UInt8) (hx : x.2.length < 2 ^ 62 ∧ x.1.length < 2 ^ 63) => (by
  dsimp only [rA, s_slPre, hndL, hnd1]
  obtain ⟨h1, h2⟩ := hx
  (repeat' first | (with_reducible first | rfl | exact True.intro | apply inR_i64 | apply And.intro | ((first | apply bcase_dec | apply bcase_bne | apply bcase_beq | apply bcase_not) <;> intro _)) | (apply bcase_intro <;> intro _) | apply sl_eq | refine ex_flip () ?_ ?_ | ((first | apply ex_flip10 | apply ex_flip9 | apply ex_flip8 | apply ex_flip7 | apply ex_flip6 | apply ex_flip5 | apply ex_flip4 | apply ex_flip3 | apply ex_flip2) <;> try dsimp only) | apply ex_flip | (refine Prod.forall.2 ?_; intro _; try dsimp only) | (intro _; try dsimp only)) <;> (try dsimp only at *) <;> (try simp only [i64max, List.length_cons, List.length_nil]) <;> (try omega)
  · simp
  · rename_i h; rw [eq_comm, beq_eq_false_iff_ne]; intro e; have := congrArg List.length e; simp at this; omega)
def s_sPre  : Sig := { X := List UInt8 × List UInt8, args := fun x => [.str x.1, .str x.2], pre := fun x => x.2.length < 2 ^ 62 ∧ x.1.length < 2 ^ 63, Y := Unit, post := fun x y => True, res := fun x y => .bool (x.1.take x.2.length == x.2), outs := fun x y => [.top, .top], keep := false }
theorem sPre_ok  : Contract G Tryz.prog 87 s_sPre :=
  vcFun_okP [(112, 0, s_slPre)] [] false (fun x => []) Tryz.func87 rfl (by decide) ⟨slPre_ok, trivial⟩ (fun (x : List UInt8 × List UInt8) => (∀ (y : Unit), True → True ∧ True ∧ True ∧ True) ∧ cA s_slPre [.str x.1, .str x.2] fun x_1 y => rA s_sPre x [.bool (List.take (List.length x_1.2) x_1.1 == x_1.2), .top, .top]) (fun x => by kernel_rfl) fun (x : List UInt8 × List UInt8) (hx : x.2.length < 2 ^ 62 ∧ x.1.length < 2 ^ 63) => (by
  dsimp only [cA, rA, s_sPre, s_slPre, hndL, hnd1, mvL, lnL, mvE, lnE]
  obtain ⟨h1, h2⟩ := hx
  (repeat' first | (with_reducible first | rfl | exact True.intro | apply inR_i64 | apply And.intro | ((first | apply bcase_dec | apply bcase_bne | apply bcase_beq | apply bcase_not) <;> intro _)) | (apply bcase_intro <;> intro _) | apply sl_eq | refine ex_flip () ?_ ?_ | ((first | apply ex_flip10 | apply ex_flip9 | apply ex_flip8 | apply ex_flip7 | apply ex_flip6 | apply ex_flip5 | apply ex_flip4 | apply ex_flip3 | apply ex_flip2) <;> try dsimp only) | apply ex_flip | (refine Prod.forall.2 ?_; intro _; try dsimp only) | (intro _; try dsimp only)) <;> (try dsimp only at *) <;> (try simp only [i64max, List.length_cons, List.length_nil]) <;> (try omega))
end Go.My
end
section
set_option linter.unusedVariables false
set_option linter.unusedSimpArgs false
namespace Go.My
open Go.Eng Go.Proofs
variable {G : GInv}
def s_inRange  : Sig := { X := Int × Int × Int, args := fun x => [.int .i64 x.1, .int .i64 x.2.1, .int .i64 x.2.2], pre := fun x => True, Y := Unit, post := fun x y => True, res := fun x y => .bool (inn x.1 x.2.1 x.2.2), outs := fun x y => [.top, .top, .top], keep := false }
theorem inRange_ok  : Contract G Tryz.prog 58 s_inRange :=
  vcFun_okP [] [] false (fun x => []) Tryz.func58 rfl (by decide) trivial (fun (x : Int × Int × Int) => (∀ (y : Unit), True → True ∧ True ∧ True ∧ True ∧ True) ∧ bcase (decide (x.1 ≥ x.2.1)) (rA s_inRange x [.bool (decide (x.1 ≤ x.2.2)), .top, .top, .top]) (rA s_inRange x [.bool false, .top, .top, .top])) (fun x => by kernel_rfl) fun (x : Int × Int × Int) (hx : True) => (by
  dsimp only [rA, s_inRange, hndL, hnd1]
  (repeat' first | (with_reducible first | rfl | exact True.intro | apply inR_i64 | apply And.intro | ((first | apply bcase_dec | apply bcase_bne | apply bcase_beq | apply bcase_not) <;> intro _)) | (apply bcase_intro <;> intro _) | apply sl_eq | refine ex_flip () ?_ ?_ | ((first | apply ex_flip10 | apply ex_flip9 | apply ex_flip8 | apply ex_flip7 | apply ex_flip6 | apply ex_flip5 | apply ex_flip4 | apply ex_flip3 | apply ex_flip2) <;> try dsimp only) | apply ex_flip | (refine Prod.forall.2 ?_; intro _; try dsimp only) | (intro _; try dsimp only)) <;> (try dsimp only at *) <;> (try simp only [i64max, List.length_cons, List.length_nil]) <;> (try omega)
  all_goals simp [inn, *])
def s_l01In  : Sig := { X := Int × Int × Int, args := fun x => [.int .i64 x.1, .int .i64 x.2.1, .int .i64 x.2.2], pre := fun x => True, Y := Unit, post := fun x y => True, res := fun x y => .bool (inn x.1 x.2.1 x.2.2), outs := fun x y => [.top, .top, .top], keep := false }
theorem l01In_ok  : Contract G Tryz.prog 53 s_l01In :=
  vcFun_okP [] [] false (fun x => []) Tryz.func53 rfl (by decide) trivial (fun (x : Int × Int × Int) => (∀ (y : Unit), True → True ∧ True ∧ True ∧ True ∧ True) ∧ bcase (decide (x.1 ≥ x.2.1)) (rA s_l01In x [.bool (decide (x.1 ≤ x.2.2)), .top, .top, .top]) (rA s_l01In x [.bool false, .top, .top, .top])) (fun x => by kernel_rfl) fun (x : Int × Int × Int) (hx : True) => (by
  dsimp only [rA, s_l01In, hndL, hnd1]
  (repeat' first | (with_reducible first | rfl | exact True.intro | apply inR_i64 | apply And.intro | ((first | apply bcase_dec | apply bcase_bne | apply bcase_beq | apply bcase_not) <;> intro _)) | (apply bcase_intro <;> intro _) | apply sl_eq | refine ex_flip () ?_ ?_ | ((first | apply ex_flip10 | apply ex_flip9 | apply ex_flip8 | apply ex_flip7 | apply ex_flip6 | apply ex_flip5 | apply ex_flip4 | apply ex_flip3 | apply ex_flip2) <;> try dsimp only) | apply ex_flip | (refine Prod.forall.2 ?_; intro _; try dsimp only) | (intro _; try dsimp only)) <;> (try dsimp only at *) <;> (try simp only [i64max, List.length_cons, List.length_nil]) <;> (try omega)
  all_goals simp [inn, *])
def s_isFigure  : Sig := { X := UInt8, args := fun x => [.int .u8 x.toNat], pre := fun x => True, Y := Unit, post := fun x y => True, res := fun x y => .bool (isFig x), outs := fun x y => [.top], keep := false }
theorem isFigure_ok  : Contract G Tryz.prog 85 s_isFigure :=
  vcFun_okP [] [] false (fun x => []) Tryz.func85 rfl (by decide) trivial (fun (x : UInt8) => (∀ (y : Unit), True → True ∧ True ∧ True) ∧ bcase (decide ((↑(UInt8.toNat x) : Int) ≥ (48 : Int))) (rA s_isFigure x [.bool (decide ((↑(UInt8.toNat x) : Int) ≤ (57 : Int))), .top]) (rA s_isFigure x [.bool false, .top])) (fun x => by kernel_rfl) fun (x : UInt8) (hx : True) => (by
  dsimp only [rA, s_isFigure, hndL, hnd1]
  (repeat' first | (with_reducible first | rfl | exact True.intro | apply inR_i64 | apply And.intro | ((first | apply bcase_dec | apply bcase_bne | apply bcase_beq | apply bcase_not) <;> intro _)) | (apply bcase_intro <;> intro _) | apply sl_eq | refine ex_flip () ?_ ?_ | ((first | apply ex_flip10 | apply ex_flip9 | apply ex_flip8 | apply ex_flip7 | apply ex_flip6 | apply ex_flip5 | apply ex_flip4 | apply ex_flip3 | apply ex_flip2) <;> try dsimp only) | apply ex_flip | (refine Prod.forall.2 ?_; intro _; try dsimp only) | (intro _; try dsimp only)) <;> (try dsimp only at *) <;> (try simp only [i64max, List.length_cons, List.length_nil]) <;> (try omega)
  all_goals (rw [Bool.eq_iff_iff]; simp only [isFig, Bool.and_eq_true, Bool.or_eq_true, decide_eq_true_eq, Bool.not_eq_true', decide_eq_false_iff_not, bne_iff_ne, ne_eq, beq_iff_eq, Bool.not_not, reduceCtorEq, Bool.false_eq_true, true_iff, false_iff, iff_true, iff_false, not_true, not_false_eq_true] <;> omega))
def s_l04Figure  : Sig := { X := UInt8, args := fun x => [.int .u8 x.toNat], pre := fun x => True, Y := Unit, post := fun x y => True, res := fun x y => .bool (isFig x), outs := fun x y => [.top], keep := false }
theorem l04Figure_ok  : Contract G Tryz.prog 79 s_l04Figure :=
  vcFun_okP [] [] false (fun x => []) Tryz.func79 rfl (by decide) trivial (fun (x : UInt8) => (∀ (y : Unit), True → True ∧ True ∧ True) ∧ bcase (decide ((↑(UInt8.toNat x) : Int) ≥ (48 : Int))) (rA s_l04Figure x [.bool (decide ((↑(UInt8.toNat x) : Int) ≤ (57 : Int))), .top]) (rA s_l04Figure x [.bool false, .top])) (fun x => by kernel_rfl) fun (x : UInt8) (hx : True) => (by
  dsimp only [rA, s_l04Figure, hndL, hnd1]
  (repeat' first | (with_reducible first | rfl | exact True.intro | apply inR_i64 | apply And.intro | ((first | apply bcase_dec | apply bcase_bne | apply bcase_beq | apply bcase_not) <;> intro _)) | (apply bcase_intro <;> intro _) | apply sl_eq | refine ex_flip () ?_ ?_ | ((first | apply ex_flip10 | apply ex_flip9 | apply ex_flip8 | apply ex_flip7 | apply ex_flip6 | apply ex_flip5 | apply ex_flip4 | apply ex_flip3 | apply ex_flip2) <;> try dsimp only) | apply ex_flip | (refine Prod.forall.2 ?_; intro _; try dsimp only) | (intro _; try dsimp only)) <;> (try dsimp only at *) <;> (try simp only [i64max, List.length_cons, List.length_nil]) <;> (try omega)
  all_goals (rw [Bool.eq_iff_iff]; simp only [isFig, Bool.and_eq_true, Bool.or_eq_true, decide_eq_true_eq, Bool.not_eq_true', decide_eq_false_iff_not, bne_iff_ne, ne_eq, beq_iff_eq, Bool.not_not, reduceCtorEq, Bool.false_eq_true, true_iff, false_iff, iff_true, iff_false, not_true, not_false_eq_true] <;> omega))
def s_isFirst  : Sig := { X := UInt8, args := fun x => [.int .u8 x.toNat], pre := fun x => True, Y := Unit, post := fun x y => True, res := fun x y => .bool (isFst x), outs := fun x y => [.top], keep := false }
theorem isFirst_ok  : Contract G Tryz.prog 82 s_isFirst :=
  vcFun_okP [] [] false (fun x => []) Tryz.func82 rfl (by decide) trivial (fun (x : UInt8) => (∀ (y : Unit), True → True ∧ True ∧ True) ∧ bcase (decide ((↑(UInt8.toNat x) : Int) ≥ (97 : Int))) (bcase (decide ((↑(UInt8.toNat x) : Int) ≤ (122 : Int))) (rA s_isFirst x [.bool true, .top]) (bcase (decide ((↑(UInt8.toNat x) : Int) ≥ (65 : Int))) (bcase (decide ((↑(UInt8.toNat x) : Int) ≤ (90 : Int))) (rA s_isFirst x [.bool true, .top]) (rA s_isFirst x [.bool ((↑(UInt8.toNat x) : Int) == (95 : Int)), .top])) (rA s_isFirst x [.bool ((↑(UInt8.toNat x) : Int) == (95 : Int)), .top]))) (bcase (decide ((↑(UInt8.toNat x) : Int) ≥ (65 : Int))) (bcase (decide ((↑(UInt8.toNat x) : Int) ≤ (90 : Int))) (rA s_isFirst x [.bool true, .top]) (rA s_isFirst x [.bool ((↑(UInt8.toNat x) : Int) == (95 : Int)), .top])) (rA s_isFirst x [.bool ((↑(UInt8.toNat x) : Int) == (95 : Int)), .top]))) (fun x => by kernel_rfl) fun (x : UInt8) (hx : True) => (by
  dsimp only [rA, s_isFirst, hndL, hnd1]
  (repeat' first | (with_reducible first | rfl | exact True.intro | apply inR_i64 | apply And.intro | ((first | apply bcase_dec | apply bcase_bne | apply bcase_beq | apply bcase_not) <;> intro _)) | (apply bcase_intro <;> intro _) | apply sl_eq | refine ex_flip () ?_ ?_ | ((first | apply ex_flip10 | apply ex_flip9 | apply ex_flip8 | apply ex_flip7 | apply ex_flip6 | apply ex_flip5 | apply ex_flip4 | apply ex_flip3 | apply ex_flip2) <;> try dsimp only) | apply ex_flip | (refine Prod.forall.2 ?_; intro _; try dsimp only) | (intro _; try dsimp only)) <;> (try dsimp only at *) <;> (try simp only [i64max, List.length_cons, List.length_nil]) <;> (try omega)
  all_goals (rw [Bool.eq_iff_iff]; simp only [isFst, Bool.and_eq_true, Bool.or_eq_true, decide_eq_true_eq, Bool.not_eq_true', decide_eq_false_iff_not, bne_iff_ne, ne_eq, beq_iff_eq, Bool.not_not, reduceCtorEq, Bool.false_eq_true, true_iff, false_iff, iff_true, iff_false, not_true, not_false_eq_true] <;> omega))
def s_l04First  : Sig := { X := UInt8, args := fun x => [.int .u8 x.toNat], pre := fun x => True, Y := Unit, post := fun x y => True, res := fun x y => .bool (isFst x), outs := fun x y => [.top], keep := false }
theorem l04First_ok  : Contract G Tryz.prog 78 s_l04First :=
  vcFun_okP [] [] false (fun x => []) Tryz.func78 rfl (by decide) trivial (fun (x : UInt8) => (∀ (y : Unit), True → True ∧ True ∧ True) ∧ bcase (decide ((↑(UInt8.toNat x) : Int) ≥ (97 : Int))) (bcase (decide ((↑(UInt8.toNat x) : Int) ≤ (122 : Int))) (rA s_l04First x [.bool true, .top]) (bcase (decide ((↑(UInt8.toNat x) : Int) ≥ (65 : Int))) (bcase (decide ((↑(UInt8.toNat x) : Int) ≤ (90 : Int))) (rA s_l04First x [.bool true, .top]) (rA s_l04First x [.bool ((↑(UInt8.toNat x) : Int) == (95 : Int)), .top])) (rA s_l04First x [.bool ((↑(UInt8.toNat x) : Int) == (95 : Int)), .top]))) (bcase (decide ((↑(UInt8.toNat x) : Int) ≥ (65 : Int))) (bcase (decide ((↑(UInt8.toNat x) : Int) ≤ (90 : Int))) (rA s_l04First x [.bool true, .top]) (rA s_l04First x [.bool ((↑(UInt8.toNat x) : Int) == (95 : Int)), .top])) (rA s_l04First x [.bool ((↑(UInt8.toNat x) : Int) == (95 : Int)), .top]))) (fun x => by kernel_rfl) fun (x : UInt8) (hx : True) => (by
  dsimp only [rA, s_l04First, hndL, hnd1]
  (repeat' first | (with_reducible first | rfl | exact True.intro | apply inR_i64 | apply And.intro | ((first | apply bcase_dec | apply bcase_bne | apply bcase_beq | apply bcase_not) <;> intro _)) | (apply bcase_intro <;> intro _) | apply sl_eq | refine ex_flip () ?_ ?_ | ((first | apply ex_flip10 | apply ex_flip9 | apply ex_flip8 | apply ex_flip7 | apply ex_flip6 | apply ex_flip5 | apply ex_flip4 | apply ex_flip3 | apply ex_flip2) <;> try dsimp only) | apply ex_flip | (refine Prod.forall.2 ?_; intro _; try dsimp only) | (intro _; try dsimp only)) <;> (try dsimp only at *) <;> (try simp only [i64max, List.length_cons, List.length_nil]) <;> (try omega)
  all_goals (rw [Bool.eq_iff_iff]; simp only [isFst, Bool.and_eq_true, Bool.or_eq_true, decide_eq_true_eq, Bool.not_eq_true', decide_eq_false_iff_not, bne_iff_ne, ne_eq, beq_iff_eq, Bool.not_not, reduceCtorEq, Bool.false_eq_true, true_iff, false_iff, iff_true, iff_false, not_true, not_false_eq_true] <;> omega))
def s_isInner  : Sig := { X := UInt8, args := fun x => [.int .u8 x.toNat], pre := fun x => True, Y := Unit, post := fun x y => True, res := fun x y => .bool (isInn x), outs := fun x y => [.top], keep := false }
theorem isInner_ok  : Contract G Tryz.prog 84 s_isInner :=
  vcFun_okP [(82, 0, s_isFirst), (85, 0, s_isFigure)] [] false (fun x => []) Tryz.func84 rfl (by decide) ⟨isFirst_ok, isFigure_ok, trivial⟩ (fun (x : UInt8) => (∀ (y : Unit), True → True ∧ True ∧ True) ∧ cA s_isFirst [AV.int IntKind.u8 (↑(UInt8.toNat x) : Int)] fun x_1 y => bcase (isFst x_1) (rA s_isInner x [.bool true, .top]) (cA s_isFigure [AV.int IntKind.u8 (↑(UInt8.toNat x) : Int)] fun x_2 y => rA s_isInner x [.bool (isFig x_2), .top])) (fun x => by kernel_rfl) fun (x : UInt8) (hx : True) => (by
  dsimp only [cA, rA, s_isFigure, s_isFirst, s_isInner, hndL, hnd1, mvL, lnL, mvE, lnE]
  (repeat' first | (with_reducible first | rfl | exact True.intro | apply inR_i64 | apply And.intro | ((first | apply bcase_dec | apply bcase_bne | apply bcase_beq | apply bcase_not) <;> intro _)) | (apply bcase_intro <;> intro _) | apply sl_eq | refine ex_flip () ?_ ?_ | ((first | apply ex_flip10 | apply ex_flip9 | apply ex_flip8 | apply ex_flip7 | apply ex_flip6 | apply ex_flip5 | apply ex_flip4 | apply ex_flip3 | apply ex_flip2) <;> try dsimp only) | apply ex_flip | (refine Prod.forall.2 ?_; intro _; try dsimp only) | (intro _; try dsimp only)) <;> (try dsimp only at *) <;> (try simp only [i64max, List.length_cons, List.length_nil]) <;> (try omega)
  all_goals simp [isInn, *])
def s_l04Plain  : Sig := { X := UInt8, args := fun x => [.int .u8 x.toNat], pre := fun x => True, Y := Unit, post := fun x y => True, res := fun x y => .bool (isPln x), outs := fun x y => [.top], keep := false }
theorem l04Plain_ok  : Contract G Tryz.prog 109 s_l04Plain :=
  vcFun_okP [] [] false (fun x => []) Tryz.func109 rfl (by decide) trivial (fun (x : UInt8) => (∀ (y : Unit), True → True ∧ True ∧ True) ∧ bcase (decide ((↑(UInt8.toNat x) : Int) ≥ (32 : Int))) (rA s_l04Plain x [.bool (decide ((↑(UInt8.toNat x) : Int) ≤ (126 : Int))), .top]) (rA s_l04Plain x [.bool false, .top])) (fun x => by kernel_rfl) fun (x : UInt8) (hx : True) => (by
  dsimp only [rA, s_l04Plain, hndL, hnd1]
  (repeat' first | (with_reducible first | rfl | exact True.intro | apply inR_i64 | apply And.intro | ((first | apply bcase_dec | apply bcase_bne | apply bcase_beq | apply bcase_not) <;> intro _)) | (apply bcase_intro <;> intro _) | apply sl_eq | refine ex_flip () ?_ ?_ | ((first | apply ex_flip10 | apply ex_flip9 | apply ex_flip8 | apply ex_flip7 | apply ex_flip6 | apply ex_flip5 | apply ex_flip4 | apply ex_flip3 | apply ex_flip2) <;> try dsimp only) | apply ex_flip | (refine Prod.forall.2 ?_; intro _; try dsimp only) | (intro _; try dsimp only)) <;> (try dsimp only at *) <;> (try simp only [i64max, List.length_cons, List.length_nil]) <;> (try omega)
  all_goals (rw [Bool.eq_iff_iff]; simp only [isPln, Bool.and_eq_true, Bool.or_eq_true, decide_eq_true_eq, Bool.not_eq_true', decide_eq_false_iff_not, bne_iff_ne, ne_eq, beq_iff_eq, Bool.not_not, reduceCtorEq, Bool.false_eq_true, true_iff, false_iff, iff_true, iff_false, not_true, not_false_eq_true] <;> omega))
def s_sg1  : Sig := { X := UInt8, args := fun x => [.int .u8 x.toNat], pre := fun x => True, Y := Unit, post := fun x y => True, res := fun x y => .bool (notNl x), outs := fun x y => [.top], keep := false }
theorem sg1_ok  : Contract G Tryz.prog 88 s_sg1 :=
  vcFun_okP [] [] false (fun x => []) Tryz.func88 rfl (by decide) trivial (fun (x : UInt8) => (∀ (y : Unit), True → True ∧ True ∧ True) ∧ rA s_sg1 x [.bool ((↑(UInt8.toNat x) : Int) != (10 : Int)), .top]) (fun x => by kernel_rfl) fun (x : UInt8) (hx : True) => (by
  dsimp only [rA, s_sg1, hndL, hnd1]
  (repeat' first | (with_reducible first | rfl | exact True.intro | apply inR_i64 | apply And.intro | ((first | apply bcase_dec | apply bcase_bne | apply bcase_beq | apply bcase_not) <;> intro _)) | (apply bcase_intro <;> intro _) | apply sl_eq | refine ex_flip () ?_ ?_ | ((first | apply ex_flip10 | apply ex_flip9 | apply ex_flip8 | apply ex_flip7 | apply ex_flip6 | apply ex_flip5 | apply ex_flip4 | apply ex_flip3 | apply ex_flip2) <;> try dsimp only) | apply ex_flip | (refine Prod.forall.2 ?_; intro _; try dsimp only) | (intro _; try dsimp only)) <;> (try dsimp only at *) <;> (try simp only [i64max, List.length_cons, List.length_nil]) <;> (try omega)
  all_goals (rw [Bool.eq_iff_iff]; simp only [notNl, Bool.and_eq_true, Bool.or_eq_true, decide_eq_true_eq, Bool.not_eq_true', decide_eq_false_iff_not, bne_iff_ne, ne_eq, beq_iff_eq, Bool.not_not, reduceCtorEq, Bool.false_eq_true, true_iff, false_iff, iff_true, iff_false, not_true, not_false_eq_true] <;> omega))
def lTake (p : UInt8 → Bool) (x : List UInt8) (rs : Int → List (Nat × AV)) : LS := {
  ι := Int, inv := fun i => 0 ≤ i ∧ i ≤ x.length ∧ ∀ e ∈ x.take i.toNat, p e = true, regs := rs, als := [], meas := fun i => x.length - i.toNat }
def s_isPlain  : Sig := { X := List UInt8, args := fun x => [.str x], pre := fun x => x.length < 2 ^ 63, Y := Unit, post := fun x y => True, res := fun x y => .bool (x.all isPln), outs := fun x y => [.top], keep := false }
theorem isPlain_ok  : Contract G Tryz.prog 90 s_isPlain :=
  vcFun_okP [] [] false (fun x => [(2, lTake isPln x fun i => [(0, .str x), (3, .int .i64 i)])]) Tryz.func90 rfl (by decide) trivial (fun (x : List UInt8) => (∀ (y : Unit), True → True ∧ True ∧ True) ∧ eA (lTake isPln x fun (i : Int) => [((0 : Nat), .str x), ((3 : Nat), .int .i64 i)]) [.str x, .int .i64 (0 : Int)] ∧ ∀ (i : Int), ((0 : Int) ≤ i ∧ i ≤ (↑(List.length x) : Int) ∧ ∀ (e : UInt8), e ∈ List.take (Int.toNat i) x → isPln e = true) → bcase (decide (i < (↑(List.length x) : Int))) (((0 : Int) ≤ i ∧ i < (↑(List.length x) : Int)) ∧ ∀ (c : UInt8), x[Int.toNat i]? = some c → bcase (decide ((↑(UInt8.toNat c) : Int) < (32 : Int))) (rA s_isPlain x [.bool false, .top]) (((0 : Int) ≤ i ∧ i < (↑(List.length x) : Int)) ∧ ∀ (c : UInt8), x[Int.toNat i]? = some c → bcase (decide ((↑(UInt8.toNat c) : Int) > (126 : Int))) (rA s_isPlain x [.bool false, .top]) (inR IntKind.i64 (i + (1 : Int)) ∧ eN (lTake isPln x fun (i : Int) => [((0 : Nat), .str x), ((3 : Nat), .int .i64 i)]) i [.str x, .int .i64 (i + (1 : Int))]))) (rA s_isPlain x [.bool true, .top])) (fun x => by kernel_rfl) fun (x : List UInt8) (hx : x.length < 2 ^ 63) => (by
  dsimp only [eA, eN, lTake, rA, s_isPlain, hndL, hnd1, sndL]
  (repeat' first | (with_reducible first | rfl | exact True.intro | apply inR_i64 | apply And.intro | ((first | apply bcase_dec | apply bcase_bne | apply bcase_beq | apply bcase_not) <;> intro _)) | (apply bcase_intro <;> intro _) | apply sl_eq | refine ex_flip () ?_ ?_ | ((first | apply ex_flip10 | apply ex_flip9 | apply ex_flip8 | apply ex_flip7 | apply ex_flip6 | apply ex_flip5 | apply ex_flip4 | apply ex_flip3 | apply ex_flip2) <;> try dsimp only) | apply ex_flip | (refine Prod.forall.2 ?_; intro _; try dsimp only) | (intro _; try dsimp only)) <;> (try dsimp only at *) <;> (try simp only [i64max, List.length_cons, List.length_nil]) <;> (try omega)
  · rename_i h; simp at h
  · rename_i i hi hl c hc h; exact (not_all hc (by (rw [Bool.eq_iff_iff]; simp only [isPln, Bool.and_eq_true, Bool.or_eq_true, decide_eq_true_eq, Bool.not_eq_true', decide_eq_false_iff_not, bne_iff_ne, ne_eq, beq_iff_eq, Bool.not_not, reduceCtorEq, Bool.false_eq_true, true_iff, false_iff, iff_true, iff_false, not_true, not_false_eq_true] <;> omega))).symm
  · rename_i i hi hl c hc h d hd h2; exact (not_all hd (by (rw [Bool.eq_iff_iff]; simp only [isPln, Bool.and_eq_true, Bool.or_eq_true, decide_eq_true_eq, Bool.not_eq_true', decide_eq_false_iff_not, bne_iff_ne, ne_eq, beq_iff_eq, Bool.not_not, reduceCtorEq, Bool.false_eq_true, true_iff, false_iff, iff_true, iff_false, not_true, not_false_eq_true] <;> omega))).symm
  · rename_i i hi hl c hc h d hd h2 e he
    rw [hc] at hd; cases hd
    rw [toNat1 hi.1] at he; exact all_take_succ hi.2.2 hc (by (rw [Bool.eq_iff_iff]; simp only [isPln, Bool.and_eq_true, Bool.or_eq_true, decide_eq_true_eq, Bool.not_eq_true', decide_eq_false_iff_not, bne_iff_ne, ne_eq, beq_iff_eq, Bool.not_not, reduceCtorEq, Bool.false_eq_true, true_iff, false_iff, iff_true, iff_false, not_true, not_false_eq_true] <;> omega)) e he
  · rename_i i hi hl; exact (all_of_take hi.2.2 (by omega)).symm)
def s_runI  : Sig := { X := List UInt8, args := fun x => [.str x, .clo (.func 84) []], pre := fun x => x.length < 2 ^ 63, Y := Unit, post := fun x y => True, res := fun x y => .str (x.takeWhile isInn), outs := fun x y => [.top, .top], keep := false }
theorem runI_ok  : Contract G Tryz.prog 83 s_runI :=
  vcFun_okP [(84, 0, s_isInner)] [] false (fun x => [(2, lTake isInn x fun i => [(0, .str x), (1, .clo (.func 84) []), (5, .int .i64 i)])]) Tryz.func83 rfl (by decide) ⟨isInner_ok, trivial⟩ (fun (x : List UInt8) => (∀ (y : Unit), True → True ∧ True ∧ True ∧ True) ∧ eA (lTake isInn x fun (i : Int) => [((0 : Nat), .str x), ((1 : Nat), AV.clo (Fn.func (84 : FuncId)) []), ((5 : Nat), .int .i64 i)]) [.str x, AV.clo (Fn.func (84 : FuncId)) [], .int .i64 (0 : Int)] ∧ ∀ (i : Int), ((0 : Int) ≤ i ∧ i ≤ (↑(List.length x) : Int) ∧ ∀ (e : UInt8), e ∈ List.take (Int.toNat i) x → isInn e = true) → bcase (decide (i < (↑(List.length x) : Int))) (((0 : Int) ≤ i ∧ i < (↑(List.length x) : Int)) ∧ ∀ (c : UInt8), x[Int.toNat i]? = some c → cA s_isInner [AV.int IntKind.u8 (↑(UInt8.toNat c) : Int)] fun x_1 y => bcase (isInn x_1) (inR IntKind.i64 (i + (1 : Int)) ∧ eN (lTake isInn x fun (i : Int) => [((0 : Nat), .str x), ((1 : Nat), AV.clo (Fn.func (84 : FuncId)) []), ((5 : Nat), .int .i64 i)]) i [.str x, AV.clo (Fn.func (84 : FuncId)) [], .int .i64 (i + (1 : Int))]) (((0 : Int) ≤ (0 : Int) ∧ (0 : Int) ≤ i ∧ i ≤ (↑(List.length x) : Int)) ∧ rA s_runI x [.str (List.take (Int.toNat i) x), .top, .top])) (((0 : Int) ≤ (0 : Int) ∧ (0 : Int) ≤ i ∧ i ≤ (↑(List.length x) : Int)) ∧ rA s_runI x [.str (List.take (Int.toNat i) x), .top, .top])) (fun x => by kernel_rfl) fun (x : List UInt8) (hx : x.length < 2 ^ 63) => (by
  dsimp only [cA, eA, eN, lTake, rA, s_isInner, s_runI, hndL, hnd1, mvL, lnL, mvE, lnE, sndL]
  (repeat' first | (with_reducible first | rfl | exact True.intro | apply inR_i64 | apply And.intro | ((first | apply bcase_dec | apply bcase_bne | apply bcase_beq | apply bcase_not) <;> intro _)) | (apply bcase_intro <;> intro _) | apply sl_eq | refine ex_flip () ?_ ?_ | ((first | apply ex_flip10 | apply ex_flip9 | apply ex_flip8 | apply ex_flip7 | apply ex_flip6 | apply ex_flip5 | apply ex_flip4 | apply ex_flip3 | apply ex_flip2) <;> try dsimp only) | apply ex_flip | (refine Prod.forall.2 ?_; intro _; try dsimp only) | (intro _; try dsimp only)) <;> (try dsimp only at *) <;> (try simp only [i64max, List.length_cons, List.length_nil]) <;> (try omega)
  · rename_i h; simp at h
  · rename_i i hi hl c hc y _ hp e he
    rw [toNat1 hi.1] at he; exact all_take_succ hi.2.2 hc hp e he
  · rename_i i hi hl c hc y _ hp
    exact takeWhile_take hi.2.2 (.inr ⟨c, hc, hp⟩)
  · rename_i i hi hl
    exact takeWhile_take hi.2.2 (.inl (by omega)))
def s_runF  : Sig := { X := List UInt8, args := fun x => [.str x, .clo (.func 85) []], pre := fun x => x.length < 2 ^ 63, Y := Unit, post := fun x y => True, res := fun x y => .str (x.takeWhile isFig), outs := fun x y => [.top, .top], keep := false }
theorem runF_ok  : Contract G Tryz.prog 83 s_runF :=
  vcFun_okP [(85, 0, s_isFigure)] [] false (fun x => [(2, lTake isFig x fun i => [(0, .str x), (1, .clo (.func 85) []), (5, .int .i64 i)])]) Tryz.func83 rfl (by decide) ⟨isFigure_ok, trivial⟩ (fun (x : List UInt8) => (∀ (y : Unit), True → True ∧ True ∧ True ∧ True) ∧ eA (lTake isFig x fun (i : Int) => [((0 : Nat), .str x), ((1 : Nat), AV.clo (Fn.func (85 : FuncId)) []), ((5 : Nat), .int .i64 i)]) [.str x, AV.clo (Fn.func (85 : FuncId)) [], .int .i64 (0 : Int)] ∧ ∀ (i : Int), ((0 : Int) ≤ i ∧ i ≤ (↑(List.length x) : Int) ∧ ∀ (e : UInt8), e ∈ List.take (Int.toNat i) x → isFig e = true) → bcase (decide (i < (↑(List.length x) : Int))) (((0 : Int) ≤ i ∧ i < (↑(List.length x) : Int)) ∧ ∀ (c : UInt8), x[Int.toNat i]? = some c → cA s_isFigure [AV.int IntKind.u8 (↑(UInt8.toNat c) : Int)] fun x_1 y => bcase (isFig x_1) (inR IntKind.i64 (i + (1 : Int)) ∧ eN (lTake isFig x fun (i : Int) => [((0 : Nat), .str x), ((1 : Nat), AV.clo (Fn.func (85 : FuncId)) []), ((5 : Nat), .int .i64 i)]) i [.str x, AV.clo (Fn.func (85 : FuncId)) [], .int .i64 (i + (1 : Int))]) (((0 : Int) ≤ (0 : Int) ∧ (0 : Int) ≤ i ∧ i ≤ (↑(List.length x) : Int)) ∧ rA s_runF x [.str (List.take (Int.toNat i) x), .top, .top])) (((0 : Int) ≤ (0 : Int) ∧ (0 : Int) ≤ i ∧ i ≤ (↑(List.length x) : Int)) ∧ rA s_runF x [.str (List.take (Int.toNat i) x), .top, .top])) (fun x => by kernel_rfl) fun (x : List UInt8) (hx : x.length < 2 ^ 63) => (by
  dsimp only [cA, eA, eN, lTake, rA, s_isFigure, s_runF, hndL, hnd1, mvL, lnL, mvE, lnE, sndL]
  (repeat' first | (with_reducible first | rfl | exact True.intro | apply inR_i64 | apply And.intro | ((first | apply bcase_dec | apply bcase_bne | apply bcase_beq | apply bcase_not) <;> intro _)) | (apply bcase_intro <;> intro _) | apply sl_eq | refine ex_flip () ?_ ?_ | ((first | apply ex_flip10 | apply ex_flip9 | apply ex_flip8 | apply ex_flip7 | apply ex_flip6 | apply ex_flip5 | apply ex_flip4 | apply ex_flip3 | apply ex_flip2) <;> try dsimp only) | apply ex_flip | (refine Prod.forall.2 ?_; intro _; try dsimp only) | (intro _; try dsimp only)) <;> (try dsimp only at *) <;> (try simp only [i64max, List.length_cons, List.length_nil]) <;> (try omega)
  · rename_i h; simp at h
  · rename_i i hi hl c hc y _ hp e he
    rw [toNat1 hi.1] at he; exact all_take_succ hi.2.2 hc hp e he
  · rename_i i hi hl c hc y _ hp
    exact takeWhile_take hi.2.2 (.inr ⟨c, hc, hp⟩)
  · rename_i i hi hl
    exact takeWhile_take hi.2.2 (.inl (by omega)))
def s_runN  : Sig := { X := List UInt8, args := fun x => [.str x, .clo (.func 88) []], pre := fun x => x.length < 2 ^ 63, Y := Unit, post := fun x y => True, res := fun x y => .str (x.takeWhile notNl), outs := fun x y => [.top, .top], keep := false }
theorem runN_ok  : Contract G Tryz.prog 83 s_runN :=
  vcFun_okP [(88, 0, s_sg1)] [] false (fun x => [(2, lTake notNl x fun i => [(0, .str x), (1, .clo (.func 88) []), (5, .int .i64 i)])]) Tryz.func83 rfl (by decide) ⟨sg1_ok, trivial⟩ (fun (x : List UInt8) => (∀ (y : Unit), True → True ∧ True ∧ True ∧ True) ∧ eA (lTake notNl x fun (i : Int) => [((0 : Nat), .str x), ((1 : Nat), AV.clo (Fn.func (88 : FuncId)) []), ((5 : Nat), .int .i64 i)]) [.str x, AV.clo (Fn.func (88 : FuncId)) [], .int .i64 (0 : Int)] ∧ ∀ (i : Int), ((0 : Int) ≤ i ∧ i ≤ (↑(List.length x) : Int) ∧ ∀ (e : UInt8), e ∈ List.take (Int.toNat i) x → notNl e = true) → bcase (decide (i < (↑(List.length x) : Int))) (((0 : Int) ≤ i ∧ i < (↑(List.length x) : Int)) ∧ ∀ (c : UInt8), x[Int.toNat i]? = some c → cA s_sg1 [AV.int IntKind.u8 (↑(UInt8.toNat c) : Int)] fun x_1 y => bcase (notNl x_1) (inR IntKind.i64 (i + (1 : Int)) ∧ eN (lTake notNl x fun (i : Int) => [((0 : Nat), .str x), ((1 : Nat), AV.clo (Fn.func (88 : FuncId)) []), ((5 : Nat), .int .i64 i)]) i [.str x, AV.clo (Fn.func (88 : FuncId)) [], .int .i64 (i + (1 : Int))]) (((0 : Int) ≤ (0 : Int) ∧ (0 : Int) ≤ i ∧ i ≤ (↑(List.length x) : Int)) ∧ rA s_runN x [.str (List.take (Int.toNat i) x), .top, .top])) (((0 : Int) ≤ (0 : Int) ∧ (0 : Int) ≤ i ∧ i ≤ (↑(List.length x) : Int)) ∧ rA s_runN x [.str (List.take (Int.toNat i) x), .top, .top])) (fun x => by kernel_rfl) fun (x : List UInt8) (hx : x.length < 2 ^ 63) => (by
  dsimp only [cA, eA, eN, lTake, rA, s_runN, s_sg1, hndL, hnd1, mvL, lnL, mvE, lnE, sndL]
  (repeat' first | (with_reducible first | rfl | exact True.intro | apply inR_i64 | apply And.intro | ((first | apply bcase_dec | apply bcase_bne | apply bcase_beq | apply bcase_not) <;> intro _)) | (apply bcase_intro <;> intro _) | apply sl_eq | refine ex_flip () ?_ ?_ | ((first | apply ex_flip10 | apply ex_flip9 | apply ex_flip8 | apply ex_flip7 | apply ex_flip6 | apply ex_flip5 | apply ex_flip4 | apply ex_flip3 | apply ex_flip2) <;> try dsimp only) | apply ex_flip | (refine Prod.forall.2 ?_; intro _; try dsimp only) | (intro _; try dsimp only)) <;> (try dsimp only at *) <;> (try simp only [i64max, List.length_cons, List.length_nil]) <;> (try omega)
  · rename_i h; simp at h
  · rename_i i hi hl c hc y _ hp e he
    rw [toNat1 hi.1] at he; exact all_take_succ hi.2.2 hc hp e he
  · rename_i i hi hl c hc y _ hp
    exact takeWhile_take hi.2.2 (.inr ⟨c, hc, hp⟩)
  · rename_i i hi hl
    exact takeWhile_take hi.2.2 (.inl (by omega)))
end Go.My
end
