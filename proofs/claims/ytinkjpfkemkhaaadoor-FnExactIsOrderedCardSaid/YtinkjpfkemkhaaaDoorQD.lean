/- A part of the proof: the engine and the contracts, joined. -/
import Derived.Test.YtinkjpfkemkhaaaDoorQC
import Derived.Deep.Quiet
import Derived.Orders
import Derived.Test.YtinkjpfkemkhaaaDoorProg
import Derived.WalkKit
import Derived.Lib.Bytealg
import Derived.Laws.Externs
section
/- Regions that draw their order, where each operation only looks, or calls what hands back a number, a truth value or a text. -/
set_option linter.unusedVariables false
set_option linter.unusedSimpArgs false
namespace Go.Eng

structure Ext (w w' : World) : Prop where
  os : w'.os = w.os
  tape : w'.tape = w.tape
  output : w'.output = w.output
  sees : Sees w w'

theorem Rel.ext {C : Ctx} {s : St} {a : Act} {w w' : World} (h : Rel C s a w) (he : Ext w w') : Rel C s a w' := by
  obtain ⟨η, Z, T, hi⟩ := h
  refine ⟨η, Z, T, hi.defers, ?_, hi.ids, fun b hb => ⟨(hi.own b hb).1, Nat.lt_of_lt_of_le (hi.own b hb).2.1 he.sees.size, (hi.own b hb).2.2⟩, ?_⟩
  · exact relSL_mono (n := s.nx) (fun b hz hb => ⟨hz, he.sees.old b hb⟩) (fun _ _ => rfl) _ _ _ hi.ids (fun b hb => he.sees.old b (hi.own b hb).2.1) hi.rel
  · refine ⟨he.os.trans hi.ok.os, he.tape.trans hi.ok.tape, he.output.trans hi.ok.output, Nat.le_trans hi.ok.size he.sees.size, fun b hb hn => ?_⟩
    obtain ⟨g1, g2⟩ := hi.ok.old b hb hn
    exact ⟨(he.sees.old b (Nat.lt_of_lt_of_le hb hi.ok.size)).trans g1, g2⟩

def vcQOp (P : Program) (Γ : FuncId → Nat → Option Sig) (ov : Bool) (o : Oper) (s : St) (K : AV → Prop) : Prop :=
  match o.op with
  | .call ⟨.value f, args, ts⟩ => match opAV s.regs f with
    | .clo (.func g) caps => match Γ g (ckey (args.toList.map (opAV s.regs) ++ caps)) with
      | some S => ∃ x : S.X, S.pre x ∧ handL true (S.args x) s.regs (args.toList.map (opAV s.regs) ++ caps) fun _ =>
          ∃ y0, (∀ y, S.post x y → S.res x y = S.res x y0) ∧ isScal (S.res x y0) = true ∧ K (S.res x y0)
      | none => False
    | _ => False
  | op => vcPure P ov s.regs op K

theorem vcQOp_ok {P : Program} {Γ : FuncId → Nat → Option Sig} {C : Ctx} (hΓ : ∀ f k S, Γ f k = some S → Contract C.G P f S) {ov : Bool} {o : Oper} {s : St} {K : AV → Prop} (h : vcQOp P Γ ov o s K)
 {a : Act} {w : World} (hr : Rel C s a w) {N : Act → Prop} (hN : ∀ v r, K r → Rel C ⟨setR s.regs o.dst r, s.nx⟩ (a.put o.dst v) w → N (a.put o.dst v)) : o.quiet P a (Ext w) N := by
  obtain ⟨η, Z, T, hi⟩ := hr
  have hop := opAV_rel hi.rel
  have hid := opAV_ids hi.ids
  unfold vcQOp at h
  split at h
  · rename_i f args ts heq
    split at h
    · rename_i g caps hf
      split at h
      · rename_i S hS
        have hc := hΓ g _ S hS
        obtain ⟨x, hpre, h⟩ := h
        have hfv := hop f
        have hfi := hid f
        rw [hf] at hfv hfi
        simp only [relS] at hfv
        simp only [idsB] at hfi
        obtain ⟨cs, hfe, hcs⟩ := hfv
        have hargs := relSL_append _ _ _ _ _ _ _ (opL_rel (a := a) hi.rel args.toList) hcs (join_emp_left _)
        have happ : ∀ (l1 l2 : List AV), idsBL s.nx l1 → idsBL s.nx l2 → idsBL s.nx (l1 ++ l2) := by
          intro l1
          induction l1 with
          | nil => intro l2 _ h2; simpa using h2
          | cons x l1 ih => intro l2 h1 h2; exact ⟨h1.1, ih l2 h1.2 h2⟩
        obtain ⟨Z1, A1, B1, r1, ho⟩ := handL_ok (S.args x) s.regs _ _ h Z a.tmps.toList _ T (fun _ => False) T hi.rel hi.ids hargs (happ _ _ (opL_ids hi.ids args.toList) hfi) (join_emp_left T)
        obtain ⟨y0, hy0, hsc, hk⟩ := ho.k
        have hA1 : A1 = fun _ => False := emp_eq fun b hb => ho.stay rfl b hb
        have hgot := ho.got
        rw [hA1] at hgot
        obtain ⟨⟨⟨fn, hfn, hnm, hbody⟩, _⟩, hcc⟩ := hc
        refine ⟨scV (S.res x y0), fun w' hw' => ?_, hN _ _ hk ?_⟩
        · unfold Oper.quietAt
          have he : (execOp a.eval o).run P w' = .ok (.enter g (args.toList.map a.eval ++ cs).toArray) w' := by
            simp only [execOp, heq, resolve, hfe, Deferred.ofValue]
            rw [run_bind_ok (run_pure' P _ w')]
            simp only [invoke, callFunc, program]
            rw [run_bind_ok (x := P) (w' := w') rfl]
            simp only [hfn, hnm, Bool.false_eq_true, if_false, hbody]
            simp only [run_pure']
            congr 2
            apply Array.ext'; simp
          rw [he]
          refine ⟨rfl, ?_⟩
          have hgot' := rel0L_mono (Z' := Z1) (w' := w') (fun b hz hb => ⟨hz, hw'.sees.old b hb⟩) _ _ _ (fun b hb => hb.elim) hgot
          refine (hcc x hpre Z1 w' _ _ (C.G.mono _ _ _ _ (fun b hb hlt => ⟨fun x => hb (ho.zz b x), hw'.sees.old b hlt⟩) hi.ok.glob) hgot' (fun b hb => hb.elim)).mono ?_
          rintro e w'' ⟨y, v, Z', A', hpost, rfl, hres, haft⟩
          simp only [rel0L] at hres
          obtain ⟨v', us', Ar, Ao, e1, hjr, hr1, hr3⟩ := hres
          simp only [List.cons.injEq] at e1
          obtain ⟨rfl, rfl⟩ := e1
          rw [hy0 y hpost] at hr1
          refine ⟨by rw [scal_v hr1 hsc], haft.os.trans hw'.os, haft.tape.trans hw'.tape, haft.output.trans hw'.output, Nat.le_trans hw'.sees.size haft.size, fun b hb => ?_⟩
          exact (haft.old b (Nat.lt_of_lt_of_le hb hw'.sees.size) id).1.trans (hw'.sees.old b hb)
        · exact hi.put o.dst (scal_rel hsc Z η w s.nx).1 (scal_rel hsc Z η w s.nx).2
      · exact h.elim
    · exact h.elim
  · obtain ⟨v, r, h1, h2, h3, h4⟩ := vcPure_ok h hi.rel hi.ids
    refine ⟨v, fun w' hw' => ?_, hN v r h4 (hi.put o.dst h2 h3)⟩
    unfold Oper.quietAt
    rw [h1 w' hw'.sees]
    exact ⟨rfl, rfl⟩

def vcQ (P : Program) (Γ : FuncId → Nat → Option Sig) (ov : Bool) (ops : Array Oper) : List Oper → St → (St → Prop) → Prop
  | [], s, K => K s
  | o :: rest, s, K => match o.guard with
    | none => vcQOp P Γ ov o s fun r => vcQ P Γ ov ops rest ⟨setR s.regs o.dst r, s.nx⟩ K
    | some (j, want) => match (ops[j]?).bind (·.dst) with
      | none => False
      | some d => match s.regs[d]? with
        | some (.tup _) => vcQ P Γ ov ops rest ⟨setR s.regs o.dst (.tup []), s.nx⟩ K
        | some (.bool c) => bcase c
            (gsel want true (vcQOp P Γ ov o ⟨s.regs.set d (.bool true), s.nx⟩ fun r => vcQ P Γ ov ops rest ⟨setR (s.regs.set d (.bool true)) o.dst r, s.nx⟩ K)
              (vcQ P Γ ov ops rest ⟨setR (s.regs.set d (.bool true)) o.dst (.tup []), s.nx⟩ K))
            (gsel want false (vcQOp P Γ ov o ⟨s.regs.set d (.bool false), s.nx⟩ fun r => vcQ P Γ ov ops rest ⟨setR (s.regs.set d (.bool false)) o.dst r, s.nx⟩ K)
              (vcQ P Γ ov ops rest ⟨setR (s.regs.set d (.bool false)) o.dst (.tup []), s.nx⟩ K))
        | _ => False

theorem vcQ_ok {P : Program} {Γ : FuncId → Nat → Option Sig} {C : Ctx} (hΓ : ∀ f k S, Γ f k = some S → Contract C.G P f S) {ov : Bool} {ops : Array Oper} {js : List Nat} {a0 : Act} {w : World} :
    ∀ (l : List Oper) (s : St) (K : St → Prop) (a : Act), (∀ o ∈ l, avoids js o.dst = true) → vcQ P Γ ov ops l s K → Rel C s a w → Fixed js a0 a →
    wpQuiet P ops (Ext w) (fun a' => ∃ s', K s' ∧ Rel C s' a' w ∧ Fixed js a0 a') l a
  | [], s, K, a, hjs, h, hr, hf => ⟨s, h, hr, hf⟩
  | o :: rest, s, K, a, hjs, h, hr, hf => by
    unfold vcQ at h
    unfold wpQuiet
    have hav := hjs o (by simp)
    have hjs' : ∀ o ∈ rest, avoids js o.dst = true := fun o ho => hjs o (by simp [ho])
    have run : ∀ (s1 : St), Rel C s1 a w → vcQOp P Γ ov o s1 (fun r => vcQ P Γ ov ops rest ⟨setR s1.regs o.dst r, s1.nx⟩ K) →
        o.quiet P a (Ext w) (wpQuiet P ops (Ext w) (fun a' => ∃ s', K s' ∧ Rel C s' a' w ∧ Fixed js a0 a') rest) := by
      intro s1 hr1 h1
      exact vcQOp_ok hΓ h1 hr1 fun v r hk hr' => vcQ_ok hΓ rest _ K _ hjs' hk hr' (hf.put hav v)
    have skip : ∀ (s1 : St), Rel C s1 a w → vcQ P Γ ov ops rest ⟨setR s1.regs o.dst (.tup []), s1.nx⟩ K →
        wpQuiet P ops (Ext w) (fun a' => ∃ s', K s' ∧ Rel C s' a' w ∧ Fixed js a0 a') rest (a.put o.dst undef) := by
      intro s1 hr1 h1
      exact vcQ_ok hΓ rest _ K _ hjs' h1 (hr1.skip o.dst) (hf.put hav undef)
    split at h
    · rename_i hg
      have hw : Region.wanted o (yielded ops a.tmps) = true := by simp [Region.wanted, hg]
      rw [if_pos hw]
      exact run s hr h
    · rename_i j want hg
      split at h
      · exact h.elim
      · rename_i d hd
        have hy : yielded ops a.tmps j = (match a.tmps[d]? with | some (.bool b) => some b | _ => none) := by
          simp only [yielded, hd]; rfl
        split at h
        · rename_i fs hreg
          have hnone : yielded ops a.tmps j = none := by
            obtain ⟨η, Z, T, hi⟩ := hr
            obtain ⟨v, A, B, hv, hrr, _⟩ := focus s.regs _ T d _ hi.rel hreg
            simp only [relS] at hrr
            obtain ⟨cs, e, _⟩ := hrr
            have : a.tmps[d]? = some v := by rw [← Array.getElem?_toList, hv]
            rw [hy, this, e]
          have hw : ¬ Region.wanted o (yielded ops a.tmps) = true := by simp [Region.wanted, hg, hnone]
          rw [if_neg hw]
          exact skip s hr h
        · rename_i c hreg
          obtain ⟨hr1, ht⟩ := hr.know hreg
          have hyc : yielded ops a.tmps j = some c := by rw [hy, ht]
          have hw : Region.wanted o (yielded ops a.tmps) = (c == want) := by simp [Region.wanted, hg, hyc]
          rw [hw]
          unfold bcase at h
          cases c
          · cases want
            · simp only [gsel] at h
              rw [if_pos (by rfl)]; exact run _ hr1 h
            · simp only [gsel] at h
              rw [if_neg (by decide)]; exact skip _ hr1 h
          · cases want
            · simp only [gsel] at h
              rw [if_neg (by decide)]; exact skip _ hr1 h
            · simp only [gsel] at h
              rw [if_pos (by rfl)]; exact run _ hr1 h
        · exact h.elim

theorem vcDraw_ok {P : Program} {Γ : FuncId → Nat → Option Sig} {C : Ctx} (hΓ : ∀ f k S, Γ f k = some S → Contract C.G P f S) {ov : Bool} {id : Nat} {ops : Array Oper} {js : List Nat} {a0 : Act} {Q : Exit → Act → World → Prop}
    {s : St} {K : St → Prop} {a : Act} {w : World} (hm : P.follows .mixedOrders = true) (hB : Region.lexB .any ops = true) (h : vcQ P Γ ov ops ops.toList s K) (hjs : ∀ o ∈ ops.toList, avoids js o.dst = true)
    (hr : Rel C s a w) (hf : Fixed js a0 a) (hQ : ∀ s' a' w', K s' → Rel C s' a' w' → Fixed js a0 a' → Q .normal a' w') : (Code.region id ops true).wp P Q a w := by
  refine wp_region_quiet (C := Ext w) hm hB ⟨rfl, rfl, rfl, Nat.le_refl _, fun _ _ => rfl⟩ ?_
  have := vcQ_ok hΓ (a0 := a0) ops.toList s K a hjs h hr hf
  refine wpQuiet_mono' ?_ ops.toList a this
  rintro a' ⟨s', hk, hr', hf'⟩ w' hw'
  exact hQ s' a' w' hk (hr'.ext hw') hf'
where
  wpQuiet_mono' {P : Program} {ops : Array Oper} {C : World → Prop} {R R' : Act → Prop} (h : ∀ a, R a → R' a) : ∀ (l : List Oper) (a : Act), wpQuiet P ops C R l a → wpQuiet P ops C R' l a
    | [], a, hh => h a hh
    | o :: l, a, hh => by
      unfold wpQuiet at hh ⊢
      split at hh
      · rename_i hw; rw [if_pos hw]; exact Oper.quiet_mono (wpQuiet_mono' h l) hh
      · rename_i hw; rw [if_neg hw]; exact wpQuiet_mono' h l _ hh

end Go.Eng
end
section
/- Regions that draw: all orders. -/
set_option linter.unusedVariables false
set_option linter.unusedSimpArgs false
namespace Go.Eng

theorem vcStep_ok {P : Program} {Γ : FuncId → Nat → Option Sig} {C : Ctx} (hΓ : ∀ f k S, Γ f k = some S → Contract C.G P f S) {E : TypeId → Option ES} {ov : Bool} {ops : Array Oper} {js : List Nat} {a0 : Act}
    (hjs : ∀ (i : Nat) (o : Oper), ops[i]? = some o → avoids js o.dst = true) {Q : Exit → Act → World → Prop} {N : Act → World → Prop} (i : Nat) (s : St) (K : St → Prop) (a : Act) (w : World) (h : vcIdx P Γ E ov ops [i] s K)
    (hr : Rel C s a w) (hf : Fixed js a0 a) (hQ : ∀ s' a' w', K s' → Rel C s' a' w' → Fixed js a0 a' → N a' w') : wpOp P ops Q i N a w := by
  simp only [vcIdx] at h
  unfold wpOp
  split at h
  · rename_i ho
    simp only [ho]
    exact hQ s a w h hr hf
  · rename_i o ho
    simp only [ho]
    have hav := hjs i o ho
    have run : ∀ (s1 : St), Rel C s1 a w → vcOp P Γ E ov o s1 K → o.wp P a w N Q := by
      intro s1 hr1 h1
      have := vcOp_ok hΓ h1 hr1 Q
      refine vcIdx_ok.Oper_wp_mono this ?_
      rintro a' w' ⟨s', hk, hr', v, rfl⟩
      exact hQ s' _ w' hk hr' (hf.put hav v)
    have skip : ∀ (s1 : St), Rel C s1 a w → K ⟨setR s1.regs o.dst (.tup []), s1.nx⟩ → N (a.put o.dst undef) w := by
      intro s1 hr1 h1
      exact hQ _ _ w h1 (hr1.skip o.dst) (hf.put hav undef)
    split at h
    · rename_i hg
      have hw : Region.wanted o (yielded ops a.tmps) = true := by simp [Region.wanted, hg]
      rw [if_pos hw]
      simp only [nestIdx] at h
      exact .inl (run s hr h)
    · rename_i j want hg
      split at h
      · exact h.elim
      · rename_i d hd
        have hy : yielded ops a.tmps j = (match a.tmps[d]? with | some (.bool b) => some b | _ => none) := by
          simp only [yielded, hd]; rfl
        split at h
        · rename_i fs hreg
          have hnone : yielded ops a.tmps j = none := by
            obtain ⟨η, Z, T, hi⟩ := hr
            obtain ⟨v, A, B, hv, hrr, _⟩ := focus s.regs _ T d _ hi.rel hreg
            simp only [relS] at hrr
            obtain ⟨cs, e, _⟩ := hrr
            have : a.tmps[d]? = some v := by rw [← Array.getElem?_toList, hv]
            rw [hy, this, e]
          have hw : ¬ Region.wanted o (yielded ops a.tmps) = true := by simp [Region.wanted, hg, hnone]
          rw [if_neg hw]
          exact skip s hr h
        · rename_i c hreg
          obtain ⟨hr1, ht⟩ := hr.know hreg
          have hyc : yielded ops a.tmps j = some c := by rw [hy, ht]
          have hw : Region.wanted o (yielded ops a.tmps) = (c == want) := by simp [Region.wanted, hg, hyc]
          rw [hw]
          unfold bcase at h
          cases c
          · cases want
            · simp only [gsel] at h
              rw [if_pos (by rfl)]; exact .inl (run _ hr1 h)
            · simp only [gsel] at h
              rw [if_neg (by decide)]; exact skip _ hr1 h
          · cases want
            · simp only [gsel] at h
              rw [if_neg (by decide)]; exact skip _ hr1 h
            · simp only [gsel] at h
              rw [if_pos (by rfl)]; exact .inl (run _ hr1 h)
        · exact h.elim

def allL : List Nat → (Nat → Prop) → Prop
  | [], _ => True
  | [i], p => p i
  | i :: l, p => p i ∧ allL l p
theorem allL_mem {p : Nat → Prop} : ∀ {l : List Nat}, allL l p → ∀ i ∈ l, p i
  | [], _, i, h => by simp at h
  | [j], hp, i, h => by simp at h; subst h; exact hp
  | j :: k :: l, hp, i, h => by
    rcases List.mem_cons.1 h with rfl | h
    · exact hp.1
    · exact allL_mem hp.2 i h

def vcAny (P : Program) (Γ : FuncId → Nat → Option Sig) (E : TypeId → Option ES) (ov : Bool) (ops : Array Oper) : Nat → Array Bool → St → (St → Prop) → Prop
  | 0, listed, s, K => (Region.ready .any ops listed).isEmpty = true ∧ K s
  | fuel + 1, listed, s, K => match Region.ready .any ops listed with
    | [] => K s
    | i :: l => allL (i :: l) fun i => vcIdx P Γ E ov ops [i] s fun s' => vcAny P Γ E ov ops fuel (listed.setIfInBounds i true) s' K

theorem vcAny_ok {P : Program} {Γ : FuncId → Nat → Option Sig} {C : Ctx} (hΓ : ∀ f k S, Γ f k = some S → Contract C.G P f S) {E : TypeId → Option ES} {ov : Bool} {ops : Array Oper} {js : List Nat} {a0 : Act}
    (hjs : ∀ (i : Nat) (o : Oper), ops[i]? = some o → avoids js o.dst = true) {Q : Exit → Act → World → Prop} :
    ∀ (fuel : Nat) (listed : Array Bool) (s : St) (K : St → Prop) (a : Act) (w : World), vcAny P Γ E ov ops fuel listed s K → Rel C s a w → Fixed js a0 a →
    (∀ s' a' w', K s' → Rel C s' a' w' → Fixed js a0 a' → Q .normal a' w') → wpAny P .any ops Q fuel listed a w
  | 0, listed, s, K, a, w, h, hr, hf, hQ => by
    obtain ⟨h1, h2⟩ := h
    exact ⟨List.isEmpty_iff.1 h1, hQ s a w h2 hr hf⟩
  | fuel + 1, listed, s, K, a, w, h, hr, hf, hQ => by
    unfold vcAny at h
    unfold wpAny
    split at h
    · rename_i he
      rw [he]
      exact ⟨fun _ => hQ s a w h hr hf, fun i hi => (by cases hi)⟩
    · rename_i i l he
      rw [he]
      refine ⟨fun h => (by cases h), fun j hj => ?_⟩
      exact vcStep_ok hΓ hjs j s _ a w (allL_mem h j hj) hr hf fun s' a' w' hk hr' hf' => vcAny_ok hΓ hjs fuel _ s' K a' w' hk hr' hf' hQ

theorem vcAll_ok {P : Program} {Γ : FuncId → Nat → Option Sig} {C : Ctx} (hΓ : ∀ f k S, Γ f k = some S → Contract C.G P f S) {E : TypeId → Option ES} {ov : Bool} {id : Nat} {ops : Array Oper} {js : List Nat} {a0 : Act}
    {Q : Exit → Act → World → Prop} {s : St} {K : St → Prop} {a : Act} {w : World} (hm : P.follows .mixedOrders = true) (h : vcAny P Γ E ov ops ops.size (Array.replicate ops.size false) s K)
    (hjs : ∀ (i : Nat) (o : Oper), ops[i]? = some o → avoids js o.dst = true)
    (hr : Rel C s a w) (hf : Fixed js a0 a) (hQ : ∀ s' a' w', K s' → Rel C s' a' w' → Fixed js a0 a' → Q .normal a' w') : (Code.region id ops true).wp P Q a w := by
  refine wp_region_any hm ?_
  exact vcAny_ok hΓ hjs _ _ s K a _ h (hr.ext (w' := { w with drawn := w.drawn + 1 }) ⟨rfl, rfl, rfl, Nat.le_refl _, fun _ _ => rfl⟩) hf hQ
end Go.Eng
end
section
/- Code: branches, loops. -/
set_option linter.unusedVariables false
set_option linter.unusedSimpArgs false
namespace Go.Eng

inductive Ex where
  | normal
  | exit (id : Nat)
  | ret
def Ex.to : Ex → Exit
  | .normal => .normal
  | .exit id => .exit id
  | .ret => .ret

structure LS : Type 1 where
  ι : Type
  inv : ι → Prop
  regs : ι → List (Nat × AV)
  als : List (Nat × Nat)
  meas : ι → Nat
  sub : ι → List (Nat × LS) := fun _ => []

/- what holds inside a loop: its own conditions first -/
def LofL : List (Nat × LS) → (Nat → Option LS) → Nat → Option LS
  | [], L => L
  | (g, S) :: l, L => fun f => match Nat.beq g f with
    | true => some S
    | false => LofL l L f

def enterL : List (Nat × AV) → List AV → (List AV → Prop) → Prop
  | [], regs, K => K regs
  | (j, e) :: rest, regs, K => hand1 false e regs (opAV regs (.tmp j)) fun regs' => enterL rest regs' K

def aliasOk (regs : List AV) : List (Nat × Nat) → Prop
  | [] => True
  | (s, j) :: rest => (match opAV regs (.tmp s), opAV regs (.tmp j) with
      | .al a, .al b => match Nat.beq a b with
        | true => True
        | false => False
      | _, _ => False) ∧ aliasOk regs rest

def setAll : List AV → List Nat → List AV → List AV
  | regs, j :: js, a :: azs => setAll (regs.set j a) js azs
  | regs, _, _ => regs
def aliasL : List AV → List (Nat × Nat) → List AV
  | regs, [] => regs
  | regs, (s, j) :: rest => aliasL (regs.set s (opAV regs (.tmp j))) rest

def headSt (N : Nat) (L : LS) (i : L.ι) : St :=
  ⟨aliasL (setAll (List.replicate N .top) ((L.regs i).map (·.1)) (stampL 0 ((L.regs i).map (·.2))).1) L.als, (stampL 0 ((L.regs i).map (·.2))).2⟩

def enter (s : St) (L : LS) (i : L.ι) : Prop := enterL (L.regs i) s.regs (fun _ => True) ∧ aliasOk s.regs L.als

theorem enterL_ok {η : Nat → Value} {w : World} {n : Nat} {a : Act} : ∀ (es : List (Nat × AV)) (regs : List AV) (K : List AV → Prop), enterL es regs K →
    ∀ (Z B : FP), relSL Z η w regs a.tmps.toList B → idsBL n regs → (∀ b, B b → Z b) →
    ∃ Z' A', rel0L Z' w (es.map (·.2)) (es.map fun p => a.eval (.tmp p.1)) A' ∧ (∀ b, Z' b → Z b) ∧ (∀ b, Z b → ¬ Z' b → B b) ∧ (∀ b, A' b → B b) ∧ (∀ b, A' b → Z' b)
  | [], regs, K, h, Z, B, hR, hI, hB => ⟨Z, fun _ => False, by simp [rel0L, emp], fun _ h => h, fun _ h h' => (h' h).elim, fun _ h => h.elim, fun _ h => h.elim⟩
  | (j, e) :: es, regs, K, h, Z, B, hR, hI, hB => by
    unfold enterL at h
    obtain ⟨Z1, A1, B1, r1, ho⟩ := hand1_ok e regs _ _ h Z a.tmps.toList (a.eval (.tmp j)) B (fun _ => False) B hR hI (opAV_rel hR (.tmp j)) (opAV_ids hI (.tmp j)) (join_emp_left B)
    obtain ⟨Z2, A2, k1, k2, k3, k4, k5⟩ := enterL_ok es r1 K ho.k Z1 B1 ho.rel ho.ids (fun b hb => ho.ownB rfl b hb (hB b (ho.part b (.inr hb))))
    refine ⟨Z2, fun b => A1 b ∨ A2 b, ?_, fun b hb => ho.zz b (k2 b hb), ?_, ?_, ?_⟩
    · simp only [List.map_cons, rel0L]
      refine ⟨_, _, A1, A2, rfl, ⟨fun _ => Iff.rfl, fun b x y => ho.dis b x (k4 b y)⟩, rel0_mono (zmono k2) _ _ _ (fun _ _ => rfl) ho.got, k1⟩
    · intro b hz hz2
      by_cases hz1 : Z1 b
      · exact ho.part b (.inr (k3 b hz1 hz2))
      · exact ho.gone b hz hz1
    · intro b hb
      exact hb.elim (fun hb => ho.part b (.inl hb)) (fun hb => ho.part b (.inr (k4 b hb)))
    · intro b hb
      rcases hb with hb | hb
      · have hz1 := ho.ownA b hb (hB b (ho.part b (.inl hb)))
        exact Classical.byContradiction fun hn => ho.dis b hb (k3 b hz1 hn)
      · exact k5 b hb

theorem setAll_ok {Z : FP} {η : Nat → Value} {w : World} {n : Nat} {a : Act} : ∀ (js : List Nat) (azs regs : List AV) (A B : FP), relSL Z η w regs a.tmps.toList B → idsBL n regs → js.length = azs.length →
    relSL Z η w azs (js.map fun j => a.eval (.tmp j)) A → idsBL n azs → (∀ b, A b → ¬ B b) →
    ∃ S, (∀ b, S b → A b ∨ B b) ∧ relSL Z η w (setAll regs js azs) a.tmps.toList S ∧ idsBL n (setAll regs js azs)
  | [], azs, regs, A, B, hr, hi, hl, ha, hai, hd => ⟨B, fun _ h => .inr h, by simpa [setAll] using hr, by simpa [setAll] using hi⟩
  | j :: js, [], regs, A, B, hr, hi, hl, ha, hai, hd => by simp at hl
  | j :: js, x :: azs, regs, A, B, hr, hi, hl, ha, hai, hd => by
    simp only [List.map_cons, relSL] at ha
    obtain ⟨v, cs', A1, A2, e, hj, h1, h2⟩ := ha
    simp only [List.cons.injEq] at e
    obtain ⟨rfl, rfl⟩ := e
    simp only [setAll]
    rcases Nat.lt_or_ge j regs.length with hlt | hge
    · obtain ⟨S1, hS1, hr1⟩ := relSL_put_own hr hlt h1 (fun b hb => hd b ((hj.1 b).2 (.inl hb)))
      have hset : a.tmps.toList.set j (a.eval (.tmp j)) = a.tmps.toList := by
        have hlen := relSL_len _ _ _ hr
        have hj2 : j < a.tmps.size := by simp at hlen; omega
        apply List.ext_getElem?
        intro i
        rw [List.getElem?_set]
        split
        · rename_i h1; subst h1
          simp [Act.eval, hj2, Array.getD_eq_getD_getElem?]
        · rfl
      rw [hset] at hr1
      obtain ⟨S, hS, g1, g2⟩ := setAll_ok js azs _ A2 S1 hr1 (idsBL_set _ _ _ hi hai.1) (by simpa using hl) h2 hai.2 (fun b h h' => (hS1 b h').elim (fun h' => hd b ((hj.1 b).2 (.inr h)) h') (fun h' => hj.2 b h' h))
      exact ⟨S, fun b hb => (hS b hb).elim (fun h => .inl ((hj.1 b).2 (.inr h))) (fun h => (hS1 b h).elim .inr (fun h => .inl ((hj.1 b).2 (.inl h)))), g1, g2⟩
    · rw [List.set_eq_of_length_le hge]
      obtain ⟨S, hS, g1, g2⟩ := setAll_ok js azs regs A2 B hr hi (by simpa using hl) h2 hai.2 (fun b h h' => hd b ((hj.1 b).2 (.inr h)) h')
      exact ⟨S, fun b hb => (hS b hb).elim (fun h => .inl ((hj.1 b).2 (.inr h))) .inr, g1, g2⟩

theorem aliasL_ok {Z : FP} {η : Nat → Value} {w : World} {n : Nat} {a : Act} : ∀ (als : List (Nat × Nat)) (regs : List AV) (B : FP), relSL Z η w regs a.tmps.toList B → idsBL n regs →
    (∀ p ∈ als, a.eval (.tmp p.1) = a.eval (.tmp p.2)) → ∃ S, (∀ b, S b → B b) ∧ relSL Z η w (aliasL regs als) a.tmps.toList S ∧ idsBL n (aliasL regs als)
  | [], regs, B, hr, hi, h => ⟨B, fun _ h => h, hr, hi⟩
  | (s, j) :: als, regs, B, hr, hi, h => by
    simp only [aliasL]
    have hv := opAV_rel hr (.tmp j)
    have he := h (s, j) (by simp)
    simp only at he
    rw [← he] at hv
    obtain ⟨S1, hS1, hr1⟩ := relSL_put hr s hv
    have hset : s < regs.length → a.tmps.toList.set s (a.eval (.tmp s)) = a.tmps.toList := by
      intro hlt
      have hlen := relSL_len _ _ _ hr
      have hj2 : s < a.tmps.size := by simp at hlen; omega
      apply List.ext_getElem?
      intro i
      rw [List.getElem?_set]
      split
      · rename_i h1; subst h1
        simp [Act.eval, hj2, Array.getD_eq_getD_getElem?]
      · rfl
    have hr2 : relSL Z η w (regs.set s (opAV regs (.tmp j))) a.tmps.toList S1 := by
      rcases Nat.lt_or_ge s regs.length with hlt | hge
      · rw [hset hlt] at hr1; exact hr1
      · rw [List.set_eq_of_length_le (l := a.tmps.toList) (by rw [relSL_len _ _ _ hr]; exact hge)] at hr1; exact hr1
    obtain ⟨S, hS, g1, g2⟩ := aliasL_ok als _ S1 hr2 (idsBL_set _ _ _ hi (opAV_ids hi (.tmp j))) (fun p hp => h p (by simp [hp]))
    exact ⟨S, fun b hb => hS1 b (hS b hb), g1, g2⟩

theorem alias_eq {Z : FP} {η : Nat → Value} {w : World} {a : Act} {regs : List AV} {B : FP} (hr : relSL Z η w regs a.tmps.toList B) : ∀ als : List (Nat × Nat), aliasOk regs als →
    ∀ p ∈ als, a.eval (.tmp p.1) = a.eval (.tmp p.2)
  | [], _, p, hp => by simp at hp
  | (s, j) :: als, h, p, hp => by
    simp only [aliasOk] at h
    rcases List.mem_cons.1 hp with rfl | hp
    · have h1 := opAV_rel hr (.tmp s)
      have h2 := opAV_rel hr (.tmp j)
      have h := h.1
      split at h
      · rename_i x y hx hy
        split at h
        · rename_i hb
          have hb := Nat.eq_of_beq_eq_true hb
          rw [hx] at h1; rw [hy] at h2
          simp only [relS] at h1 h2
          simp only
          rw [h1.1, h2.1, hb]
        · exact h.elim
      · exact h.elim
    · exact alias_eq hr als h.2 p hp

theorem tops_rel (Z : FP) (η : Nat → Value) (w : World) : ∀ (l : List Value), relSL Z η w (List.replicate l.length .top) l (fun _ => False)
  | [] => by simp [relSL, emp]
  | v :: l => by
    simp only [List.length_cons, List.replicate_succ, relSL]
    exact ⟨v, l, _, _, rfl, join_emp_left _, emp_false, tops_rel Z η w l⟩
theorem tops_ids (n : Nat) : ∀ N, idsBL n (List.replicate N .top)
  | 0 => trivial
  | N + 1 => ⟨trivial, tops_ids n N⟩

theorem enter_ok {C : Ctx} {s : St} {a : Act} {w : World} (h : Rel C s a w) {L : LS} {i : L.ι} (he : enter s L i) : Rel C (headSt a.tmps.size L i) a w := by
  obtain ⟨η, Z, T, hi⟩ := h
  obtain ⟨Z', A', k1, k2, k3, k4, k5⟩ := enterL_ok (L.regs i) s.regs _ he.1 Z T hi.rel hi.ids (fun b hb => (hi.own b hb).1)
  have hal := alias_eq hi.rel L.als he.2
  obtain ⟨p1, p2, η1, p3, p4⟩ := stampL_ok ((L.regs i).map (·.2)) 0 _ A' η k1
  have hst := p4 η1 (fun _ _ => rfl)
  have hst' := relSL_mono (n := (stampL 0 ((L.regs i).map (·.2))).2) (Z' := fun c => Z' c ∨ w.heap.size ≤ c) (w' := w) (η' := η1) (fun b hb hl => ⟨fun x => x.elim hb (fun x => by omega), rfl⟩) (fun _ _ => rfl) _ _ _ p2 (fun _ _ => rfl) hst
  have htop := tops_rel (fun c => Z' c ∨ w.heap.size ≤ c) η1 w a.tmps.toList
  obtain ⟨S1, hS1, q1, q2⟩ := setAll_ok (a := a) (n := (stampL 0 ((L.regs i).map (·.2))).2) ((L.regs i).map (·.1)) _ _ A' (fun _ => False) htop (tops_ids _ _) (by
    have : ∀ (l : List AV) (n : Nat), (stampL n l).1.length = l.length := by
      intro l
      induction l with
      | nil => intro n; rfl
      | cons x l ih => intro n; simp [stampL, ih]
    rw [this]; simp) (by rw [List.map_map]; exact hst') p2 (fun b _ h => h)
  obtain ⟨S2, hS2, r1, r2⟩ := aliasL_ok L.als _ S1 q1 q2 hal
  have := hi.next (A1 := fun _ => False) (Z1 := Z') k2 k3 (fun _ h => h.elim) (w' := w) ⟨rfl, rfl, rfl, Nat.le_refl _, fun _ _ _ => rfl⟩ (regs' := (headSt a.tmps.size L i).regs) (n' := (headSt a.tmps.size L i).nx) (η' := η1) (S' := S2) (a' := a) rfl
    (by simpa [headSt] using r1) (by simpa [headSt] using r2) (fun b hb => by
      have hA : A' b := (hS1 b (hS2 b hb)).resolve_right (fun x => x)
      exact ⟨.inl (k5 b hA), .inl (k4 b hA), (hi.own b (k4 b hA)).2.1⟩)
  exact ⟨η1, _, S2, this⟩

def firstReg : Code → Nat
  | .region id _ _ => id
  | .seq x _ => firstReg x
  | .block _ x => firstReg x
  | .loop x => firstReg x
  | _ => 0

def dstsOk (js : List Nat) : Code → Bool
  | .region _ ops _ => ops.toList.all fun o => avoids js o.dst
  | .seq x y => dstsOk js x && dstsOk js y
  | .cond _ x y => dstsOk js x && dstsOk js y
  | .block _ x => dstsOk js x
  | .loop x => dstsOk js x
  | _ => true

def vcCode (P : Program) (Γ : FuncId → Nat → Option Sig) (E : TypeId → Option ES) (ov : Bool) (N : Nat) (L : Nat → Option LS) : Code → St → (Ex → St → Prop) → Prop
  | .skip, s, K => K .normal s
  | .label _, s, K => K .normal s
  | .ret, s, K => K .ret s
  | .exit id, s, K => K (.exit id) s
  | .region id ops draw, s, K => match draw with
    | false => vcIdx P Γ E ov ops (List.range ops.size) s (K .normal)
    | true => match L (100000 + id) with
      | some D => P.follows .mixedOrders = true ∧ vcAny P Γ E ov ops ops.size (Array.replicate ops.size false) s (fun s' => ∃ i, D.inv i ∧ enter s' D i) ∧ ∀ i, D.inv i → K .normal (headSt N D i)
      | none => P.follows .mixedOrders = true ∧ Region.lexB .any ops = true ∧ vcQ P Γ ov ops ops.toList s (K .normal)
  | .seq x y, s, K => match L (200000 + firstReg y) with
    | some D => (vcCode P Γ E ov N L x s fun e s' => match e with
      | .normal => ∃ i, D.inv i ∧ enter s' D i
      | .exit i => K (.exit i) s'
      | .ret => K .ret s') ∧ ∀ i, D.inv i → vcCode P Γ E ov N (LofL (D.sub i) L) y (headSt N D i) K
    | none => vcCode P Γ E ov N L x s fun e s' => match e with
      | .normal => vcCode P Γ E ov N L y s' K
      | .exit i => K (.exit i) s'
      | .ret => K .ret s'
  | .cond c x y, s, K => match c with
    | .tmp d => match s.regs[d]? with
      | some (.bool b) => bcase b (vcCode P Γ E ov N L x ⟨s.regs.set d (.bool true), s.nx⟩ K) (vcCode P Γ E ov N L y ⟨s.regs.set d (.bool false), s.nx⟩ K)
      | _ => False
    | _ => False
  | .block id x, s, K => vcCode P Γ E ov N L x s fun e s' => match e with
    | .normal => K .normal s'
    | .exit i => match Nat.beq i id with
      | true => K .normal s'
      | false => K (.exit i) s'
    | .ret => K .ret s'
  | .loop x, s, K => match L (firstReg x) with
    | some S => (∃ i, S.inv i ∧ enter s S i) ∧ ∀ i, S.inv i → vcCode P Γ E ov N (LofL (S.sub i) L) x (headSt N S i) fun e s' => match e with
      | .normal => ∃ i', S.inv i' ∧ S.meas i' < S.meas i ∧ enter s' S i'
      | .exit k => K (.exit k) s'
      | .ret => K .ret s'
    | none => False
  | _, _, _ => False

theorem least {p : Nat → Prop} (h : ∃ n, p n) : ∃ n, p n ∧ ∀ m, p m → n ≤ m := by
  obtain ⟨n, hn⟩ := h
  induction n using Nat.strongRecOn with
  | _ n ih =>
    by_cases hm : ∃ m, m < n ∧ p m
    · obtain ⟨m, h1, h2⟩ := hm; exact ih m h1 h2
    · exact ⟨n, hn, fun m hp => Nat.le_of_not_lt fun hl => hm ⟨m, hl, hp⟩⟩

theorem vcCode_ok {P : Program} {Γ : FuncId → Nat → Option Sig} {C : Ctx} (hΓ : ∀ f k S, Γ f k = some S → Contract C.G P f S) {E : TypeId → Option ES} {ov : Bool} {js : List Nat} {a0 : Act} :
    ∀ (c : Code) (L : Nat → Option LS) (s : St) (K : Ex → St → Prop) (Q : Exit → Act → World → Prop) (a : Act) (w : World), vcCode P Γ E ov a0.tmps.size L c s K → dstsOk js c = true → Rel C s a w → Fixed js a0 a →
    (∀ e s' a' w', K e s' → Rel C s' a' w' → Fixed js a0 a' → Q e.to a' w') → c.wp P Q a w
  | .skip, L, s, K, Q, a, w, h, hd, hr, hf, hQ => wp_skip (hQ .normal s a w h hr hf)
  | .label _, L, s, K, Q, a, w, h, hd, hr, hf, hQ => wp_label (hQ .normal s a w h hr hf)
  | .ret, L, s, K, Q, a, w, h, hd, hr, hf, hQ => wp_ret (hQ .ret s a w h hr hf)
  | .exit id, L, s, K, Q, a, w, h, hd, hr, hf, hQ => wp_exit (hQ (.exit id) s a w h hr hf)
  | .region id ops draw, L, s, K, Q, a, w, h, hd, hr, hf, hQ => by
    simp only [vcCode] at h
    cases draw
    · simp only at h
      refine wp_region (vcIdx_ok hΓ (js := js) (a0 := a0) ?_ _ s _ a w h hr hf fun s' a' w' hk hr' hf' => hQ .normal s' a' w' hk hr' hf')
      intro i o ho
      simp only [dstsOk] at hd
      have hmem : o ∈ ops.toList := List.mem_of_getElem? (i := i) (by simpa [Array.getElem?_toList] using ho)
      exact List.all_eq_true.1 hd o hmem
    · simp only at h
      split at h
      · rename_i D hD
        obtain ⟨h1, h2, h3⟩ := h
        refine vcAll_ok hΓ (js := js) (a0 := a0) h1 h2 ?_ hr hf fun s' a' w' hk hr' hf' => ?_
        · intro i o ho
          simp only [dstsOk] at hd
          have hmem : o ∈ ops.toList := List.mem_of_getElem? (i := i) (by simpa [Array.getElem?_toList] using ho)
          exact List.all_eq_true.1 hd o hmem
        · obtain ⟨i, hi, he⟩ := hk
          have hh := enter_ok hr' he
          rw [hf'.1] at hh
          exact hQ .normal _ a' w' (h3 i hi) hh hf'
      obtain ⟨h1, h2, h3⟩ := h
      simp only [dstsOk] at hd
      exact vcDraw_ok hΓ (js := js) (a0 := a0) h1 h2 h3 (fun o ho => List.all_eq_true.1 hd o ho) hr hf fun s' a' w' hk hr' hf' => hQ .normal s' a' w' hk hr' hf'
  | .seq x y, L, s, K, Q, a, w, h, hd, hr, hf, hQ => by
    simp only [vcCode] at h
    simp only [dstsOk, Bool.and_eq_true] at hd
    split at h
    · rename_i D hD
      obtain ⟨h1, h2⟩ := h
      refine wp_seq (vcCode_ok hΓ x L s _ _ a w h1 hd.1 hr hf ?_)
      intro e s' a' w' hk hr' hf'
      cases e with
      | normal =>
        obtain ⟨i, hi, he⟩ := hk
        have hh := enter_ok hr' he
        rw [hf'.1] at hh
        exact vcCode_ok hΓ y _ _ K Q a' w' (h2 i hi) hd.2 hh hf' hQ
      | exit i => exact hQ (.exit i) s' a' w' hk hr' hf'
      | ret => exact hQ .ret s' a' w' hk hr' hf'
    · refine wp_seq (vcCode_ok hΓ x L s _ _ a w h hd.1 hr hf ?_)
      intro e s' a' w' hk hr' hf'
      cases e with
      | normal => exact vcCode_ok hΓ y L s' K Q a' w' hk hd.2 hr' hf' hQ
      | exit i => exact hQ (.exit i) s' a' w' hk hr' hf'
      | ret => exact hQ .ret s' a' w' hk hr' hf'
  | .cond c x y, L, s, K, Q, a, w, h, hd, hr, hf, hQ => by
    simp only [vcCode] at h
    simp only [dstsOk, Bool.and_eq_true] at hd
    split at h
    · rename_i d
      split at h
      · rename_i b hb
        obtain ⟨hr1, ht⟩ := hr.know hb
        have hc : a.eval (.tmp d) = .bool b := by simp [Act.eval, Array.getD_eq_getD_getElem?, ht]
        unfold bcase at h
        cases b
        · exact wp_cond_false hc (vcCode_ok hΓ y L _ K Q a w h hd.2 hr1 hf hQ)
        · exact wp_cond_true hc (vcCode_ok hΓ x L _ K Q a w h hd.1 hr1 hf hQ)
      · exact h.elim
    · exact h.elim
  | .block id x, L, s, K, Q, a, w, h, hd, hr, hf, hQ => by
    simp only [vcCode] at h
    simp only [dstsOk] at hd
    refine wp_block (vcCode_ok hΓ x L s _ _ a w h hd hr hf ?_)
    intro e s' a' w' hk hr' hf'
    cases e with
    | normal => exact hQ .normal s' a' w' hk hr' hf'
    | exit i =>
      simp only [Ex.to, Exit.inBlock]
      simp only at hk
      split at hk
      · rename_i hb
        rw [if_pos (Nat.eq_of_beq_eq_true hb)]
        exact hQ .normal s' a' w' hk hr' hf'
      · rename_i hb
        rw [if_neg (Nat.ne_of_beq_eq_false hb)]
        exact hQ (.exit i) s' a' w' hk hr' hf'
    | ret => exact hQ .ret s' a' w' hk hr' hf'
  | .loop x, L, s, K, Q, a, w, h, hd, hr, hf, hQ => by
    simp only [vcCode] at h
    simp only [dstsOk] at hd
    split at h
    · rename_i S hS
      obtain ⟨⟨i0, hi0, he0⟩, hround⟩ := h
      let p : Act → World → Nat → Prop := fun a w n => ∃ i, S.inv i ∧ S.meas i = n ∧ Rel C (headSt a0.tmps.size S i) a w ∧ Fixed js a0 a
      have hent : ∀ (s : St) (a : Act) (w : World) (i : S.ι), Rel C s a w → Fixed js a0 a → enter s S i → Rel C (headSt a0.tmps.size S i) a w := by
        intro s a w i hr hf he
        have := enter_ok hr he
        rwa [hf.1] at this
      refine wp_loop (fun a w => ∃ n, p a w n) (fun a w => open Classical in if h : ∃ n, p a w n then (least h).choose else 0) ⟨_, i0, hi0, rfl, hent s a w i0 hr hf he0, hf⟩ ?_
      intro a w hI
      have hμ : (open Classical in if h : ∃ n, p a w n then (least h).choose else 0) = (least hI).choose := dif_pos hI
      obtain ⟨⟨i, h1, h2, h3, h4⟩, hmin⟩ := (least hI).choose_spec
      refine vcCode_ok hΓ x _ _ _ _ a w (hround i h1) hd h3 h4 ?_
      intro e s' a' w' hk hr' hf'
      cases e with
      | normal =>
        obtain ⟨i', g1, g2, g3⟩ := hk
        have hp' : p a' w' (S.meas i') := ⟨i', g1, rfl, hent s' a' w' i' hr' hf' g3, hf'⟩
        refine ⟨⟨_, hp'⟩, ?_⟩
        have hμ' : (open Classical in if h : ∃ n, p a' w' n then (least h).choose else 0) = (least ⟨_, hp'⟩).choose := dif_pos ⟨_, hp'⟩
        have h5 := (least ⟨_, hp'⟩).choose_spec.2 _ hp'
        simp only [hμ, hμ']
        rw [h2] at g2
        exact Nat.lt_of_le_of_lt h5 g2
      | exit k => exact hQ (.exit k) s' a' w' hk hr' hf'
      | ret => exact hQ .ret s' a' w' hk hr' hf'
    · exact h.elim
  | .rangeFunc _ _ _ _, L, s, K, Q, a, w, h, hd, hr, hf, hQ => h.elim
  | .scope _, L, s, K, Q, a, w, h, hd, hr, hf, hQ => h.elim
  | .goto _, L, s, K, Q, a, w, h, hd, hr, hf, hQ => h.elim
  | .refuse _, L, s, K, Q, a, w, h, hd, hr, hf, hQ => h.elim

end Go.Eng
end
section
/- Functions. -/
set_option linter.unusedVariables false
set_option linter.unusedSimpArgs false
namespace Go.Eng

def isBox : AV → Bool
  | .box _ _ => true
  | _ => false
def boxIdx : List AV → Nat → List Nat
  | [], _ => []
  | a :: azs, j => match isBox a with
    | true => j :: boxIdx azs (j + 1)
    | false => boxIdx azs (j + 1)
def outsOk (js : List Nat) : Nat → List AV → Bool
  | _, [] => true
  | j, o :: os => match o with
    | .top => outsOk js (j + 1) os
    | .box _ _ => match js.elem j with
      | true => outsOk js (j + 1) os
      | false => false
    | .sl true _ _ _ _ _ => match js.elem j with
      | true => outsOk js (j + 1) os
      | false => false
    | _ => false
def fixJ (S : Sig) (x : S.X) : List Nat := boxIdx (S.args x) 0 ++ S.fixed

def vcRes (P : Program) (regs : List AV) : List ResultVar → (List AV → Prop) → Prop
  | [], K => K []
  | .tmp t :: rs, K => vcRes P regs rs fun azs => K (opAV regs (.tmp t) :: azs)
  | .cell a t :: rs, K => vcLoadAt P regs t (opAV regs (.tmp a)) fun r => vcRes P regs rs fun azs => K (r :: azs)
def resAV : List AV → AV
  | [a] => a
  | azs => .tup azs

def initSt (N : Nat) (args : List AV) : St := ⟨(stampL 0 args).1 ++ List.replicate (N - args.length) (.tup []), (stampL 0 args).2⟩

def vcFin (P : Program) (S : Sig) (x : S.X) (rs : List ResultVar) (n : Nat) (s : St) : Prop :=
  vcRes P s.regs rs fun azs => ∃ y, S.post x y ∧ match outsOk (fixJ S x) 0 (S.outs x y) with
    | true => handL false (S.res x y :: S.outs x y) s.regs (resAV azs :: (List.range n).map fun j => opAV s.regs (.tmp j)) fun _ => True
    | false => False
def vcEnd (P : Program) (S : Sig) (x : S.X) (rs : List ResultVar) (n : Nat) : Ex → St → Prop
  | .exit _, _ => False
  | _, s => vcFin P S x rs n s

def vcFun (P : Program) (Γ : FuncId → Nat → Option Sig) (E : TypeId → Option ES) (ov : Bool) (L : Nat → Option LS) (N : Nat) (results : List ResultVar) (c : Code) (S : Sig) (x : S.X) : Prop :=
  match Nat.ble (S.args x).length N, dstsOk (fixJ S x) c with
  | true, true => keepOk S.keep (∀ y, S.post x y → cleanL (S.res x y :: S.outs x y)) ∧ vcCode P Γ E ov N L c (initSt N (S.args x)) (vcEnd P S x results (S.args x).length)
  | _, _ => False

theorem outs_fix {Z : FP} {w : World} {js : List Nat} : ∀ (j : Nat) (os : List AV) (vals us : List Value) (A : FP), outsOk js j os = true → us.length = vals.length →
    (∀ (i : Nat), i < vals.length → js.elem (j + i) = true → us[i]? = vals[i]?) → rel0L Z w os us A → rel0L Z w os vals A
  | j, [], vals, us, A, ho, hl, hf, h => by
    simp only [rel0L] at h ⊢
    rw [h.1] at hl
    exact ⟨List.length_eq_zero_iff.1 (by simpa using hl.symm), h.2⟩
  | j, o :: os, vals, us, A, ho, hl, hf, h => by
    simp only [rel0L] at h ⊢
    obtain ⟨u, us', A1, A2, e, hj, h1, h2⟩ := h
    subst e
    cases vals with
    | nil => simp at hl
    | cons v vals =>
      obtain ⟨ho1, ho2⟩ : (o = .top ∨ js.elem j = true) ∧ outsOk js (j + 1) os = true := by
        unfold outsOk at ho
        split at ho
        · exact ⟨.inl rfl, ho⟩
        · split at ho
          · rename_i hb; exact ⟨.inr hb, ho⟩
          · cases ho
        · split at ho
          · rename_i hb; exact ⟨.inr hb, ho⟩
          · cases ho
        · cases ho
      refine ⟨v, vals, A1, A2, rfl, hj, ?_, outs_fix (j + 1) os vals us' A2 ho2 (by simpa using hl) (fun i h3 h4 => by
        have := hf (i + 1) (by simpa using h3) (by rw [show j + (i + 1) = j + 1 + i from by omega]; exact h4)
        simpa using this) h2⟩
      rcases ho1 with rfl | ho1
      · simpa only [rel0] using h1
      · have := hf 0 (by simp) (by simpa using ho1)
        simp at this
        rw [← this]; exact h1

def resV : List Value → Value
  | [v] => v
  | vs => .tuple vs.toArray

theorem load_as {P : Program} {t : TypeId} {x v : Value} {w : World} (h : (Instr.loadAt t x).run P w = .ok v w) : (do loadVar t (← asAddr x) : Sem Value).run P w = .ok v w := by
  unfold Instr.loadAt at h
  cases x with
  | pointer a =>
    cases a with
    | none => rw [run_bind] at h; cases h
    | some a => rw [run_bind] at h ⊢; exact h
  | _ => rw [run_bind] at h; cases h

theorem vcRes_ok {P : Program} {regs : List AV} {Z : FP} {η : Nat → Value} {w : World} {n : Nat} {a : Act} {T : FP} (hR : relSL Z η w regs a.tmps.toList T) (hI : idsBL n regs)
    {g : ResultVar → Sem Value} (g1 : ∀ t, g (.tmp t) = pure (a.tmps.getD t undef)) (g2 : ∀ b t, g (.cell b t) = (do loadVar t (← asAddr (a.tmps.getD b undef)))) :
    ∀ (rs : List ResultVar) (K : List AV → Prop), vcRes P regs rs K → ∃ vs azs, (rs.mapM g).run P w = .ok vs w ∧
      relSL Z η w azs vs (fun _ => False) ∧ idsBL n azs ∧ K azs
  | [], K, h => ⟨[], [], rfl, by simp [relSL, emp], trivial, h⟩
  | .tmp t :: rs, K, h => by
    simp only [vcRes] at h
    obtain ⟨vs, azs, h1, h2, h3, h4⟩ := vcRes_ok hR hI g1 g2 rs _ h
    refine ⟨a.tmps.getD t undef :: vs, opAV regs (.tmp t) :: azs, ?_, ?_, ⟨opAV_ids hI (.tmp t), h3⟩, h4⟩
    · rw [List.mapM_cons, g1, run_bind_ok (run_pure' P _ w), run_bind_ok h1]; rfl
    · simp only [relSL]; exact ⟨_, _, _, _, rfl, join_emp_left _, opAV_rel hR (.tmp t), h2⟩
  | .cell b t :: rs, K, h => by
    simp only [vcRes] at h
    obtain ⟨v, r, h1, h2, h3, h4⟩ := vcLoadAt_ok (n := n) h hR hI (opAV_rel (a := a) hR (.tmp b))
    obtain ⟨vs, azs, k1, k2, k3, k4⟩ := vcRes_ok hR hI g1 g2 rs _ h4
    refine ⟨v :: vs, r :: azs, ?_, ?_, ⟨h3, k3⟩, k4⟩
    · have hl : (do loadVar t (← asAddr (a.tmps.getD b undef)) : Sem Value).run P w = .ok v w := load_as (h1 w (Sees.refl w))
      rw [List.mapM_cons, g2, run_bind_ok hl, run_bind_ok k1]; rfl
    · simp only [relSL]; exact ⟨_, _, _, _, rfl, join_emp_left _, h2, k2⟩

theorem run_results {P : Program} {fn : Func} {regs : List AV} {Z : FP} {η : Nat → Value} {w : World} {n : Nat} {a : Act} {T : FP} (hR : relSL Z η w regs a.tmps.toList T) (hI : idsBL n regs)
    {K : List AV → Prop} (h : vcRes P regs fn.results.toList K) : ∃ vs azs, (results fn a.tmps).run P w = .ok (resV vs) w ∧ relSL Z η w azs vs (fun _ => False) ∧ idsBL n azs ∧ K azs := by
  unfold results
  obtain ⟨vs, azs, h1, h2⟩ := vcRes_ok hR hI (g := fun | .tmp t => pure (a.tmps.getD t undef) | .cell b t => do loadVar t (← asAddr (a.tmps.getD b undef))) (fun _ => rfl) (fun _ _ => rfl) fn.results.toList K h
  refine ⟨vs, azs, ?_, h2⟩
  rw [Array.mapM_eq_mapM_toList, map_eq_pure_bind]
  refine (run_bind_ok (x := vs.toArray) (w' := w) ?_).trans ?_
  · exact (run_bind_ok h1).trans rfl
  · simp only [run_pure']
    congr 1
    match vs with
    | [] => rfl
    | [v] => rfl
    | v :: u :: vs => rfl

theorem undefs_rel (Z : FP) (η : Nat → Value) (w : World) : ∀ n, relSL Z η w (List.replicate n (.tup [])) (List.replicate n undef) (fun _ => False)
  | 0 => by simp [relSL, emp]
  | n + 1 => by
    simp only [List.replicate_succ, relSL]
    exact ⟨undef, _, _, _, rfl, join_emp_left _, undef_rel Z η w, undefs_rel Z η w n⟩
theorem undefs_ids (n : Nat) : ∀ N, idsBL n (List.replicate N (.tup []))
  | 0 => trivial
  | N + 1 => ⟨trivial, undefs_ids n N⟩
theorem idsBL_append {n : Nat} : ∀ (l1 l2 : List AV), idsBL n l1 → idsBL n l2 → idsBL n (l1 ++ l2)
  | [], l2, _, h2 => by simpa using h2
  | x :: l1, l2, h1, h2 => ⟨h1.1, idsBL_append l1 l2 h1.2 h2⟩

theorem vcFun_ok {G : GInv} {P : Program} {Γ : FuncId → Nat → Option Sig} {E : TypeId → Option ES} {ov : Bool} {f : FuncId} {fn : Func} {c : Code} {S : Sig} {L : S.X → Nat → Option LS}
    (hfn : P.funcs[f]? = some fn) (hbody : fn.body = some c) (hname : (fn.name == "runtime.NumGoroutine") = false)
    (hΓ : ∀ f k S, Γ f k = some S → Contract G P f S) (h : ∀ x, S.pre x → vcFun P Γ E ov (L x) fn.ntmps fn.results.toList c S x) : Contract G P f S := by
  refine ⟨⟨⟨fn, hfn, hname, by simp [hbody]⟩, fun x y hx hy => ?_⟩, ?_⟩
  · have h := h x hx
    unfold vcFun at h
    split at h
    · have h := h.1
      unfold keepOk at h ⊢
      split
      · trivial
      · rename_i hk; rw [hk] at h; exact h y hy
    · exact h.elim
  intro x hpre Z w vals A hG hargs hA
  have h := h x hpre
  unfold vcFun at h
  split at h
  rotate_left
  · exact h.elim
  · rename_i hN hd
    have hvc := h.2
    have hN := Nat.le_of_ble_eq_true hN
    have hvl : vals.length = (S.args x).length := rel0L_len _ _ _ hargs
    refine calls_of_wp hfn hbody ?_
    let a0 : Act := { tmps := vals.toArray ++ Array.replicate (fn.ntmps - vals.toArray.size) undef, defers := [] }
    have hsz : a0.tmps.size = fn.ntmps := by simp [a0]; omega
    obtain ⟨p1, p2, η1, p3, p4⟩ := stampL_ok (S.args x) 0 vals A (fun _ => undef) hargs
    have hst := p4 η1 (fun _ _ => rfl)
    let C : Ctx := ⟨w, Z, A, G, hG, fun b hb => (hA b hb).1⟩
    have hinit : Rel C (initSt fn.ntmps (S.args x)) a0 w := by
      refine ⟨η1, Z, A, ⟨rfl, ?_, idsBL_append _ _ p2 (undefs_ids _ _), fun b hb => ⟨(hA b hb).1, (hA b hb).2, fun _ => hb⟩, ⟨rfl, rfl, rfl, Nat.le_refl _, fun b _ _ => ⟨rfl, Iff.rfl⟩⟩⟩⟩
      have := relSL_append _ _ _ _ _ _ A hst (undefs_rel Z η1 w (fn.ntmps - (S.args x).length)) (join_emp_right A)
      simpa [initSt, a0, hvl] using this
    refine vcCode_ok (C := C) hΓ (js := fixJ S x) (a0 := a0) (E := E) (ov := ov) c (L x) _ _ _ a0 w (by rw [hsz]; exact hvc) hd hinit ⟨rfl, fun _ _ => rfl⟩ ?_
    intro e s' a' w' hk hr hf
    have fin : vcFin P S x fn.results.toList (S.args x).length s' → a'.defers = [] ∧ ∃ v, (results fn a'.tmps).run P w' = .ok v w' ∧ ∃ y v' Z' A', S.post x y ∧ Ending.returned v = .returned v' ∧ rel0L Z' w' (S.res x y :: S.outs x y) (v' :: vals) A' ∧ After Z w A Z' w' A' := by
      intro hfin
      obtain ⟨η, Z1, T, hi⟩ := hr
      obtain ⟨rvs, ras, hrun, hrr, hri, y, hpost, hh⟩ := run_results hi.rel hi.ids hfin
      split at hh
      rotate_left
      · exact hh.elim
      rename_i hout
      have hres : relS Z1 η w' (resAV ras) (resV rvs) (fun _ => False) := by
        match ras, rvs, hrr with
        | [], rvs, hrr =>
          simp only [relSL] at hrr
          rw [hrr.1]
          simp only [resAV, resV, relS]; exact ⟨[], rfl, by simp [relSL, emp]⟩
        | [r], rvs, hrr =>
          simp only [relSL] at hrr
          obtain ⟨v, cs', A, B, e, hj, h1, h2, h3⟩ := hrr
          subst h2; subst e
          have := (emp_of_join hj emp_false).1
          rw [emp_eq this] at h1
          exact h1
        | r :: q :: ras, rvs, hrr =>
          have hl := relSL_len _ _ _ hrr
          match rvs, hl with
          | v :: u :: rvs, _ => simp only [resAV, resV, relS]; exact ⟨_, rfl, hrr⟩
      have hresi : idsB s'.nx (resAV ras) := by
        match ras, hri with
        | [], hri => exact hri
        | [r], hri => exact hri.1
        | r :: q :: ras, hri => simp only [resAV, idsB]; exact hri
      have hactual : relSL Z1 η w' (resAV ras :: (List.range (S.args x).length).map fun j => opAV s'.regs (.tmp j))
          (resV rvs :: (List.range (S.args x).length).map fun j => a'.eval (.tmp j)) (fun _ => False) := by
        simp only [relSL]
        refine ⟨_, _, _, _, rfl, join_emp_left _, hres, ?_⟩
        have : ∀ l : List Nat, relSL Z1 η w' (l.map fun j => opAV s'.regs (.tmp j)) (l.map fun j => a'.eval (.tmp j)) (fun _ => False) := by
          intro l
          induction l with
          | nil => simp [relSL, emp]
          | cons t ts ih =>
            simp only [List.map_cons, relSL]
            exact ⟨_, _, _, _, rfl, join_emp_left _, opAV_rel hi.rel (.tmp t), ih⟩
        exact this _
      have hactuali : idsBL s'.nx (resAV ras :: (List.range (S.args x).length).map fun j => opAV s'.regs (.tmp j)) := by
        refine ⟨hresi, ?_⟩
        have : ∀ l : List Nat, idsBL s'.nx (l.map fun j => opAV s'.regs (.tmp j)) := by
          intro l
          induction l with
          | nil => trivial
          | cons t ts ih => exact ⟨opAV_ids hi.ids (.tmp t), ih⟩
        exact this _
      obtain ⟨Z2, A', B', r', ho⟩ := handL_ok _ s'.regs _ _ hh Z1 a'.tmps.toList _ T (fun _ => False) T hi.rel hi.ids hactual hactuali (join_emp_left T)
      refine ⟨hi.defers, _, hrun, y, _, Z2, A', hpost, rfl, ?_, ?_⟩
      · have hgot := ho.got
        simp only [rel0L] at hgot ⊢
        obtain ⟨v', us', A1, A2, e1, hj, h1, h2⟩ := hgot
        simp only [List.cons.injEq] at e1
        obtain ⟨rfl, rfl⟩ := e1
        refine ⟨_, vals, A1, A2, rfl, hj, h1, outs_fix 0 _ vals _ A2 hout (by simp [hvl]) (fun i hil0 hb => ?_) h2⟩
        have hil : i < (S.args x).length := by omega
        have hfix := hf.2 i (by simpa using hb)
        have hav : a0.tmps[i]? = vals[i]? := by
          simp only [a0]
          rw [Array.getElem?_append_left (by simp; omega)]
          simp
        have hvi : vals[i]? = some vals[i] := by simp
        simp only [List.getElem?_map, List.getElem?_range hil, Option.map_some, Act.eval]
        rw [hav, hvi] at hfix
        simp [Array.getD_eq_getD_getElem?, hfix, hvi]
      · refine ⟨hi.ok.os, hi.ok.tape, hi.ok.output, hi.ok.size, fun b hb hn => ?_, fun b hb => ?_⟩
        · obtain ⟨g1, g2⟩ := hi.ok.old b hb hn
          refine ⟨g1, fun h => g2.1 (ho.zz b h), fun h => Classical.byContradiction fun hn2 => ?_⟩
          have hT := ho.gone b (g2.2 h) hn2
          exact hn ((hi.own b hT).2.2 hb)
        · have hT := ho.part b (.inl hb)
          exact ⟨ho.ownA b hb (hi.own b hT).1, (hi.own b hT).2.1, (hi.own b hT).2.2⟩
    cases e with
    | normal => exact fin hk
    | exit id => exact hk.elim
    | ret => exact fin hk

/- contracts by a list -/
def Γof : List (Nat × Nat × Sig) → FuncId → Nat → Option Sig
  | [], _, _ => none
  | (g, k, S) :: l, f, j => match Nat.beq g f, Nat.beq k j with
    | true, true => some S
    | _, _ => Γof l f j
def AllC (G : GInv) (P : Program) : List (Nat × Nat × Sig) → Prop
  | [] => True
  | (g, _, S) :: l => Contract G P g S ∧ AllC G P l
theorem Γof_ok {G : GInv} {P : Program} : ∀ {l : List (Nat × Nat × Sig)}, AllC G P l → ∀ f k S, Γof l f k = some S → Contract G P f S
  | [], _, f, k, S, h => by simp [Γof] at h
  | (g, j, S') :: l, ha, f, k, S, h => by
    unfold Γof at h
    split at h
    · rename_i hb _
      simp only [Option.some.injEq] at h; subst h
      rw [← Nat.eq_of_beq_eq_true hb]; exact ha.1
    · exact Γof_ok ha.2 f k S h
def Lof : List (Nat × LS) → Nat → Option LS
  | [], _ => none
  | (g, S) :: l, f => match Nat.beq g f with
    | true => some S
    | false => Lof l f
def Eof : List (Nat × ES) → TypeId → Option ES
  | [], _ => none
  | (g, S) :: l, f => match Nat.beq g f with
    | true => some S
    | false => Eof l f
theorem bcase_intro {b : Bool} {p q : Prop} (h1 : b = true → p) (h2 : b = false → q) : bcase b p q := by
  cases b
  · exact h2 rfl
  · exact h1 rfl

end Go.Eng
end
section
/- The data of the program: nodes, numbers, texts. -/
set_option linter.unusedVariables false
namespace Go.My
open Go.Eng

structure Nd where
  kind : Int
  text : List UInt8
  kids : List Int
  blank : Bool

def intA : Int → List AV := fun n => [.int .i64 n]
def strA : List UInt8 → List AV := fun s => [.str s]
def boolA : Bool → List AV := fun b => [.bool b]
def ints (l : List Int) : AV := .sl false 0 1 Int intA l
def oints (l : List Int) : AV := .sl true 0 1 Int intA l
def ndA (o : Bool) : Nd → List AV := fun x => [.int .i64 x.kind, .str x.text, .sl o 0 1 Int intA x.kids, .bool x.blank]
def nds (l : List Nd) : AV := .sl false 0 4 Nd (ndA false) l
def onds (l : List Nd) : AV := .sl true 0 4 Nd (ndA true) l

def beqNd (a b : Nd) : Bool := a.kind == b.kind && (a.text == b.text && (a.kids == b.kids && a.blank == b.blank))
def beqNds : List Nd → List Nd → Bool
  | [], [] => true
  | a :: azs, b :: bs => beqNd a b && beqNds azs bs
  | _, _ => false
theorem beqNd_eq {a b : Nd} : beqNd a b = true ↔ a = b := by
  cases a; cases b; simp [beqNd]
theorem beqNds_eq : ∀ {a b : List Nd}, beqNds a b = true ↔ a = b
  | [], [] => by simp [beqNds]
  | [], _ :: _ => by simp [beqNds]
  | _ :: _, [] => by simp [beqNds]
  | a :: azs, b :: bs => by simp [beqNds, beqNd_eq, beqNds_eq (a := azs) (b := bs)]
theorem beqNds_false {a b : List Nd} (h : a ≠ b) : false = beqNds a b := by
  cases hb : beqNds a b
  · rfl
  · exact (h (beqNds_eq.1 hb)).elim
theorem beqNds_true {a b : List Nd} (h : a = b) : true = beqNds a b := (beqNds_eq.2 h).symm
theorem beqNds_self (a : List Nd) : beqNds a a = true := beqNds_eq.2 rfl
theorem beqNd_self (a : Nd) : beqNd a a = true := beqNd_eq.2 rfl

/- what is no greater than memory bears -/
def smallNd (x : Nd) : Prop := x.text.length < 2 ^ 63 ∧ x.kids.length < 2 ^ 63
def smallNds (l : List Nd) : Prop := l.length < 2 ^ 63 ∧ ∀ x ∈ l, smallNd x

/- what is left of a budget -/
def szInts (l : List Int) (left : Int) : Int := if left - l.length < 0 then -1 else left - l.length
def szNd (x : Nd) (left : Int) : Int := if left - x.text.length < 0 then -1 else szInts x.kids (left - x.text.length)
def szAll : List Nd → Int → Int
  | [], left => left
  | x :: xs, left => if szNd x left < 0 then -1 else szAll xs (szNd x left)
def szNds (l : List Nd) (left : Int) : Int := if left - l.length < 0 then -1 else szAll l (left - l.length)

theorem ex_flip {α : Type} {p q : α → Prop} (x : α) (h2 : q x) (h1 : p x) : ∃ x, p x ∧ q x := ⟨x, h1, h2⟩
theorem ex_flip2 {α β : Type} {p q : α × β → Prop} (a : α) (b : β) (h2 : q (a, b)) (h1 : p (a, b)) : ∃ x, p x ∧ q x := ⟨_, h1, h2⟩
theorem ex_flip3 {α β γ : Type} {p q : α × β × γ → Prop} (a : α) (b : β) (c : γ) (h2 : q (a, b, c)) (h1 : p (a, b, c)) : ∃ x, p x ∧ q x := ⟨_, h1, h2⟩
theorem ex_flip4 {α β γ δ : Type} {p q : α × β × γ × δ → Prop} (a : α) (b : β) (c : γ) (d : δ) (h2 : q (a, b, c, d)) (h1 : p (a, b, c, d)) : ∃ x, p x ∧ q x := ⟨_, h1, h2⟩
theorem ex_flip5 {α β γ δ ε : Type} {p q : α × β × γ × δ × ε → Prop} (a : α) (b : β) (c : γ) (d : δ) (e : ε) (h2 : q (a, b, c, d, e)) (h1 : p (a, b, c, d, e)) : ∃ x, p x ∧ q x := ⟨_, h1, h2⟩
theorem ex_flip6 {α β γ δ ε ζ : Type} {p q : α × β × γ × δ × ε × ζ → Prop} (a : α) (b : β) (c : γ) (d : δ) (e : ε) (f : ζ) (h2 : q (a, b, c, d, e, f)) (h1 : p (a, b, c, d, e, f)) : ∃ x, p x ∧ q x := ⟨_, h1, h2⟩
theorem sl_eq {o : Bool} {id sz : Nat} {α : Type} {f : α → List AV} {l l' : List α} (h : l = l') : AV.sl o id sz α f l = AV.sl o id sz α f l' := by rw [h]
theorem bcase_dec {p : Prop} [Decidable p] {P Q : Prop} (h1 : p → P) (h2 : ¬ p → Q) : bcase (decide p) P Q :=
  bcase_intro (fun h => h1 (of_decide_eq_true h)) (fun h => h2 (of_decide_eq_false h))
theorem getE {α : Type} {l : List α} {n : Nat} {e : α} (h : l[n]? = some e) : ∃ h : n < l.length, l[n] = e := List.getElem?_eq_some_iff.1 h
theorem memE {α : Type} {l : List α} {n : Nat} {e : α} (h : l[n]? = some e) : e ∈ l := List.mem_of_getElem? h
theorem dropE {α : Type} {l : List α} {n : Nat} {e : α} (h : l[n]? = some e) : l.drop n = e :: l.drop (n + 1) := by
  obtain ⟨h1, h2⟩ := getE h
  rw [← h2]; exact List.drop_eq_getElem_cons h1
theorem takeE {α : Type} {l : List α} {n : Nat} {e : α} (h : l[n]? = some e) : l.take (n + 1) = l.take n ++ [e] := by
  rw [List.take_add_one, h]; rfl
def fillL {α : Type} (z : α) (x : List α) (i : Int) : List α := x.take i.toNat ++ List.replicate (x.length - i.toNat) z
theorem fillL_length {α : Type} {z : α} {x : List α} {i : Int} (h : i ≤ x.length) : (fillL z x i).length = x.length := by
  simp [fillL]; omega
theorem fillL_zero {α : Type} {z : α} {x : List α} : List.replicate (Int.toNat (x.length : Int)) z = fillL z x 0 := by simp [fillL]
theorem fillL_all {α : Type} {z : α} {x : List α} {i : Int} (h : (x.length : Int) ≤ i) : fillL z x i = x := by
  have h1 : x.length - i.toNat = 0 := by omega
  rw [fillL, h1, List.take_of_length_le (by omega)]; simp
theorem fillL_set {α : Type} {z : α} {x : List α} {i : Int} {e : α} (h0 : 0 ≤ i) (h : x[i.toNat]? = some e) : (fillL z x i).set i.toNat e = fillL z x (i + 1) := by
  obtain ⟨h1, h2⟩ := List.getElem?_eq_some_iff.1 h
  have e1 : (i + 1).toNat = i.toNat + 1 := by omega
  have e2 : x.length - i.toNat = (x.length - (i.toNat + 1)) + 1 := by omega
  have e3 : i.toNat - min i.toNat x.length = 0 := by omega
  rw [fillL, fillL, e1, e2, List.set_append_right, List.length_take, e3, List.replicate_succ, List.set_cons_zero, List.take_add_one, h]
  · simp
  · rw [List.length_take]; omega
theorem bcase_bne {α : Type} [BEq α] [LawfulBEq α] {a b : α} {P Q : Prop} (h1 : a ≠ b → P) (h2 : a = b → Q) : bcase (a != b) P Q :=
  bcase_intro (fun h => h1 (by simpa using h)) (fun h => h2 (by simpa using h))
theorem bcase_beq {α : Type} [BEq α] [LawfulBEq α] {a b : α} {P Q : Prop} (h1 : a = b → P) (h2 : a ≠ b → Q) : bcase (a == b) P Q :=
  bcase_intro (fun h => h1 (by simpa using h)) (fun h => h2 (by simpa using h))
theorem bcase_not {b : Bool} {P Q : Prop} (h1 : b = false → P) (h2 : b = true → Q) : bcase (!b) P Q :=
  bcase_intro (fun h => h1 (by simpa using h)) (fun h => h2 (by simpa using h))
theorem toNat1 {i : Int} (h : 0 ≤ i) : (i + 1).toNat = i.toNat + 1 := by omega
theorem takeEq {α : Type} {x y : List α} {i : Int} {e f : α} (h0 : 0 ≤ i) (ht : x.take i.toNat = y.take i.toNat) (h1 : x[i.toNat]? = some e) (h2 : y[i.toNat]? = some f) (he : e = f) :
    x.take (i + 1).toNat = y.take (i + 1).toNat := by
  rw [toNat1 h0, takeE h1, takeE h2, ht, he]
theorem takeAll {α : Type} {x y : List α} {i : Int} (hl : x.length = y.length) (ht : x.take i.toNat = y.take i.toNat) (h : (x.length : Int) ≤ i) : x = y := by
  rw [List.take_of_length_le (by omega), List.take_of_length_le (by omega)] at ht; exact ht
theorem beqE {α : Type} [BEq α] [LawfulBEq α] {x y : α} (h : x = y) : true = (x == y) := by simp [h]
theorem bneE {α : Type} [BEq α] [LawfulBEq α] {x y : α} (h : x ≠ y) : false = (x == y) := by simp [h]
def inR64 (n : Int) : Prop := -9223372036854775808 ≤ n ∧ n ≤ 9223372036854775807
theorem i64max : IntKind.i64.max = 9223372036854775807 := rfl
theorem inR_i64 {n : Int} (h1 : -9223372036854775808 ≤ n) (h2 : n ≤ 9223372036854775807) : inR .i64 n := by
  unfold inR; simp [IntKind.min, IntKind.max, IntKind.bits, IntKind.signed]; omega

theorem fz_nds {l : List Nd} : AV.sl false 0 4 Nd (fun x => fzL (ndA true x)) l = AV.sl false 0 4 Nd (ndA false) l := rfl
/- what the laws' budget gives -/
theorem szInts_bd {l : List Int} {n : Int} (h : ¬ szInts l n < 0) : (l.length : Int) ≤ n := by
  unfold szInts at h; split at h <;> omega
theorem szInts_mono {l : List Int} {n : Int} (h : -1 ≤ n) : -1 ≤ szInts l n ∧ szInts l n ≤ n := by
  unfold szInts; split <;> omega
theorem szNd_mono {l : Nd} {n : Int} (h : -1 ≤ n) : -1 ≤ szNd l n ∧ szNd l n ≤ n := by
  unfold szNd; split
  · omega
  · have := @szInts_mono l.kids (n - l.text.length) (by omega); omega
theorem szNd_bd {x : Nd} {n : Int} (h : ¬ szNd x n < 0) : (x.text.length : Int) ≤ n ∧ (x.kids.length : Int) ≤ n := by
  unfold szNd at h; split at h
  · omega
  · have := szInts_bd h; omega
theorem szAll_mono : ∀ {l : List Nd} {n : Int}, -1 ≤ n → -1 ≤ szAll l n ∧ szAll l n ≤ n
  | [], n, h => ⟨h, Int.le_refl _⟩
  | x :: l, n, h => by
    unfold szAll; split
    · omega
    · have h1 := @szNd_mono x n h
      have h2 := @szAll_mono l (szNd x n) (by omega)
      omega
theorem szNds_mono {l : List Nd} {n : Int} (h : -1 ≤ n) : -1 ≤ szNds l n ∧ szNds l n ≤ n := by
  unfold szNds; split
  · omega
  · have := @szAll_mono l (n - l.length) (by omega); omega
theorem szAll_bd : ∀ {l : List Nd} {n : Int}, -1 ≤ n → ¬ szAll l n < 0 → ∀ e ∈ l, (e.text.length : Int) ≤ n ∧ (e.kids.length : Int) ≤ n
  | [], n, _, _, e, he => by cases he
  | x :: l, n, h0, h, e, he => by
    unfold szAll at h; split at h
    · omega
    · rename_i hx
      have h1 := @szNd_mono x n h0
      rcases List.mem_cons.1 he with rfl | he
      · exact szNd_bd hx
      · have := szAll_bd (by omega) h e he; omega
theorem szNds_bd {l : List Nd} {n : Int} (h0 : -1 ≤ n) (h : ¬ szNds l n < 0) : (l.length : Int) ≤ n ∧ ∀ e ∈ l, (e.text.length : Int) ≤ n ∧ (e.kids.length : Int) ≤ n := by
  unfold szNds at h; split at h
  · omega
  · have h1 := @szAll_mono l (n - l.length) (by omega)
    refine ⟨by omega, fun e he => ?_⟩
    have := szAll_bd (by omega) h e he; omega
theorem gB1 {l : List Nd} (h : ¬ szNds l 1048576 < 0) : l.length < 2 ^ 63 := by have := (szNds_bd (by omega) h).1; omega
theorem gB2 {l : List Nd} (h : ¬ szNds l 1048576 < 0) {e : Nd} (he : e ∈ l) : e.text.length ≤ 2 ^ 40 := by have := (szNds_bd (by omega) h).2 e he; omega
theorem gB3 {l : List Nd} (h : ¬ szNds l 1048576 < 0) : l.length ≤ 2 ^ 30 := by have := (szNds_bd (by omega) h).1; omega
theorem gB4 {l : List Nd} (h : ¬ szNds l 1048576 < 0) {e : Nd} (he : e ∈ l) : e.kids.length ≤ 2 ^ 30 := by have := (szNds_bd (by omega) h).2 e he; omega
theorem gB5 {l : List Nd} {m : List Int} (h : ¬ szInts m (szNds l 1048576) < 0) : m.length ≤ 2 ^ 30 := by
  have h1 := szInts_bd h
  have h2 := @szNds_mono l 1048576 (by omega)
  omega
theorem gB6 {l : List Nd} (h : ¬ szNds l 1048576 < 0) : smallNds l := by
  refine ⟨gB1 h, fun e he => ?_⟩
  have h1 := gB2 h he; have h2 := gB4 h he
  unfold smallNd; omega
theorem gB7 {l : List Nd} : szNds l 1048576 ≤ 2 ^ 50 := by have := @szNds_mono l 1048576 (by omega); omega
theorem gB8 {l : List Nd} : -1 ≤ szNds l 1048576 := (@szNds_mono l 1048576 (by omega)).1
end Go.My
end
section
/- Bytes and signs, plainly. -/
set_option linter.unusedVariables false
set_option linter.unusedSimpArgs false
namespace Go.My
open Go.Eng

def isFig (c : UInt8) : Bool := decide (48 ≤ c.toNat) && decide (c.toNat ≤ 57)
def isFst (c : UInt8) : Bool := (decide (97 ≤ c.toNat) && decide (c.toNat ≤ 122)) || ((decide (65 ≤ c.toNat) && decide (c.toNat ≤ 90)) || decide (c.toNat = 95))
def isInn (c : UInt8) : Bool := isFst c || isFig c
def isPln (c : UInt8) : Bool := decide (32 ≤ c.toNat) && decide (c.toNat ≤ 126)
def isNl (c : UInt8) : Bool := decide (c.toNat = 10)
def notNl (c : UInt8) : Bool := decide (c.toNat ≠ 10)
theorem u8_ext {a b : UInt8} (h : a.toNat = b.toNat) : a = b := UInt8.toNat_inj.1 h
theorem u8_lt (a : UInt8) : a.toNat < 256 := UInt8.toNat_lt a

def kw (s : List UInt8) : Bool := s == [99,108,97,115,115] || (s == [118,97,114] || (s == [105,102] || (s == [101,108,115,101] || (s == [119,104,105,108,101] || s == [114,101,116,117,114,110]))))
def mk2 (s : List UInt8) : Bool := s == [38,38] || (s == [124,124] || (s == [61,61] || (s == [61,62] || s == [46,46])))
def mk1 : List UInt8 := [40,41,123,125,91,93,59,44,46,61,43,45,42,60,63,58]
def markOk (s : List UInt8) : Bool := mk2 s || match s with
  | [c] => mk1.elem c
  | _ => false

/- where a byte first stands -/
def idxOf (p : UInt8 → Bool) : List UInt8 → Option Nat
  | [] => none
  | c :: s => if p c then some 0 else (idxOf p s).map (· + 1)
def trimR (s : List UInt8) : List UInt8 := (s.reverse.dropWhile (fun c => decide (c.toNat = 32))).reverse
def quoted (s : List UInt8) : List UInt8 × Bool := match idxOf (fun c => decide (c.toNat = 39)) (s.drop 1) with
  | none => ([], false)
  | some i => (s.take (i + 2), (s.take (i + 2)).all isPln)
structure SgR where
  kind : Int
  text : List UInt8
  size : Int
  ok : Bool
def sgAt (s : List UInt8) : SgR := match s with
  | [] => ⟨0, [], 0, false⟩
  | b :: _ =>
    if isFst b then ⟨1, s.takeWhile isInn, (s.takeWhile isInn).length, decide ((s.takeWhile isInn).length ≤ 30)⟩
    else if isFig b then ⟨2, s.takeWhile isFig, (s.takeWhile isFig).length, decide ((s.takeWhile isFig).length ≤ 12)⟩
    else if b.toNat = 39 then ⟨3, (quoted s).1, (quoted s).1.length, (quoted s).2⟩
    else if s.take 2 = [47, 47] then ⟨5, trimR (s.takeWhile notNl), (s.takeWhile notNl).length, (s.takeWhile notNl).all isPln⟩
    else if markOk (s.take 2) then ⟨4, s.take 2, (s.take 2).length, true⟩
    else if markOk (s.take 1) then ⟨4, s.take 1, 1, true⟩
    else ⟨0, [], 0, false⟩
def isSgn (s : List UInt8) (k : Int) : Bool := !(s == []) && ((sgAt s).ok && (decide ((sgAt s).kind = k) && ((sgAt s).text == s && decide ((sgAt s).size = s.length))))

def nameOk (s : List UInt8) : Bool := isSgn s 1 && !kw s
def chainOk (s : List UInt8) : Bool := s == [38,38] || (s == [124,124] || (s == [61,61] || (s == [60] || (s == [43] || (s == [45] || s == [42])))))
def textOk (k : Int) (s : List UInt8) : Bool :=
  if k = 1 ∨ k = 6 ∨ k = 12 ∨ k = 13 ∨ k = 20 ∨ k = 21 then nameOk s
  else if k = 2 then isSgn s 2
  else if k = 3 then isSgn s 3
  else if k = 19 then isSgn s 5
  else if k = 7 then chainOk s
  else s == []

/- takeWhile and take -/
theorem takeWhile_take {p : UInt8 → Bool} : ∀ {s : List UInt8} {n : Nat}, (∀ e ∈ s.take n, p e = true) → (s.length ≤ n ∨ ∃ e, s[n]? = some e ∧ p e = false) → s.take n = s.takeWhile p
  | [], n, _, _ => by simp
  | c :: s, 0, _, h => by
    rcases h with h | ⟨e, he, hp⟩
    · simp at h
    · simp at he; subst he; simp [List.takeWhile, hp]
  | c :: s, n + 1, ha, h => by
    have hc : p c = true := ha c (by simp)
    rw [List.take_succ_cons, List.takeWhile_cons, if_pos hc, takeWhile_take (fun e he => ha e (by simp [he]))]
    rcases h with h | ⟨e, he, hp⟩
    · exact .inl (by simpa using h)
    · exact .inr ⟨e, by simpa using he, hp⟩
theorem all_take_succ {p : UInt8 → Bool} {s : List UInt8} {n : Nat} {e : UInt8} (h : ∀ e ∈ s.take n, p e = true) (he : s[n]? = some e) (hp : p e = true) : ∀ e ∈ s.take (n + 1), p e = true := by
  rw [takeE he]; intro x hx
  rcases List.mem_append.1 hx with hx | hx
  · exact h x hx
  · simp at hx; subst hx; exact hp
theorem all_of_take {p : UInt8 → Bool} {s : List UInt8} {n : Nat} (h : ∀ e ∈ s.take n, p e = true) (hn : s.length ≤ n) : s.all p = true := by
  rw [List.take_of_length_le hn] at h; exact List.all_eq_true.2 h
theorem not_all {p : UInt8 → Bool} {s : List UInt8} {n : Nat} {e : UInt8} (he : s[n]? = some e) (hp : p e = false) : s.all p = false := by
  rw [Bool.eq_false_iff]; intro h
  rw [List.all_eq_true.1 h e (List.mem_of_getElem? he)] at hp; cases hp
theorem takeWhile_eq_self {p : UInt8 → Bool} {s : List UInt8} : s.takeWhile p = s ↔ s.all p = true := by
  constructor
  · intro h; rw [← h]; exact List.all_takeWhile
  · intro h; induction s with
    | nil => rfl
    | cons c s ih =>
      simp only [List.all_cons, Bool.and_eq_true] at h
      rw [List.takeWhile_cons, if_pos h.1, ih h.2]
theorem idxOf_none {p : UInt8 → Bool} : ∀ {s : List UInt8}, idxOf p s = none ↔ ∀ e ∈ s, p e = false
  | [] => by simp [idxOf]
  | c :: s => by
    unfold idxOf
    by_cases h : p c = true
    · simp [h]
    · simp [h, idxOf_none (s := s)]
theorem idxOf_some {p : UInt8 → Bool} : ∀ {s : List UInt8} {i : Nat}, idxOf p s = some i ↔ (∀ e ∈ s.take i, p e = false) ∧ ∃ e, s[i]? = some e ∧ p e = true
  | [], i => by simp [idxOf]
  | c :: s, i => by
    unfold idxOf
    by_cases h : p c = true
    · cases i with
      | zero => simp [h]
      | succ i => simp [h]
    · cases i with
      | zero => simp [h]
      | succ i =>
        simp only [h, Bool.false_eq_true, if_false, Option.map_eq_some_iff]
        constructor
        · rintro ⟨j, hj, e⟩
          obtain rfl : j = i := by omega
          obtain ⟨h1, h2⟩ := idxOf_some.1 hj
          refine ⟨?_, by simpa using h2⟩
          intro e he; simp at he
          rcases he with rfl | he
          · simpa using h
          · exact h1 e he
        · rintro ⟨h1, h2⟩
          exact ⟨i, idxOf_some.2 ⟨fun e he => h1 e (by simp [he]), by simpa using h2⟩, rfl⟩
end Go.My
end
section
/- Trees, plainly. -/
set_option linter.unusedVariables false
set_option linter.unusedSimpArgs false
namespace Go.My
open Go.Eng

def inn (x a b : Int) : Bool := decide (a ≤ x) && decide (x ≤ b)
def isNd (l : List Nd) (k : Int) : Bool := decide (0 ≤ k) && decide (k < l.length)
def isVal (k : Int) : Bool := inn k 1 11
def isStep (k : Int) : Bool := inn k 12 17
def isMem (k : Int) : Bool := decide (k = 12) || (decide (k = 20) || decide (k = 19))
def isBlk (k : Int) : Bool := decide (k = 18)
def isNm (k : Int) : Bool := decide (k = 1)
def isCl (k : Int) : Bool := decide (k = 5)
def isSt (k : Int) : Bool := isStep k || decide (k = 19)
def isTop (k : Int) : Bool := isMem k || decide (k = 21)
def lastIs (p : Int → Bool) (ks : List Int) : Bool := match ks.getLast? with
  | some k => p k && ks.dropLast.all isNm
  | none => false
def kindsOk (k : Int) (ks : List Int) : Bool :=
  if k = 1 ∨ k = 2 ∨ k = 3 ∨ k = 19 then decide (ks.length = 0)
  else if k = 4 then ks.all isVal
  else if k = 5 then decide (1 ≤ ks.length) && ks.all isVal
  else if k = 7 then decide (2 ≤ ks.length) && ks.all isVal
  else if k = 8 then decide (ks.length = 3) && ks.all isVal
  else if k = 6 ∨ k = 11 ∨ k = 13 ∨ k = 14 then decide (ks.length = 1) && ks.all isVal
  else if k = 12 ∨ k = 15 then decide (ks.length ≤ 1) && ks.all isVal
  else if k = 9 then lastIs isVal ks
  else if k = 10 then decide (2 ≤ ks.length) && (isVal (ks.headD 0) && (ks.drop 1).all isCl)
  else if k = 16 then (decide (2 ≤ ks.length) && decide (ks.length ≤ 3)) && (isVal (ks.headD 0) && (ks.drop 1).all isBlk)
  else if k = 17 then decide (ks.length = 2) && (isVal (ks.headD 0) && isBlk (ks.getD 1 0))
  else if k = 18 then ks.all isSt
  else if k = 20 then lastIs isBlk ks
  else if k = 21 then ks.all isMem
  else if k = 22 then ks.all isTop
  else false
def ndAt (ns : List Nd) (c : Int) : Nd := ns.getD c.toNat ⟨0, [], [], false⟩
def kindAt (ns : List Nd) (c : Int) : Int := (ndAt ns c).kind
/- a call among the kids -/
def callOk (ns : List Nd) (x : Nd) (i : Nat) (c : Int) : Bool :=
  let y := ndAt ns c
  if y.kind = 5 then match y.kids with
    | [] => false
    | h :: _ => isNd ns h && !(decide (x.kind = 10) && (decide (0 < i) && !decide (kindAt ns h = 1)))
  else true
def callsOk (ns : List Nd) (x : Nd) : Bool := (x.kids.zipIdx).all fun p => callOk ns x p.2 p.1
def kidsIn (l : List Int) (k : Int) : Bool := l.all fun c => decide (0 ≤ c) && decide (c < k)
def nodupB : List Int → Bool
  | [] => true
  | c :: l => nodupB l && !l.elem c
def mayBlank (k : Int) : Bool := isStep k || (isMem k || decide (k = 21))
def nodeOk1 (ns : List Nd) (k : Int) (x : Nd) : Bool :=
  decide (x.kids.length ≤ 12) && (textOk x.kind x.text && ((kidsIn x.kids k && decide x.kids.Nodup) && (kindsOk x.kind (x.kids.map (kindAt ns)) && (callsOk ns x && (mayBlank x.kind || !x.blank)))))
def nodeOk (ns : List Nd) (k : Int) : Bool := isNd ns k && nodeOk1 ns k (ndAt ns k)

/- how deep -/
def mx (ds : List Int) : List Int → Int → Int
  | [], d => d
  | c :: l, d => mx ds l (max d (ds.getD c.toNat 0))
def deeps (ns : List Nd) : Nat → Option (List Int)
  | 0 => some []
  | n + 1 => match deeps ns n with
    | none => none
    | some ds => if nodeOk ns n then (if 14 ≤ mx ds (ndAt ns n).kids 0 then none else some (ds ++ [mx ds (ndAt ns n).kids 0 + 1])) else none
def deepOf (ns : List Nd) (k : Int) : Int := if isNd ns k then match deeps ns (k.toNat + 1) with
    | none => 0
    | some ds => ds.getD k.toNat 0
  else 0
def allKids (ns : List Nd) : List Int := ns.flatMap (·.kids)
def treeOk (ns : List Nd) : Bool :=
  (decide (1 ≤ ns.length) && decide (ns.length ≤ 300)) && (decide (kindAt ns (ns.length - 1) = 22) && (!decide (deepOf ns (ns.length - 1) = 0) && ((List.range (ns.length - 1)).all fun i => decide ((allKids ns).count (i : Int) = 1))))

theorem isNd_iff {l : List Nd} {k : Int} : isNd l k = true ↔ 0 ≤ k ∧ k < l.length := by simp [isNd]
theorem ndAt_of {ns : List Nd} {c : Int} {x : Nd} (h : ns[c.toNat]? = some x) : ndAt ns c = x := by
  simp [ndAt, List.getD, h]
theorem mx_ge (ds : List Int) : ∀ (l : List Int) (d : Int), d ≤ mx ds l d
  | [], d => Int.le_refl d
  | c :: l, d => by unfold mx; have := mx_ge ds l (max d (ds.getD c.toNat 0)); omega
theorem deeps_length {ns : List Nd} : ∀ {n : Nat} {ds : List Int}, deeps ns n = some ds → ds.length = n
  | 0, ds, h => by cases h; rfl
  | n + 1, ds, h => by
    unfold deeps at h
    split at h
    · cases h
    · rename_i ds' hd
      split at h
      · split at h
        · cases h
        · simp at h; rw [← h]; simp [deeps_length hd]
      · cases h
theorem deeps_pos {ns : List Nd} : ∀ {n : Nat} {ds : List Int}, deeps ns n = some ds → ∀ d ∈ ds, 1 ≤ d ∧ d ≤ 14
  | 0, ds, h => by cases h; simp
  | n + 1, ds, h => by
    unfold deeps at h
    split at h
    · cases h
    · rename_i ds' hd
      split at h
      · split at h
        · cases h
        · simp at h; rw [← h]
          intro d hdm
          rcases List.mem_append.1 hdm with hdm | hdm
          · exact deeps_pos hd d hdm
          · simp at hdm
            have := mx_ge ds' (ndAt ns n).kids 0
            omega
      · cases h
theorem deeps_ok {ns : List Nd} : ∀ {n : Nat} {ds : List Int}, deeps ns n = some ds → ∀ i, i < n → nodeOk ns i = true
  | 0, ds, h, i, hi => by omega
  | n + 1, ds, h, i, hi => by
    unfold deeps at h
    split at h
    · cases h
    · rename_i ds' hd
      split at h
      · rename_i hok
        by_cases e : i = n
        · subst e; exact hok
        · exact deeps_ok hd i (by omega)
      · cases h
theorem deeps_none_le {ns : List Nd} {n m : Nat} (h : deeps ns n = none) (hm : n ≤ m) : deeps ns m = none := by
  induction m with
  | zero => obtain rfl : n = 0 := by omega
            exact h
  | succ m ih =>
    by_cases e : n = m + 1
    · subst e; exact h
    · unfold deeps; rw [ih (by omega)]
theorem deepOf_pos {ns : List Nd} {k : Int} (h : deepOf ns k ≠ 0) : isNd ns k = true ∧ (∃ ds, deeps ns (k.toNat + 1) = some ds) ∧ ∀ i : Nat, (i : Int) ≤ k → nodeOk ns i = true := by
  unfold deepOf at h
  split at h
  · rename_i hn
    split at h
    · exact (h rfl).elim
    · rename_i ds hd
      exact ⟨hn, ⟨ds, hd⟩, fun i hi => deeps_ok hd i (by have := isNd_iff.1 hn; omega)⟩
  · exact (h rfl).elim
theorem deepOf_nonneg {ns : List Nd} {k : Int} : 0 ≤ deepOf ns k := by
  unfold deepOf
  split
  · split
    · exact Int.le_refl 0
    · rename_i ds hd
      rw [List.getD]
      cases h : ds[k.toNat]? with
      | none => simp
      | some d => have := deeps_pos hd d (List.mem_of_getElem? h); simp; omega
  · exact Int.le_refl 0
theorem deepOf_ne {ns : List Nd} {k : Int} {ds : List Int} (hn : isNd ns k = true) (h : deeps ns (k.toNat + 1) = some ds) : deepOf ns k ≠ 0 := by
  unfold deepOf
  rw [if_pos hn, h]
  have hl := deeps_length h
  have : ds[k.toNat]? = some ds[k.toNat] := by simp
  simp only [List.getD, this, Option.getD_some]
  have := deeps_pos h ds[k.toNat] (by simp)
  omega
theorem nodeOk_parts {ns : List Nd} {k : Int} (h : nodeOk ns k = true) : (0 ≤ k ∧ k < ns.length) ∧ (ndAt ns k).kids.length ≤ 12 ∧ textOk (ndAt ns k).kind (ndAt ns k).text = true ∧
    (∀ c ∈ (ndAt ns k).kids, 0 ≤ c ∧ c < k) ∧ (ndAt ns k).kids.Nodup ∧ kindsOk (ndAt ns k).kind ((ndAt ns k).kids.map (kindAt ns)) = true ∧ callsOk ns (ndAt ns k) = true := by
  simp only [nodeOk, nodeOk1, Bool.and_eq_true, decide_eq_true_eq, kidsIn, List.all_eq_true] at h
  exact ⟨isNd_iff.1 h.1, h.2.1, h.2.2.1, h.2.2.2.1.1, h.2.2.2.1.2, h.2.2.2.2.1, h.2.2.2.2.2.1⟩
end Go.My
end
section
/- A few functions of Go's library. -/
set_option linter.unusedVariables false
set_option linter.unusedSimpArgs false
namespace Go.My
open Go.Eng Go.Proofs Go.RowKit
variable {G : GInv}

def idxI (s : List UInt8) (c : UInt8) : Int := match idxOf (fun d => decide (d.toNat = c.toNat)) s with
  | none => -1
  | some i => i
theorem indexByte_eq : ∀ (s : List UInt8) (c : UInt8), Lib.indexByte s c = idxI s c
  | [], c => rfl
  | b :: s, c => by
    unfold Lib.indexByte idxI idxOf
    have e : (b == c) = decide (b.toNat = c.toNat) := by
      rw [Bool.eq_iff_iff]; simp [UInt8.toNat_inj]
    rw [e]
    by_cases h : b.toNat = c.toNat
    · simp [h]
    · have ih := indexByte_eq s c
      unfold idxI at ih
      simp only [h, decide_false, Bool.false_eq_true, if_false]
      rw [ih]
      cases hh : idxOf (fun d => decide (d.toNat = c.toNat)) s with
      | none => simp
      | some i => simp
set_option maxHeartbeats 1000000 in
set_option maxRecDepth 100000 in
theorem idxByte_calls (s : ByteArray) (c : Int) (w : World) :
    Calls Tryd.prog 107 #[.string s, .int .u8 c] w fun e w' => e = .returned (.int .i64 (Lib.indexByte s.data.toList c.toNat.toUInt8)) ∧ w' = w := by
  go_enter Tryd.func107, Tryd.ntmps107
  go_wp2
  rw [run_callFunc_extern Tryd.func113 (by kernel_rfl) (by kernel_rfl) (by kernel_rfl) (e := Extern.BytealgIndexByte.indexByte) (by kernel_rfl), Lib.run_indexByteString]
  simp only [Result.andThen]
  rw [Oper.upon_value]
  go_wp2
  go_ret
  exact ⟨rfl, rfl⟩
def s_idxB : Sig := { X := List UInt8 × UInt8, args := fun x => [.str x.1, .int .u8 x.2.toNat], pre := fun _ => True, Y := Unit, post := fun _ _ => True, res := fun x _ => .int .i64 (idxI x.1 x.2), outs := fun _ _ => [.top, .top], keep := false }
theorem idxB_ok : Contract G Tryd.prog 107 s_idxB := by
  refine ⟨⟨⟨_, Tryd.func107, by kernel_rfl, by kernel_rfl⟩, fun x y _ _ => ⟨trivial, trivial, trivial, trivial⟩⟩, ?_⟩
  rintro ⟨l, c⟩ _ Z w vals A _ h hA
  simp only [s_idxB, rel0L, rel0] at h
  obtain ⟨v, cs, A1, A2, rfl, _, ⟨rfl, _⟩, v', cs', A3, A4, rfl, _, ⟨rfl, _⟩, rfl, _⟩ := h
  refine (idxByte_calls ⟨l.toArray⟩ c.toNat w).mono ?_
  rintro e w' ⟨rfl, rfl⟩
  refine ⟨(), _, Z, (fun _ => False), trivial, rfl, ?_, ⟨rfl, rfl, rfl, Nat.le_refl _, fun _ _ _ => ⟨rfl, Iff.rfl⟩, fun _ h => h.elim⟩⟩
  simp only [s_idxB, rel0L, rel0]
  refine ⟨_, _, _, _, rfl, join_emp_left _, ⟨?_, emp_false⟩, _, _, _, _, rfl, join_emp_left _, emp_false, _, _, _, _, rfl, join_emp_left _, emp_false, rfl, emp_false⟩
  rw [indexByte_eq]; simp
def s_idxQ : Sig := { X := List UInt8, args := fun x => [.str x, .int .u8 39], pre := fun _ => True, Y := Unit, post := fun _ _ => True, res := fun x _ => .int .i64 (idxI x 39), outs := fun _ _ => [.top, .top], keep := false }
theorem idxQ_ok : Contract G Tryd.prog 107 s_idxQ := ⟨⟨(idxB_ok (G := G)).1.1, fun x y _ _ => ⟨trivial, trivial, trivial, trivial⟩⟩, fun x hx => (idxB_ok (G := G)).2 (x, 39) trivial⟩
def s_sIdxQ  : Sig := { X := List UInt8, args := fun x => [.str x, .int .u8 39], pre := fun x => True, Y := Unit, post := fun x y => True, res := fun x y => .int .i64 (idxI x 39), outs := fun x y => [.top, .top], keep := false }
theorem sIdxQ_vc (x : List UInt8) : vcFun Go.Proofs.Tryd.prog (Γof [(107, 0, s_idxQ)]) (Eof []) false (Lof ([])) Go.Proofs.Tryd.f103.ntmps Go.Proofs.Tryd.f103.results.toList (Go.Proofs.Tryd.f103.body.getD .skip) s_sIdxQ x = ((∀ (y : Unit), True → True ∧ True ∧ True ∧ True) ∧ ∃ (x_1 : List UInt8), True ∧ x = x_1 ∧ (39 : Int) = (39 : Int) ∧ ∀ (y : Unit), True → ∃ (y : Unit), True ∧ idxI x_1 (39 : UInt8) = idxI x (39 : UInt8) ∧ True) := by kernel_rfl
theorem sIdxQ_ok  : Contract G Tryd.prog 103 s_sIdxQ :=
  vcFun_ok (Γ := Γof [(107, 0, s_idxQ)]) (E := Eof []) (ov := false) (L := fun x => Lof ([])) Tryd.func103 rfl (by decide) (Γof_ok (l := [(107, 0, s_idxQ)]) ⟨idxQ_ok, trivial⟩) fun (x : List UInt8) (hx : True) => (sIdxQ_vc  x).mpr (by
  (repeat' first | with_reducible rfl | exact True.intro | refine inR_i64 ?_ ?_ | with_reducible refine And.intro ?_ ?_ | with_reducible refine bcase_dec (fun _ => ?_) (fun _ => ?_) | with_reducible refine bcase_bne (fun _ => ?_) (fun _ => ?_) | with_reducible refine bcase_beq (fun _ => ?_) (fun _ => ?_) | with_reducible refine bcase_not (fun _ => ?_) (fun _ => ?_) | refine bcase_intro (fun _ => ?_) (fun _ => ?_) | refine sl_eq ?_ | refine ex_flip () ?_ ?_ | (apply ex_flip6 <;> try dsimp only) | (apply ex_flip5 <;> try dsimp only) | (apply ex_flip4 <;> try dsimp only) | (apply ex_flip3 <;> try dsimp only) | (apply ex_flip2 <;> try dsimp only) | apply ex_flip | (refine Prod.forall.2 ?_; intro _; try dsimp only) | (intro _; try dsimp only)) <;> (try dsimp only at *) <;> (try simp only [i64max, List.length_cons, List.length_nil]) <;> (try omega))

def s_slIdx  : Sig := { X := List UInt8 × List UInt8, args := fun x => [.str x.1, .str x.2], pre := fun x => x.2.length = 1, Y := Unit, post := fun x y => True, res := fun x y => .int .i64 (idxI x.1 (x.2.headD 0)), outs := fun x y => [.top, .top], keep := false }
theorem slIdx_vc (x : List UInt8 × List UInt8) : vcFun Go.Proofs.Tryd.prog (Γof [(107, 0, s_idxB)]) (Eof []) false (Lof ([])) Go.Proofs.Tryd.f117.ntmps Go.Proofs.Tryd.f117.results.toList (Go.Proofs.Tryd.f117.body.getD .skip) s_slIdx x = ((∀ (y : Unit), True → True ∧ True ∧ True ∧ True) ∧ bcase ((↑(List.length x.snd) : Int) == (0 : Int)) (∃ (y : Unit), True ∧ (0 : Int) = idxI x.fst (List.headD x.snd (0 : UInt8)) ∧ True) (bcase (x.snd == x.fst) (∃ (y : Unit), True ∧ (0 : Int) = idxI x.fst (List.headD x.snd (0 : UInt8)) ∧ True) (bcase ((↑(List.length x.snd) : Int) == (1 : Int)) (((0 : Int) ≤ (0 : Int) ∧ (0 : Int) < (↑(List.length x.snd) : Int)) ∧ ∀ (c : UInt8), x.snd[(0 : Nat)]? = some c → ∃ (x_1 : List UInt8 × UInt8), True ∧ x.fst = x_1.fst ∧ (↑(UInt8.toNat c) : Int) = (↑(UInt8.toNat x_1.snd) : Int) ∧ ∀ (y : Unit), True → ∃ (y : Unit), True ∧ idxI x_1.fst x_1.snd = idxI x.fst (List.headD x.snd (0 : UInt8)) ∧ True) (bcase (decide ((↑(List.length x.snd) : Int) ≥ (↑(List.length x.fst) : Int))) (∃ (y : Unit), True ∧ (-1 : Int) = idxI x.fst (List.headD x.snd (0 : UInt8)) ∧ True) False)))) := by kernel_rfl
theorem slIdx_ok  : Contract G Tryd.prog 117 s_slIdx :=
  vcFun_ok (Γ := Γof [(107, 0, s_idxB)]) (E := Eof []) (ov := false) (L := fun x => Lof ([])) Tryd.func117 rfl (by decide) (Γof_ok (l := [(107, 0, s_idxB)]) ⟨idxB_ok, trivial⟩) fun (x : List UInt8 × List UInt8) (hx : x.2.length = 1) => (slIdx_vc  x).mpr (by
  (repeat' first | with_reducible rfl | exact True.intro | refine inR_i64 ?_ ?_ | with_reducible refine And.intro ?_ ?_ | with_reducible refine bcase_dec (fun _ => ?_) (fun _ => ?_) | with_reducible refine bcase_bne (fun _ => ?_) (fun _ => ?_) | with_reducible refine bcase_beq (fun _ => ?_) (fun _ => ?_) | with_reducible refine bcase_not (fun _ => ?_) (fun _ => ?_) | refine bcase_intro (fun _ => ?_) (fun _ => ?_) | refine sl_eq ?_ | refine ex_flip () ?_ ?_ | (apply ex_flip6 <;> try dsimp only) | (apply ex_flip5 <;> try dsimp only) | (apply ex_flip4 <;> try dsimp only) | (apply ex_flip3 <;> try dsimp only) | (apply ex_flip2 <;> try dsimp only) | apply ex_flip | (refine Prod.forall.2 ?_; intro _; try dsimp only) | (intro _; try dsimp only)) <;> (try dsimp only at *) <;> (try simp only [i64max, List.length_cons, List.length_nil]) <;> (try omega)
  · rename_i _ h; rw [← h]; match x.2, hx with
    | [c], _ => simp [idxI, idxOf]
  · rename_i c hc _ _
    match x.2, hx, hc with
    | [d], _, hc => simp at hc; rw [← hc]; rfl)

def s_sIdx  : Sig := { X := List UInt8 × List UInt8, args := fun x => [.str x.1, .str x.2], pre := fun x => x.2.length = 1, Y := Unit, post := fun x y => True, res := fun x y => .int .i64 (idxI x.1 (x.2.headD 0)), outs := fun x y => [.top, .top], keep := false }
theorem sIdx_vc (x : List UInt8 × List UInt8) : vcFun Go.Proofs.Tryd.prog (Γof [(117, 0, s_slIdx)]) (Eof []) false (Lof ([])) Go.Proofs.Tryd.f112.ntmps Go.Proofs.Tryd.f112.results.toList (Go.Proofs.Tryd.f112.body.getD .skip) s_sIdx x = ((∀ (y : Unit), True → True ∧ True ∧ True ∧ True) ∧ ∃ (x_1 : List UInt8 × List UInt8), List.length x_1.snd = (1 : Nat) ∧ x.fst = x_1.fst ∧ x.snd = x_1.snd ∧ ∀ (y : Unit), True → ∃ (y : Unit), True ∧ idxI x_1.fst (List.headD x_1.snd (0 : UInt8)) = idxI x.fst (List.headD x.snd (0 : UInt8)) ∧ True) := by kernel_rfl
theorem sIdx_ok  : Contract G Tryd.prog 112 s_sIdx :=
  vcFun_ok (Γ := Γof [(117, 0, s_slIdx)]) (E := Eof []) (ov := false) (L := fun x => Lof ([])) Tryd.func112 rfl (by decide) (Γof_ok (l := [(117, 0, s_slIdx)]) ⟨slIdx_ok, trivial⟩) fun (x : List UInt8 × List UInt8) (hx : x.2.length = 1) => (sIdx_vc  x).mpr (by
  (repeat' first | with_reducible rfl | exact True.intro | refine inR_i64 ?_ ?_ | with_reducible refine And.intro ?_ ?_ | with_reducible refine bcase_dec (fun _ => ?_) (fun _ => ?_) | with_reducible refine bcase_bne (fun _ => ?_) (fun _ => ?_) | with_reducible refine bcase_beq (fun _ => ?_) (fun _ => ?_) | with_reducible refine bcase_not (fun _ => ?_) (fun _ => ?_) | refine bcase_intro (fun _ => ?_) (fun _ => ?_) | refine sl_eq ?_ | refine ex_flip () ?_ ?_ | (apply ex_flip6 <;> try dsimp only) | (apply ex_flip5 <;> try dsimp only) | (apply ex_flip4 <;> try dsimp only) | (apply ex_flip3 <;> try dsimp only) | (apply ex_flip2 <;> try dsimp only) | apply ex_flip | (refine Prod.forall.2 ?_; intro _; try dsimp only) | (intro _; try dsimp only)) <;> (try dsimp only at *) <;> (try simp only [i64max, List.length_cons, List.length_nil]) <;> (try omega))

def s_sHas  : Sig := { X := List UInt8 × List UInt8, args := fun x => [.str x.1, .str x.2], pre := fun x => x.2.length = 1, Y := Unit, post := fun x y => True, res := fun x y => .bool (decide (idxI x.1 (x.2.headD 0) ≥ 0)), outs := fun x y => [.top, .top], keep := false }
theorem sHas_vc (x : List UInt8 × List UInt8) : vcFun Go.Proofs.Tryd.prog (Γof [(112, 0, s_sIdx)]) (Eof []) false (Lof ([])) Go.Proofs.Tryd.f106.ntmps Go.Proofs.Tryd.f106.results.toList (Go.Proofs.Tryd.f106.body.getD .skip) s_sHas x = ((∀ (y : Unit), True → True ∧ True ∧ True ∧ True) ∧ ∃ (x_1 : List UInt8 × List UInt8), List.length x_1.snd = (1 : Nat) ∧ x.fst = x_1.fst ∧ x.snd = x_1.snd ∧ ∀ (y : Unit), True → ∃ (y : Unit), True ∧ decide (idxI x_1.fst (List.headD x_1.snd (0 : UInt8)) ≥ (0 : Int)) = decide (idxI x.fst (List.headD x.snd (0 : UInt8)) ≥ (0 : Int)) ∧ True) := by kernel_rfl
theorem sHas_ok  : Contract G Tryd.prog 106 s_sHas :=
  vcFun_ok (Γ := Γof [(112, 0, s_sIdx)]) (E := Eof []) (ov := false) (L := fun x => Lof ([])) Tryd.func106 rfl (by decide) (Γof_ok (l := [(112, 0, s_sIdx)]) ⟨sIdx_ok, trivial⟩) fun (x : List UInt8 × List UInt8) (hx : x.2.length = 1) => (sHas_vc  x).mpr (by
  (repeat' first | with_reducible rfl | exact True.intro | refine inR_i64 ?_ ?_ | with_reducible refine And.intro ?_ ?_ | with_reducible refine bcase_dec (fun _ => ?_) (fun _ => ?_) | with_reducible refine bcase_bne (fun _ => ?_) (fun _ => ?_) | with_reducible refine bcase_beq (fun _ => ?_) (fun _ => ?_) | with_reducible refine bcase_not (fun _ => ?_) (fun _ => ?_) | refine bcase_intro (fun _ => ?_) (fun _ => ?_) | refine sl_eq ?_ | refine ex_flip () ?_ ?_ | (apply ex_flip6 <;> try dsimp only) | (apply ex_flip5 <;> try dsimp only) | (apply ex_flip4 <;> try dsimp only) | (apply ex_flip3 <;> try dsimp only) | (apply ex_flip2 <;> try dsimp only) | apply ex_flip | (refine Prod.forall.2 ?_; intro _; try dsimp only) | (intro _; try dsimp only)) <;> (try dsimp only at *) <;> (try simp only [i64max, List.length_cons, List.length_nil]) <;> (try omega))

def s_slPre  : Sig := { X := List UInt8 × List UInt8, args := fun x => [.str x.1, .str x.2], pre := fun x => x.2.length < 2 ^ 62 ∧ x.1.length < 2 ^ 63, Y := Unit, post := fun x y => True, res := fun x y => .bool (x.1.take x.2.length == x.2), outs := fun x y => [.top, .top], keep := false }
theorem slPre_vc (x : List UInt8 × List UInt8) : vcFun Go.Proofs.Tryd.prog (Γof []) (Eof []) false (Lof ([])) Go.Proofs.Tryd.f104.ntmps Go.Proofs.Tryd.f104.results.toList (Go.Proofs.Tryd.f104.body.getD .skip) s_slPre x = ((∀ (y : Unit), True → True ∧ True ∧ True ∧ True) ∧ bcase (decide ((↑(List.length x.fst) : Int) ≥ (↑(List.length x.snd) : Int))) (((0 : Int) ≤ (0 : Int) ∧ (0 : Int) ≤ (↑(List.length x.snd) : Int) ∧ (↑(List.length x.snd) : Int) ≤ (↑(List.length x.fst) : Int)) ∧ ∃ (y : Unit), True ∧ (List.take (Int.toNat (↑(List.length x.snd) : Int)) x.fst == x.snd) = (List.take (List.length x.snd) x.fst == x.snd) ∧ True) (∃ (y : Unit), True ∧ false = (List.take (List.length x.snd) x.fst == x.snd) ∧ True)) := by kernel_rfl
theorem slPre_ok  : Contract G Tryd.prog 104 s_slPre :=
  vcFun_ok (Γ := Γof []) (E := Eof []) (ov := false) (L := fun x => Lof ([])) Tryd.func104 rfl (by decide) (Γof_ok (l := []) trivial) fun (x : List UInt8 × List UInt8) (hx : x.2.length < 2 ^ 62 ∧ x.1.length < 2 ^ 63) => (slPre_vc  x).mpr (by
  obtain ⟨h1, h2⟩ := hx
  (repeat' first | with_reducible rfl | exact True.intro | refine inR_i64 ?_ ?_ | with_reducible refine And.intro ?_ ?_ | with_reducible refine bcase_dec (fun _ => ?_) (fun _ => ?_) | with_reducible refine bcase_bne (fun _ => ?_) (fun _ => ?_) | with_reducible refine bcase_beq (fun _ => ?_) (fun _ => ?_) | with_reducible refine bcase_not (fun _ => ?_) (fun _ => ?_) | refine bcase_intro (fun _ => ?_) (fun _ => ?_) | refine sl_eq ?_ | refine ex_flip () ?_ ?_ | (apply ex_flip6 <;> try dsimp only) | (apply ex_flip5 <;> try dsimp only) | (apply ex_flip4 <;> try dsimp only) | (apply ex_flip3 <;> try dsimp only) | (apply ex_flip2 <;> try dsimp only) | apply ex_flip | (refine Prod.forall.2 ?_; intro _; try dsimp only) | (intro _; try dsimp only)) <;> (try dsimp only at *) <;> (try simp only [i64max, List.length_cons, List.length_nil]) <;> (try omega)
  · simp
  · rename_i h; rw [eq_comm, beq_eq_false_iff_ne]; intro e; have := congrArg List.length e; simp at this; omega)

def s_sPre  : Sig := { X := List UInt8 × List UInt8, args := fun x => [.str x.1, .str x.2], pre := fun x => x.2.length < 2 ^ 62 ∧ x.1.length < 2 ^ 63, Y := Unit, post := fun x y => True, res := fun x y => .bool (x.1.take x.2.length == x.2), outs := fun x y => [.top, .top], keep := false }
theorem sPre_vc (x : List UInt8 × List UInt8) : vcFun Go.Proofs.Tryd.prog (Γof [(104, 0, s_slPre)]) (Eof []) false (Lof ([])) Go.Proofs.Tryd.f98.ntmps Go.Proofs.Tryd.f98.results.toList (Go.Proofs.Tryd.f98.body.getD .skip) s_sPre x = ((∀ (y : Unit), True → True ∧ True ∧ True ∧ True) ∧ ∃ (x_1 : List UInt8 × List UInt8), (List.length x_1.snd < (4611686018427387904 : Nat) ∧ List.length x_1.fst < (9223372036854775808 : Nat)) ∧ x.fst = x_1.fst ∧ x.snd = x_1.snd ∧ ∀ (y : Unit), True → ∃ (y : Unit), True ∧ (List.take (List.length x_1.snd) x_1.fst == x_1.snd) = (List.take (List.length x.snd) x.fst == x.snd) ∧ True) := by kernel_rfl
theorem sPre_ok  : Contract G Tryd.prog 98 s_sPre :=
  vcFun_ok (Γ := Γof [(104, 0, s_slPre)]) (E := Eof []) (ov := false) (L := fun x => Lof ([])) Tryd.func98 rfl (by decide) (Γof_ok (l := [(104, 0, s_slPre)]) ⟨slPre_ok, trivial⟩) fun (x : List UInt8 × List UInt8) (hx : x.2.length < 2 ^ 62 ∧ x.1.length < 2 ^ 63) => (sPre_vc  x).mpr (by
  obtain ⟨h1, h2⟩ := hx
  (repeat' first | with_reducible rfl | exact True.intro | refine inR_i64 ?_ ?_ | with_reducible refine And.intro ?_ ?_ | with_reducible refine bcase_dec (fun _ => ?_) (fun _ => ?_) | with_reducible refine bcase_bne (fun _ => ?_) (fun _ => ?_) | with_reducible refine bcase_beq (fun _ => ?_) (fun _ => ?_) | with_reducible refine bcase_not (fun _ => ?_) (fun _ => ?_) | refine bcase_intro (fun _ => ?_) (fun _ => ?_) | refine sl_eq ?_ | refine ex_flip () ?_ ?_ | (apply ex_flip6 <;> try dsimp only) | (apply ex_flip5 <;> try dsimp only) | (apply ex_flip4 <;> try dsimp only) | (apply ex_flip3 <;> try dsimp only) | (apply ex_flip2 <;> try dsimp only) | apply ex_flip | (refine Prod.forall.2 ?_; intro _; try dsimp only) | (intro _; try dsimp only)) <;> (try dsimp only at *) <;> (try simp only [i64max, List.length_cons, List.length_nil]) <;> (try omega))

end Go.My
end
