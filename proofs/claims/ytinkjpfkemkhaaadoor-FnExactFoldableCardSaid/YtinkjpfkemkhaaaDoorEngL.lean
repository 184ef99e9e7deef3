/- A call by its contract. -/
import Derived.Test.YtinkjpfkemkhaaaDoorEngK
set_option linter.unusedVariables false
set_option linter.unusedSimpArgs false
namespace Go.Eng

def vcCallF (S : Sig) (s : St) (dst : Option Nat) (args : List AV) (K : St → Prop) : Prop :=
  ∃ x : S.X, S.pre x ∧ handL false ((S.args x).map movedE) s.regs args fun r1 =>
    handL (!S.keep) ((S.args x).map lentE) r1 args fun r2 =>
      ∀ y, S.post x y → match plugOuts r2 s.nx args (S.outs x y) with
        | some (r3, n3) => K ⟨setR r3 dst (stamp n3 (S.res x y)).1, (stamp n3 (S.res x y)).2⟩
        | none => False

theorem vcCallF_ok {P : Program} {f : FuncId} {S : Sig} (hc : Contract P f S) {s : St} {dst : Option Nat} {args : List AV} {K : St → Prop} (h : vcCallF S s dst args K)
    {C : Ctx} {a : Act} {w : World} {η : Nat → Value} {Z T : FP} (hi : Inst C s a w η Z T) {us : List Value} (ha : relSL Z η w args us (fun _ => False)) (hai : idsBL s.nx args) :
    Calls P f us.toArray w fun e w' => ∃ v s', e = .returned v ∧ K s' ∧ Rel C s' (a.put dst v) w' := by
  obtain ⟨x, hpre, h⟩ := h
  obtain ⟨Z1, A1, B1, r1, h1⟩ := handL_ok _ s.regs args _ h Z a.tmps.toList us T (fun _ => False) T hi.rel hi.ids ha hai (join_emp_left T)
  have ha1 := relSL_mono (zmono (w := w) h1.zz) (fun _ _ => rfl) _ _ _ hai (fun _ _ => rfl) ha
  obtain ⟨Z2, A2, B2, r2, h2⟩ := handL_ok _ r1 args _ h1.k Z1 a.tmps.toList us B1 (fun _ => False) B1 h1.rel h1.ids ha1 hai (join_emp_left B1)
  have h12 := rel0L_mono (zmono (w := w) h2.zz) _ _ _ (fun _ _ => rfl) h1.got
  have hTZ : ∀ b, T b → Z b := fun b hb => (hi.own b hb).1
  have hA1T : ∀ b, A1 b → T b := fun b hb => h1.part b (.inl hb)
  have hB1T : ∀ b, B1 b → T b := fun b hb => h1.part b (.inr hb)
  have hA2B : ∀ b, A2 b → B1 b := fun b hb => h2.part b (.inl hb)
  have hB2B : ∀ b, B2 b → B1 b := fun b hb => h2.part b (.inr hb)
  have hB1Z : ∀ b, B1 b → Z1 b := fun b hb => h1.ownB rfl b hb (hTZ b (hB1T b hb))
  have hA1Z1 : ∀ b, A1 b → Z1 b := fun b hb => h1.ownA b hb (hTZ b (hA1T b hb))
  have hA1Z : ∀ b, A1 b → Z2 b := fun b hb => Classical.byContradiction fun hn => h1.dis b hb (h2.gone b (hA1Z1 b hb) hn)
  have hA2Z : ∀ b, A2 b → Z2 b := fun b hb => h2.ownA b hb (hB1Z b (hA2B b hb))
  have hjA : join (fun b => A1 b ∨ A2 b) A1 A2 := ⟨fun _ => Iff.rfl, fun b x y => h1.dis b x (hA2B b y)⟩
  have hargs := merge_rel _ _ _ _ _ h12 h2.got hjA
  have hAZ : ∀ b, A1 b ∨ A2 b → Z2 b ∧ b < w.heap.size := fun b hb =>
    ⟨hb.elim (hA1Z b) (hA2Z b), (hi.own b (hb.elim (hA1T b) (fun h => hB1T b (hA2B b h)))).2.1⟩
  refine (hc.2 x hpre Z2 w us _ hargs hAZ).mono ?_
  rintro e w' ⟨y, v, Z', A', hpost, rfl, hres, haft⟩
  have hk := h2.k y hpost; have hkeep := hc.1.2 x y hpre hpost
  -- which slots go on, and at which view
  obtain ⟨Zr, B, hrB, hrI, hZr, hBA, hBT, hBB⟩ : ∃ Zr B, relSL Zr η w r2 a.tmps.toList B ∧ idsBL s.nx r2 ∧ (∀ b, ¬ Zr b → b < w.heap.size → ¬ (A1 b ∨ A2 b) ∧ ¬ B b ∧ ¬ Z2 b) ∧
      (∀ b, B b → ¬ (A1 b ∨ A2 b)) ∧ (∀ b, B b → T b) ∧ (S.keep = true → ∀ b, B b → Z2 b) := by
    rcases Bool.eq_false_or_eq_true S.keep with hk | hk
    · refine ⟨Z2, B2, h2.rel, h2.ids, fun b hz hb => ⟨fun x => hz (hAZ b x).1, fun x => ?_, hz⟩, fun b hb x => ?_, fun b hb => hB1T b (hB2B b hb), fun _ b hb => ?_⟩
      · exact hz (h2.ownB (by simp [hk]) b x (hB1Z b (hB2B b x)))
      · exact x.elim (fun x => h1.dis b x (hB2B b hb)) (fun x => h2.dis b x hb)
      · exact h2.ownB (by simp [hk]) b hb (hB1Z b (hB2B b hb))
    · have hfix := h2.fix (by simp [hk])
      have hA2e : ∀ b, ¬ A2 b := fun b hb => h2.stay (by simp [hk]) b hb
      refine ⟨Z1, B1, by rw [hfix]; exact h1.rel, h2.ids, fun b hz hb => ⟨fun x => hz (h2.zz b (hAZ b x).1), fun x => hz (hB1Z b x), fun x => hz (h2.zz b x)⟩, fun b hb x => ?_, hB1T, fun hh => ?_⟩
      · exact x.elim (fun x => h1.dis b x hb) (hA2e b)
      · rw [hk] at hh; cases hh
  -- the view behind the call
  let Zc : FP := fun b => Z' b ∨ B b
  have hold : ∀ b, b < w.heap.size → ¬ (A1 b ∨ A2 b) → w'.heap[b]? = w.heap[b]? ∧ (Z' b ↔ Z2 b) := haft.old
  have hr2 : relSL Zc η w' r2 a.tmps.toList B := by
    refine relSL_mono (n := s.nx) (fun b hz hb => ?_) (fun _ _ => rfl) _ _ _ hrI (fun b hb => ?_) hrB
    · obtain ⟨g1, g2, g3⟩ := hZr b hz hb
      obtain ⟨g4, g5⟩ := hold b hb g1
      exact ⟨fun x => x.elim (fun x => g3 (g5.1 x)) g2, g4⟩
    · exact (hold b (hi.own b (hBT b hb)).2.1 (hBA b hb)).1
  have hargs' : relSL Zc η w' args us (fun _ => False) := by
    refine relSL_mono (n := s.nx) (fun b hz hb => ?_) (fun _ _ => rfl) _ _ _ hai (fun b hb => hb.elim) ha
    have g1 : ¬ (A1 b ∨ A2 b) := fun x => hz (h1.zz b (h2.zz b (hAZ b x).1))
    obtain ⟨g4, g5⟩ := hold b hb g1
    exact ⟨fun x => x.elim (fun x => hz (h1.zz b (h2.zz b (g5.1 x)))) (fun x => hz (hTZ b (hBT b x))), g4⟩
  have hres' : rel0L Zc w' (S.res x y :: S.outs x y) (v :: us) A' := by
    rcases Bool.eq_false_or_eq_true S.keep with hk | hk
    · refine rel0L_mono (fun b hz hb => ⟨fun x => x.elim hz (fun x => hz ?_), rfl⟩) _ _ _ (fun _ _ => rfl) hres
      exact (hold b (hi.own b (hBT b x)).2.1 (hBA b x)).2.2 (hBB hk b x)
    · rw [hk] at hkeep
      exact cleanL_rel _ _ _ hkeep hres
  have hA'own := haft.own
  simp only [rel0L] at hres'
  obtain ⟨v', us', Ar, Ao, e1, hjr, hr1, hr3⟩ := hres'
  simp only [List.cons.injEq] at e1
  obtain ⟨rfl, rfl⟩ := e1
  have hBA' : ∀ b, B b → ¬ A' b := fun b hb x => hBA b hb ((hA'own b x).2.2 (hi.own b (hBT b hb)).2.1)
  split at hk
  · rename_i r3 n3 hpl
    obtain ⟨p1, p2, η1, p3, p4⟩ := plugOuts_ok args _ r2 s.nx r3 n3 hpl η a.tmps.toList us B Ao (fun b => Ao b ∨ B b) hr2 hrI hargs' hai hr3
      ⟨fun _ => Iff.rfl, fun b x y => hBA' b y ((hjr.1 b).2 (.inr x))⟩
    obtain ⟨q1, q2, η2, q3, q4⟩ := stamp_ok (S.res x y) n3 v Ar η1 hr1
    have hv := q4 η2 (fun _ _ => rfl)
    have p5 := relSL_mono (n := n3) (Z' := Zc) (w' := w') (fun b hb _ => ⟨hb, rfl⟩) q3 _ _ _ p2 (fun _ _ => rfl) p4
    refine ⟨v, _, rfl, hk, ?_⟩
    obtain ⟨S', hS', hfin⟩ : ∃ S', (∀ b, S' b → A' b ∨ B b) ∧ relSL Zc η2 w' (setR r3 dst (stamp n3 (S.res x y)).1) (a.put dst v).tmps.toList S' := by
      cases dst with
      | none => exact ⟨_, fun b hb => hb.elim (fun h => .inl ((hjr.1 b).2 (.inr h))) .inr, p5⟩
      | some d =>
        rw [put_toList]
        simp only [setR]
        rcases Nat.lt_or_ge d r3.length with hd | hd
        · obtain ⟨S', hs, hr⟩ := relSL_put_own p5 hd hv (fun b x y => y.elim (fun y => hjr.2 b x y) (fun y => hBA' b y ((hjr.1 b).2 (.inl x))))
          exact ⟨S', fun b hb => (hs b hb).elim (fun h => h.elim (fun h => .inl ((hjr.1 b).2 (.inr h))) .inr) (fun h => .inl ((hjr.1 b).2 (.inl h))), hr⟩
        · rw [List.set_eq_of_length_le hd, List.set_eq_of_length_le (by rw [relSL_len _ _ _ p5]; exact hd)]
          exact ⟨_, fun b hb => hb.elim (fun h => .inl ((hjr.1 b).2 (.inr h))) .inr, p5⟩
    refine ⟨η2, Zc, S', ⟨by rw [put_defers]; exact hi.defers, hfin, ?_, fun b hb => ?_, ?_⟩⟩
    · cases dst with
      | none => exact idsBL_le q1 _ p2
      | some d => exact idsBL_set _ _ _ (idsBL_le q1 _ p2) q2
    · rcases hS' b hb with hb | hb
      · obtain ⟨g1, g2, g3⟩ := hA'own b hb
        refine ⟨.inl g1, g2, fun h0 => ?_⟩
        have hTb : T b := (g3 (Nat.lt_of_lt_of_le h0 hi.ok.size)).elim (hA1T b) (fun h => hB1T b (hA2B b h))
        exact (hi.own b hTb).2.2 h0
      · exact ⟨.inr hb, Nat.lt_of_lt_of_le (hi.own b (hBT b hb)).2.1 haft.size, fun h0 => (hi.own b (hBT b hb)).2.2 h0⟩
    · refine ⟨haft.os.trans hi.ok.os, haft.tape.trans hi.ok.tape, haft.output.trans hi.ok.output, Nat.le_trans hi.ok.size haft.size, fun b h0 hs => ?_⟩
      have hnT : ¬ T b := fun x => hs ((hi.own b x).2.2 h0)
      have hnA : ¬ (A1 b ∨ A2 b) := fun x => hnT (x.elim (hA1T b) (fun h => hB1T b (hA2B b h)))
      obtain ⟨g1, g2⟩ := hold b (Nat.lt_of_lt_of_le h0 hi.ok.size) hnA
      obtain ⟨g3, g4⟩ := hi.ok.old b h0 hs
      refine ⟨g1.trans g3, ⟨fun x => ?_, fun x => ?_⟩⟩
      · rcases x with x | x
        · exact g4.1 (h1.zz b (h2.zz b (g2.1 x)))
        · exact (hnT (hBT b x)).elim
      · refine .inl (g2.2 ?_)
        have z0 := g4.2 x
        have z1 : Z1 b := Classical.byContradiction fun hn => hnT (h1.gone b z0 hn)
        exact Classical.byContradiction fun hn => hnT (hB1T b (h2.gone b z1 hn))
  · exact hk.elim

end Go.Eng
