/- The hand-over keeps what is said. -/
import Derived.Test.YtinkjpfkemkhaaaDoorEngI
set_option linter.unusedVariables false
set_option linter.unusedSimpArgs false
namespace Go.Eng

structure HOut (bw : Bool) (Z : FP) (η : Nat → Value) (w : World) (n : Nat) (vs : List Value) (S A : FP) (R : FP → FP → Prop) (K : List AV → Prop) (regs0 : List AV)
    (Z' A' B' : FP) (regs' : List AV) : Prop where
  rel : relSL Z' η w regs' vs B'
  ids : idsBL n regs'
  got : R Z' A'
  zz : ∀ b, Z' b → Z b
  gone : ∀ b, Z b → ¬ Z' b → S b
  part : ∀ b, A' b ∨ B' b → S b
  dis : ∀ b, A' b → B' b → False
  ownA : ∀ b, A' b → Z b → Z' b
  ownB : bw = false → ∀ b, B' b → Z b → Z' b
  stay : bw = true → ∀ b, A' b → A b
  fix : bw = true → regs' = regs0
  k : K regs'

theorem zmono {Z Z' : FP} {w : World} (h : ∀ b, Z' b → Z b) : ∀ b, ¬ Z b → b < w.heap.size → ¬ Z' b ∧ w.heap[b]? = w.heap[b]? := fun b hb _ => ⟨fun x => hb (h b x), rfl⟩

/- nothing moves -/
theorem HOut.same {bw : Bool} {Z : FP} {η : Nat → Value} {w : World} {n : Nat} {vs : List Value} {S A B : FP} {R : FP → FP → Prop} {K : List AV → Prop} {regs : List AV}
    (hj : join S A B) (hR : relSL Z η w regs vs B) (hI : idsBL n regs) {A' : FP} (hA : ∀ b, A' b → A b) (hr : R Z A') (k : K regs) : HOut bw Z η w n vs S A R K regs Z A' B regs :=
  ⟨hR, hI, hr, fun _ h => h, fun _ h h' => (h' h).elim, fun b h => (hj.1 b).2 (h.imp (hA b) id), fun b x y => hj.2 b (hA b x) y, fun _ _ h => h, fun _ _ _ h => h, fun _ => hA, fun _ => rfl, k⟩

theorem frz_self {Z : FP} {η : Nat → Value} {w : World} {own : Bool} {id sz : Nat} {α : Type} {f : α → List AV} {xs : List α} {v : Value} {A : FP} {i : Nat} {own' : Bool}
    (h : relS Z η w (.sl own i sz α f xs) v A) :
    rel0 (fun b => Z b ∧ ¬ A b) w (.sl false 0 sz α (fun x => fzL (f x)) xs) v (fun _ => False) := by
  simp only [relS] at h
  have := fz_rel (Z := Z) (Z' := fun b => Z b ∧ ¬ A b) (fun b hb x => hb x.1) _ _ _ (fun b hb x => x.2 hb) h.2
  simpa only [fz] using this

mutual
theorem hand1_ok {bw : Bool} {η : Nat → Value} {w : World} {n : Nat} : ∀ (e : AV) (regs : List AV) (a : AV) (K : List AV → Prop), hand1 bw e regs a K →
    ∀ (Z : FP) (vs : List Value) (v : Value) (B A S : FP), relSL Z η w regs vs B → idsBL n regs → relS Z η w a v A → idsB n a → join S A B →
    ∃ Z' A' B' regs', HOut bw Z η w n vs S A (fun Z' A' => rel0 Z' w e v A') K regs Z' A' B' regs'
  | .int k m, regs, a, K, h, Z, vs, v, B, A, S, hR, hI, ha, hai, hj => by
    unfold hand1 at h; split at h
    · rename_i k' m'
      split at h
      · rename_i hk; have hk := ikEq_eq hk; subst hk
        obtain ⟨rfl, h⟩ := h
        exact ⟨_, _, _, _, HOut.same hj hR hI (fun _ h => h) (by simpa only [relS] using ha) h⟩
      · exact h.elim
    · exact h.elim
  | .bool b, regs, a, K, h, Z, vs, v, B, A, S, hR, hI, ha, hai, hj => by
    unfold hand1 at h; split at h
    · obtain ⟨rfl, h⟩ := h
      exact ⟨_, _, _, _, HOut.same hj hR hI (fun _ h => h) (by simpa only [relS] using ha) h⟩
    · exact h.elim
  | .str l, regs, a, K, h, Z, vs, v, B, A, S, hR, hI, ha, hai, hj => by
    unfold hand1 at h; split at h
    · obtain ⟨rfl, h⟩ := h
      exact ⟨_, _, _, _, HOut.same hj hR hI (fun _ h => h) (by simpa only [relS] using ha) h⟩
    · exact h.elim
  | .val x, regs, a, K, h, Z, vs, v, B, A, S, hR, hI, ha, hai, hj => by
    unfold hand1 at h; split at h
    · obtain ⟨rfl, h⟩ := h
      exact ⟨_, _, _, _, HOut.same hj hR hI (fun _ h => h) (by simpa only [relS] using ha) h⟩
    · exact h.elim
  | .nil, regs, a, K, h, Z, vs, v, B, A, S, hR, hI, ha, hai, hj => by
    unfold hand1 at h; split at h
    · exact ⟨_, _, _, _, HOut.same hj hR hI (fun _ h => h) (by simpa only [relS] using ha) h⟩
    · exact h.elim
  | .any, regs, a, K, h, Z, vs, v, B, A, S, hR, hI, ha, hai, hj => by
    unfold hand1 at h; split at h
    · rename_i hl
      refine ⟨_, _, _, _, HOut.same hj hR hI (A' := fun _ => False) (fun _ h => h.elim) ?_ h⟩
      simp only [rel0]; exact ⟨leaf_cell ha hl, emp_false⟩
    · exact h.elim
  | .top, regs, a, K, h, Z, vs, v, B, A, S, hR, hI, ha, hai, hj => by
    unfold hand1 at h
    refine ⟨_, _, _, _, HOut.same hj hR hI (A' := fun _ => False) (fun _ h => h.elim) ?_ h⟩
    simp only [rel0]; exact emp_false
  | .agg es, regs, a, K, h, Z, vs, v, B, A, S, hR, hI, ha, hai, hj => by
    unfold hand1 at h; split at h
    · rename_i as
      simp only [relS] at ha
      simp only [idsB] at hai
      obtain ⟨cs, e, ha⟩ := ha
      obtain ⟨Z', A', B', regs', ho⟩ := handL_ok es regs as K h Z vs cs B A S hR hI ha hai hj
      exact ⟨Z', A', B', regs', ⟨ho.rel, ho.ids, by simp only [rel0]; exact ⟨cs, e, ho.got⟩, ho.zz, ho.gone, ho.part, ho.dis, ho.ownA, ho.ownB, ho.stay, ho.fix, ho.k⟩⟩
    · exact h.elim
  | .tup es, regs, a, K, h, Z, vs, v, B, A, S, hR, hI, ha, hai, hj => by
    unfold hand1 at h; split at h
    · rename_i as
      simp only [relS] at ha
      simp only [idsB] at hai
      obtain ⟨cs, e, ha⟩ := ha
      obtain ⟨Z', A', B', regs', ho⟩ := handL_ok es regs as K h Z vs cs B A S hR hI ha hai hj
      exact ⟨Z', A', B', regs', ⟨ho.rel, ho.ids, by simp only [rel0]; exact ⟨cs, e, ho.got⟩, ho.zz, ho.gone, ho.part, ho.dis, ho.ownA, ho.ownB, ho.stay, ho.fix, ho.k⟩⟩
    · exact h.elim
  | .clo fn es, regs, a, K, h, Z, vs, v, B, A, S, hR, hI, ha, hai, hj => by
    unfold hand1 at h; split at h
    · rename_i fn' as
      split at h
      rotate_left
      · exact h.elim
      rename_i hfe
      obtain rfl := fnEq_eq hfe
      simp only [relS] at ha
      simp only [idsB] at hai
      obtain ⟨cs, e, ha⟩ := ha
      obtain ⟨Z', A', B', regs', ho⟩ := handL_ok es regs as K h Z vs cs B A S hR hI ha hai hj
      exact ⟨Z', A', B', regs', ⟨ho.rel, ho.ids, by simp only [rel0]; exact ⟨cs, e, ho.got⟩, ho.zz, ho.gone, ho.part, ho.dis, ho.ownA, ho.ownB, ho.stay, ho.fix, ho.k⟩⟩
    · exact h.elim
  | .pf c, regs, a, K, h, Z, vs, v, B, A, S, hR, hI, ha, hai, hj => by
    unfold hand1 at h; split at h
    · obtain ⟨he, h⟩ := h
      rw [he] at ha
      exact ⟨_, _, _, _, HOut.same hj hR hI (fun _ h => h) (by simpa only [relS] using ha) h⟩
    · exact h.elim
  | .box j c, regs, a, K, h, Z, vs, v, B, A, S, hR, hI, ha, hai, hj => by
    have core : ∀ (regs : List AV) (c' : List AV) (i : Nat) (v : Value) (B A S : FP), handL bw c regs c' K → relSL Z η w regs vs B → idsBL n regs → relS Z η w (.box i c') v A → idsB n (.box i c') → join S A B →
        ∃ Z' A' B' regs', HOut bw Z η w n vs S A (fun Z' A' => rel0 Z' w (.box j c) v A') K regs Z' A' B' regs' := by
      intro regs c' i v B A S h hR hI ha hai hj
      simp only [relS] at ha
      simp only [idsB] at hai
      obtain ⟨e0, b, arr, ty, S1, e, hb, hr, hj2⟩ := ha
      obtain ⟨Z', A', B', regs', ho⟩ := handL_ok c regs c' K h Z vs arr.toList B S1 (fun x => S1 x ∨ B x) hR hI hr hai.2 ⟨fun _ => Iff.rfl, fun x p q => hj.2 x ((hj2.1 x).2 (.inr p)) q⟩
      have hbA : A b := (hj2.1 b).2 (.inl rfl)
      have hnot : ¬ (S1 b ∨ B b) := fun x => x.elim (fun x => hj2.2 b rfl x) (fun x => hj.2 b hbA x)
      refine ⟨Z', fun x => x = b ∨ A' x, B', regs', ⟨ho.rel, ho.ids, ?_, ho.zz, ?_, ?_, ?_, ?_, ho.ownB, ?_, ho.fix, ho.k⟩⟩
      · simp only [rel0]
        exact ⟨b, arr, ty, A', e, hb, ho.got, ⟨fun x => Iff.rfl, fun x p q => hnot (by have := ho.part x (.inl q); rw [p] at this; exact this)⟩⟩
      · intro x hx hx'
        have := ho.gone x hx hx'
        exact (hj.1 x).2 (this.imp (fun p => (hj2.1 x).2 (.inr p)) id)
      · intro x hx
        rcases hx with (hx | hx) | hx
        · subst hx; exact (hj.1 x).2 (.inl hbA)
        · exact (hj.1 x).2 ((ho.part x (.inl hx)).imp (fun p => (hj2.1 x).2 (.inr p)) id)
        · exact (hj.1 x).2 ((ho.part x (.inr hx)).imp (fun p => (hj2.1 x).2 (.inr p)) id)
      · intro x hx hy
        rcases hx with hx | hx
        · subst hx; exact hnot (ho.part x (.inr hy))
        · exact ho.dis x hx hy
      · intro x hx hz
        rcases hx with hx | hx
        · subst hx
          exact Classical.byContradiction fun hn => hnot (ho.gone x hz hn)
        · exact ho.ownA x hx hz
      · intro hbw x hx
        rcases hx with hx | hx
        · subst hx; exact hbA
        · exact (hj2.1 x).2 (.inr (ho.stay hbw x hx))
    unfold hand1 at h; split at h
    · rename_i i c'
      exact core regs c' i v B A S h hR hI ha hai hj
    · rename_i id
      split at h
      · exact h.elim
      · split at h
        · rename_i i c' regs' ht
          obtain ⟨A1, B1, hj1, hio, hro, hrr⟩ := takeL_ok regs vs B _ _ hR ht
          obtain ⟨h1, h2, h3⟩ := takeL_ids regs _ _ hI ht
          simp only [relS] at ha
          have hro' := hro
          simp only [relS] at hro'
          obtain ⟨_, b, arr, ty, S1, e, _⟩ := hro'
          have hv : v = η id := ha.1
          rw [← hv] at hro
          obtain ⟨Z', A', B', regs2, ho⟩ := core regs' c' i v B1 A1 S h hrr h3 hro h2 (by
            rw [show S = B from fp_ext (join_emp_l hj ha.2.2)]; exact hj1)
          exact ⟨Z', A', B', regs2, ho.rel, ho.ids, ho.got, ho.zz, ho.gone, ho.part, ho.dis, ho.ownA, ho.ownB, (fun hbw => by cases hbw), (fun hbw => by cases hbw), ho.k⟩
        · exact h.elim
    · exact h.elim
  | .sl true j sz α f xs, regs, a, K, h, Z, vs, v, B, A, S, hR, hI, ha, hai, hj => by
    unfold hand1 at h; split at h
    · obtain ⟨rfl, h⟩ := h
      refine ⟨_, _, _, _, HOut.same hj hR hI (fun _ h => h) ?_ h⟩
      simp only [relS, rel0] at ha ⊢
      refine ⟨none, 0, 0, ha.1, rfl, Nat.le_refl _, .inl ⟨trivial, .inl ⟨rfl, rfl, ha.2⟩⟩⟩
    · obtain ⟨he, h⟩ := h
      refine ⟨_, _, _, _, HOut.same hj hR hI (fun _ h => h) ?_ h⟩
      simp only [relS] at ha
      exact sl_eq_own he ha.2
    · rename_i id
      split at h
      · exact h.elim
      · split at h
        · rename_i i sz' α' f' xs' regs' ht
          obtain ⟨he, h⟩ := h
          obtain ⟨A1, B1, hj1, hio, hro, hrr⟩ := takeL_ok regs vs B _ _ hR ht
          obtain ⟨h1, h2, h3⟩ := takeL_ids regs _ _ hI ht
          simp only [relS] at ha hro
          have hS : S = B := fp_ext (join_emp_l hj ha.2.2)
          subst hS
          have hg : rel0 Z w (.sl true j sz α f xs) v A1 := by rw [ha.1]; exact sl_eq_own he hro.2
          have ho := HOut.same (bw := false) (R := fun Z' A' => rel0 Z' w (.sl true j sz α f xs) v A') (K := K) hj1 hrr h3 (fun _ h => h) hg h
          exact ⟨Z, A1, B1, regs', ho.rel, ho.ids, ho.got, ho.zz, ho.gone, ho.part, ho.dis, ho.ownA, ho.ownB, (fun hbw => by cases hbw), (fun hbw => by cases hbw), ho.k⟩
        · exact h.elim
    · exact h.elim
  | .sl false j sz α f xs, regs, a, K, h, Z, vs, v, B, A, S, hR, hI, ha, hai, hj => by
    unfold hand1 at h; split at h
    · obtain ⟨rfl, h⟩ := h
      refine ⟨_, _, _, _, HOut.same hj hR hI (fun _ h => h) ?_ h⟩
      simp only [relS, rel0] at ha ⊢
      refine ⟨none, 0, 0, ha.1, rfl, Nat.le_refl _, .inr ⟨trivial, ha.2, .inl trivial⟩⟩
    · obtain ⟨he, h⟩ := h
      refine ⟨_, _, _, _, HOut.same hj hR hI (fun _ h => h) ?_ h⟩
      simp only [relS] at ha
      exact sl_eq_own he ha.2
    · obtain ⟨he, h⟩ := h
      have hfr := frz_self (id := 0) (own' := true) ha
      have hzz : ∀ b, (Z b ∧ ¬ A b) → Z b := fun b h => h.1
      refine ⟨fun b => Z b ∧ ¬ A b, fun _ => False, B, regs, ⟨relSL_mono (zmono hzz) (fun _ _ => rfl) _ _ _ hI (fun _ _ => rfl) hR, hI, sl_eq_own he hfr, hzz, ?_, ?_, fun _ h => h.elim, fun _ h => h.elim, ?_, (fun _ _ h => h.elim), (fun _ => rfl), h⟩⟩
      · intro b h1 h2
        refine (hj.1 b).2 (.inl ?_)
        exact Classical.byContradiction fun hn => h2 ⟨h1, hn⟩
      · intro b hb; exact (hj.1 b).2 (.inr (hb.resolve_left id))
      · intro _ b hb hz; exact ⟨hz, fun x => hj.2 b x hb⟩
    · rename_i id
      split at h
      · split at h
        · rename_i i sz' α' f' xs' ho
          obtain ⟨he, h⟩ := h
          obtain ⟨A1, hA1, hio, hro⟩ := findL_ok regs vs B _ hR ho
          simp only [relS] at ha
          have hS : S = B := fp_ext (join_emp_l hj ha.2.2)
          subst hS
          have hfr := frz_self (id := 0) (own' := true) hro
          have hzz : ∀ b, (Z b ∧ ¬ A1 b) → Z b := fun b h => h.1
          refine ⟨fun b => Z b ∧ ¬ A1 b, fun _ => False, S, regs, ⟨relSL_mono (zmono hzz) (fun _ _ => rfl) _ _ _ hI (fun _ _ => rfl) hR, hI, ?_, hzz, ?_, ?_, fun _ h => h.elim, fun _ h => h.elim, (fun hh => by simp at hh), (fun _ _ h => h.elim), (fun _ => rfl), h⟩⟩
          · rw [ha.1]; exact sl_eq_own he hfr
          · intro b h1 h2
            exact Classical.byContradiction fun hn => h2 ⟨h1, fun x => hn (hA1 b x)⟩
          · intro b hb; exact hb.resolve_left (fun x => x)
        · exact h.elim
      · split at h
        · rename_i i sz' α' f' xs' regs' ht
          obtain ⟨he, h⟩ := h
          obtain ⟨A1, B1, hj1, hio, hro, hrr⟩ := takeL_ok regs vs B _ _ hR ht
          obtain ⟨h1, h2, h3⟩ := takeL_ids regs _ _ hI ht
          simp only [relS] at ha
          have hS : S = B := fp_ext (join_emp_l hj ha.2.2)
          subst hS
          have hfr := frz_self (id := 0) (own' := true) hro
          have hzz : ∀ b, (Z b ∧ ¬ A1 b) → Z b := fun b h => h.1
          have hrr' := relSL_mono (zmono (w := w) hzz) (fun _ _ => rfl) _ _ _ h3 (fun _ _ => rfl) hrr
          refine ⟨fun b => Z b ∧ ¬ A1 b, fun _ => False, B1, _, ⟨subL_ok ?_ _ _ _ hrr', subL_ids ?_ _ h3, ?_, hzz, ?_, ?_, fun _ h => h.elim, fun _ h => h.elim, ?_, (fun _ _ h => h.elim), (fun hbw => by cases hbw), h⟩⟩
          · simp only [relS]; exact ⟨(fun o => by cases o), hfr⟩
          · simp only [idsB]; intro o; cases o
          · rw [ha.1]; exact sl_eq_own he hfr
          · intro b h1 h2
            refine (hj1.1 b).2 (.inl ?_)
            exact Classical.byContradiction fun hn => h2 ⟨h1, hn⟩
          · intro b hb; exact (hj1.1 b).2 (.inr (hb.resolve_left (fun x => x)))
          · intro _ b hb hz; exact ⟨hz, fun x => hj1.2 b x hb⟩
        · exact h.elim
    · exact h.elim
  | .hole _, regs, a, K, h, Z, vs, v, B, A, S, hR, hI, ha, hai, hj => by unfold hand1 at h; exact h.elim
  | .al _, regs, a, K, h, Z, vs, v, B, A, S, hR, hI, ha, hai, hj => by unfold hand1 at h; exact h.elim
  | .po _ _ _ _, regs, a, K, h, Z, vs, v, B, A, S, hR, hI, ha, hai, hj => by unfold hand1 at h; exact h.elim
theorem handL_ok {bw : Bool} {η : Nat → Value} {w : World} {n : Nat} : ∀ (es : List AV) (regs : List AV) (as : List AV) (K : List AV → Prop), handL bw es regs as K →
    ∀ (Z : FP) (vs : List Value) (us : List Value) (B A S : FP), relSL Z η w regs vs B → idsBL n regs → relSL Z η w as us A → idsBL n as → join S A B →
    ∃ Z' A' B' regs', HOut bw Z η w n vs S A (fun Z' A' => rel0L Z' w es us A') K regs Z' A' B' regs'
  | [], regs, as, K, h, Z, vs, us, B, A, S, hR, hI, ha, hai, hj => by
    unfold handL at h
    split at h
    · simp only [relSL] at ha
      refine ⟨_, _, _, _, HOut.same hj hR hI (fun _ h => h) ?_ h⟩
      simp only [rel0L]; exact ha
    · exact h.elim
  | e :: es, regs, as, K, h, Z, vs, us, B, A, S, hR, hI, ha, hai, hj => by
    unfold handL at h
    split at h
    · exact h.elim
    · rename_i a as
      simp only [relSL] at ha
      simp only [idsBL] at hai
      obtain ⟨v, us', A1, A2, eu, hj2, ha1, ha2⟩ := ha
      obtain ⟨Z1, A1', B1', regs1, h1⟩ := hand1_ok e regs a _ h Z vs v B A1 (fun x => A1 x ∨ B x) hR hI ha1 hai.1
        ⟨fun _ => Iff.rfl, fun x p q => hj.2 x ((hj2.1 x).2 (.inl p)) q⟩
      have ha2' := relSL_mono (zmono (w := w) h1.zz) (fun _ _ => rfl) _ _ _ hai.2 (fun _ _ => rfl) ha2
      have hd : ∀ x, A2 x → ¬ (A1 x ∨ B x) := fun x p q => q.elim (fun q => hj2.2 x q p) (fun q => hj.2 x ((hj2.1 x).2 (.inr p)) q)
      obtain ⟨Z2, A2', B2', regs2, h2⟩ := handL_ok es regs1 as K h1.k Z1 vs us' B1' A2 (fun x => A2 x ∨ B1' x) h1.rel h1.ids ha2' hai.2
        ⟨fun _ => Iff.rfl, fun x p q => hd x p (h1.part x (.inr q))⟩
      have hsub : ∀ x, A1 x ∨ B x → S x := fun x p => (hj.1 x).2 (p.imp (fun p => (hj2.1 x).2 (.inl p)) id)
      have hsub2 : ∀ x, A2 x ∨ B1' x → S x := fun x p => p.elim (fun p => (hj.1 x).2 (.inl ((hj2.1 x).2 (.inr p)))) (fun p => hsub x (h1.part x (.inr p)))
      have hx : ∀ x, A1' x → ¬ (A2 x ∨ B1' x) := fun x p q => q.elim (fun q => hd x q (h1.part x (.inl p))) (fun q => h1.dis x p q)
      refine ⟨Z2, fun x => A1' x ∨ A2' x, B2', regs2, ⟨h2.rel, h2.ids, ?_, fun b hb => h1.zz b (h2.zz b hb), ?_, ?_, ?_, ?_, ?_, ?_, (fun hbw => by rw [h2.fix hbw, h1.fix hbw]), h2.k⟩⟩
      · simp only [rel0L]
        refine ⟨v, us', A1', A2', eu, ⟨fun _ => Iff.rfl, fun x p q => hx x p (h2.part x (.inl q))⟩, ?_, h2.got⟩
        exact rel0_mono (zmono h2.zz) _ _ _ (fun _ _ => rfl) h1.got
      · intro b hz hz2
        by_cases hz1 : Z1 b
        · exact hsub2 b (h2.gone b hz1 hz2)
        · exact hsub b (h1.gone b hz hz1)
      · intro b hb
        rcases hb with (hb | hb) | hb
        · exact hsub b (h1.part b (.inl hb))
        · exact hsub2 b (h2.part b (.inl hb))
        · exact hsub2 b (h2.part b (.inr hb))
      · intro b hb hc
        rcases hb with hb | hb
        · exact hx b hb (h2.part b (.inr hc))
        · exact h2.dis b hb hc
      · intro b hb hz
        rcases hb with hb | hb
        · have hz1 := h1.ownA b hb hz
          exact Classical.byContradiction fun hn => hx b hb (h2.gone b hz1 hn)
        · have hz1 : Z1 b := Classical.byContradiction fun hn => by
            have := h1.gone b hz hn
            rcases Bool.eq_false_or_eq_true bw with hbw | hbw
            · exact hd b (h2.stay hbw b hb) this
            · rcases h2.part b (.inl hb) with hq | hq
              · exact hd b hq this
              · exact hn (h1.ownB hbw b hq hz)
          exact h2.ownA b hb hz1
      · intro hbw b hb hz
        have hz1 : Z1 b := Classical.byContradiction fun hn => by
            have := h1.gone b hz hn
            rcases h2.part b (.inr hb) with hq | hq
            · exact hd b hq this
            · exact hn (h1.ownB hbw b hq hz)
        exact h2.ownB hbw b hb hz1
      · intro hbw b hb
        rcases hb with hb | hb
        · exact (hj2.1 b).2 (.inl (h1.stay hbw b hb))
        · exact (hj2.1 b).2 (.inr (h2.stay hbw b hb))
end

end Go.Eng
